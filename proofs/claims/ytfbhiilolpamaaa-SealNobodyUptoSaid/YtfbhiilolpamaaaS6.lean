/- Each function that stands here: what its call must answer for (_VC), that it does (_ok), the walk through its code (_walk), its contract (_c). -/
import Derived.Test.YtfbhiilolpamaaaS5
import Derived.Test.YtfbhiilolpamaaaChecked
set_option linter.unusedVariables false
set_option maxRecDepth 100000
set_option maxHeartbeats 2000000
namespace Go.Proofs.Ytfbhiilolpamaaa
open Go Go.RowKit Go.Inc
def take_VC (a0_s : (List Int)) (a1_b : (List UInt8)) (Q : (List Int) → Prop) : Prop :=
  ∃ (I5 : Int → (List Int) → Prop) (μ5 : Int → (List Int) → Nat), I5 0 (List.replicate 64 (0 : Int)) ∧ ∀ (i5 : Int) (b5 : (List Int)), I5 i5 b5 → ((Kd.int .i64).wf i5) → (kd_a64_u32.wf b5) → (((i5 < 64) → ((i5 < 16) → (0 ≤ (IntKind.i64.wrap (4 * i5)) ∧ (IntKind.i64.wrap (4 * i5)) < (a1_b.length : Int)) ∧ ((0 ≤ (IntKind.i64.wrap ((IntKind.i64.wrap (4 * i5)) + 1)) ∧ (IntKind.i64.wrap ((IntKind.i64.wrap (4 * i5)) + 1)) < (a1_b.length : Int)) ∧ ((0 ≤ (IntKind.i64.wrap ((IntKind.i64.wrap (4 * i5)) + 2)) ∧ (IntKind.i64.wrap ((IntKind.i64.wrap (4 * i5)) + 2)) < (a1_b.length : Int)) ∧ ((0 ≤ (IntKind.i64.wrap ((IntKind.i64.wrap (4 * i5)) + 3)) ∧ (IntKind.i64.wrap ((IntKind.i64.wrap (4 * i5)) + 3)) < (a1_b.length : Int)) ∧ ((0 ≤ i5 ∧ i5 < 64) ∧ (I5 (IntKind.i64.wrap (i5 + 1)) (b5.set i5.toNat (bor .u32 (bor .u32 (bor .u32 (shl .u32 (bI (ix a1_b (IntKind.i64.wrap (4 * i5)))) 24) (shl .u32 (bI (ix a1_b (IntKind.i64.wrap ((IntKind.i64.wrap (4 * i5)) + 1)))) 16)) (shl .u32 (bI (ix a1_b (IntKind.i64.wrap ((IntKind.i64.wrap (4 * i5)) + 2)))) 8)) (bI (ix a1_b (IntKind.i64.wrap ((IntKind.i64.wrap (4 * i5)) + 3)))))) ∧ μ5 (IntKind.i64.wrap (i5 + 1)) (b5.set i5.toNat (bor .u32 (bor .u32 (bor .u32 (shl .u32 (bI (ix a1_b (IntKind.i64.wrap (4 * i5)))) 24) (shl .u32 (bI (ix a1_b (IntKind.i64.wrap ((IntKind.i64.wrap (4 * i5)) + 1)))) 16)) (shl .u32 (bI (ix a1_b (IntKind.i64.wrap ((IntKind.i64.wrap (4 * i5)) + 2)))) 8)) (bI (ix a1_b (IntKind.i64.wrap ((IntKind.i64.wrap (4 * i5)) + 3)))))) < μ5 i5 b5)))))) ∧ ((¬ (i5 < 16)) → (0 ≤ (IntKind.i64.wrap (i5 - 16)) ∧ (IntKind.i64.wrap (i5 - 16)) < 64) ∧ ((0 ≤ (IntKind.i64.wrap (i5 - 7)) ∧ (IntKind.i64.wrap (i5 - 7)) < 64) ∧ ((0 ≤ (IntKind.i64.wrap (i5 - 15)) ∧ (IntKind.i64.wrap (i5 - 15)) < 64) ∧ ((0 ≤ (IntKind.i64.wrap (i5 - 15)) ∧ (IntKind.i64.wrap (i5 - 15)) < 64) ∧ ((0 ≤ (IntKind.i64.wrap (i5 - 2)) ∧ (IntKind.i64.wrap (i5 - 2)) < 64) ∧ ((0 ≤ (IntKind.i64.wrap (i5 - 2)) ∧ (IntKind.i64.wrap (i5 - 2)) < 64) ∧ ((0 ≤ i5 ∧ i5 < 64) ∧ (I5 (IntKind.i64.wrap (i5 + 1)) (b5.set i5.toNat (IntKind.u32.wrap ((IntKind.u32.wrap ((IntKind.u32.wrap ((ix b5 (IntKind.i64.wrap (i5 - 16))) + (ix b5 (IntKind.i64.wrap (i5 - 7))))) + (bxor .u32 (turnsOf (ix b5 (IntKind.i64.wrap (i5 - 15))) [7, 18]) (shr .u32 (ix b5 (IntKind.i64.wrap (i5 - 15))) 3)))) + (bxor .u32 (turnsOf (ix b5 (IntKind.i64.wrap (i5 - 2))) [17, 19]) (shr .u32 (ix b5 (IntKind.i64.wrap (i5 - 2))) 10))))) ∧ μ5 (IntKind.i64.wrap (i5 + 1)) (b5.set i5.toNat (IntKind.u32.wrap ((IntKind.u32.wrap ((IntKind.u32.wrap ((ix b5 (IntKind.i64.wrap (i5 - 16))) + (ix b5 (IntKind.i64.wrap (i5 - 7))))) + (bxor .u32 (turnsOf (ix b5 (IntKind.i64.wrap (i5 - 15))) [7, 18]) (shr .u32 (ix b5 (IntKind.i64.wrap (i5 - 15))) 3)))) + (bxor .u32 (turnsOf (ix b5 (IntKind.i64.wrap (i5 - 2))) [17, 19]) (shr .u32 (ix b5 (IntKind.i64.wrap (i5 - 2))) 10))))) < μ5 i5 b5))))))))) ∧ ((¬ (i5 < 64)) → (kd_a64_u32.wf shaK) → (∃ (I79 : Int → (List Int) → Prop) (μ79 : Int → (List Int) → Nat), I79 0 a0_s ∧ ∀ (i79 : Int) (b79 : (List Int)), I79 i79 b79 → ((Kd.int .i64).wf i79) → (kd_a8_u32.wf b79) → (((i79 < 64) → (0 ≤ i79 ∧ i79 < 64) ∧ ((0 ≤ i79 ∧ i79 < 64) ∧ (I79 (IntKind.i64.wrap (i79 + 1)) [(IntKind.u32.wrap ((IntKind.u32.wrap ((IntKind.u32.wrap ((IntKind.u32.wrap ((IntKind.u32.wrap ((ix b79 7) + (turnsOf (ix b79 4) [6, 11, 25]))) + (bxor .u32 (band .u32 (ix b79 4) (ix b79 5)) (band .u32 (bxor .u32 4294967295 (ix b79 4)) (ix b79 6))))) + (ix shaK i79))) + (ix b5 i79))) + (IntKind.u32.wrap ((turnsOf (ix b79 0) [2, 13, 22]) + (bxor .u32 (bxor .u32 (band .u32 (ix b79 0) (ix b79 1)) (band .u32 (ix b79 0) (ix b79 2))) (band .u32 (ix b79 1) (ix b79 2))))))), (ix b79 0), (ix b79 1), (ix b79 2), (IntKind.u32.wrap ((ix b79 3) + (IntKind.u32.wrap ((IntKind.u32.wrap ((IntKind.u32.wrap ((IntKind.u32.wrap ((ix b79 7) + (turnsOf (ix b79 4) [6, 11, 25]))) + (bxor .u32 (band .u32 (ix b79 4) (ix b79 5)) (band .u32 (bxor .u32 4294967295 (ix b79 4)) (ix b79 6))))) + (ix shaK i79))) + (ix b5 i79))))), (ix b79 4), (ix b79 5), (ix b79 6)] ∧ μ79 (IntKind.i64.wrap (i79 + 1)) [(IntKind.u32.wrap ((IntKind.u32.wrap ((IntKind.u32.wrap ((IntKind.u32.wrap ((IntKind.u32.wrap ((ix b79 7) + (turnsOf (ix b79 4) [6, 11, 25]))) + (bxor .u32 (band .u32 (ix b79 4) (ix b79 5)) (band .u32 (bxor .u32 4294967295 (ix b79 4)) (ix b79 6))))) + (ix shaK i79))) + (ix b5 i79))) + (IntKind.u32.wrap ((turnsOf (ix b79 0) [2, 13, 22]) + (bxor .u32 (bxor .u32 (band .u32 (ix b79 0) (ix b79 1)) (band .u32 (ix b79 0) (ix b79 2))) (band .u32 (ix b79 1) (ix b79 2))))))), (ix b79 0), (ix b79 1), (ix b79 2), (IntKind.u32.wrap ((ix b79 3) + (IntKind.u32.wrap ((IntKind.u32.wrap ((IntKind.u32.wrap ((IntKind.u32.wrap ((ix b79 7) + (turnsOf (ix b79 4) [6, 11, 25]))) + (bxor .u32 (band .u32 (ix b79 4) (ix b79 5)) (band .u32 (bxor .u32 4294967295 (ix b79 4)) (ix b79 6))))) + (ix shaK i79))) + (ix b5 i79))))), (ix b79 4), (ix b79 5), (ix b79 6)] < μ79 i79 b79))) ∧ ((¬ (i79 < 64)) → ∃ (I121 : Int → (List Int) → Prop) (μ121 : Int → (List Int) → Nat), I121 0 a0_s ∧ ∀ (i121 : Int) (b121 : (List Int)), I121 i121 b121 → ((Kd.int .i64).wf i121) → (kd_a8_u32.wf b121) → (((i121 < 8) → (0 ≤ i121 ∧ i121 < 8) ∧ ((0 ≤ i121 ∧ i121 < 8) ∧ ((0 ≤ i121 ∧ i121 < 8) ∧ (I121 (IntKind.i64.wrap (i121 + 1)) (b121.set i121.toNat (IntKind.u32.wrap ((ix b121 i121) + (ix b79 i121)))) ∧ μ121 (IntKind.i64.wrap (i121 + 1)) (b121.set i121.toNat (IntKind.u32.wrap ((ix b121 i121) + (ix b79 i121)))) < μ121 i121 b121)))) ∧ ((¬ (i121 < 8)) → Q b121)))))))
theorem take_ok {a0_s : (List Int)} {a1_b : (List UInt8)} (w_0 : kd_a8_u32.wf a0_s) (w_1 : kd_l_u8.wf a1_b) (hp : a1_b.length = 64) : take_VC a0_s a1_b (fun o0 => o0 = (takeW a0_s a1_b)) := by
  have wr : ∀ a : Int, -1000 ≤ a → a ≤ 1000 → IntKind.i64.wrap a = a := fun a h1 h2 => wrap_id (wf64 (by omega) (by omega))
  unfold take_VC
  refine ⟨fun i w => ∃ n : Nat, i = (n : Int) ∧ n ≤ 64 ∧ w = wordsN a1_b n, fun i _ => 64 - i.toNat, ⟨0, rfl, by omega, rfl⟩, ?_⟩
  rintro i w ⟨n, rfl, hn, rfl⟩ _ _
  refine ⟨fun hlt => ⟨fun h16 => ?_, fun h16 => ?_⟩, fun hge _ => ?_⟩
  · rw [wr (4 * (n : Int)) (by omega) (by omega), wr (4 * (n : Int) + 1) (by omega) (by omega), wr (4 * (n : Int) + 2) (by omega) (by omega), wr (4 * (n : Int) + 3) (by omega) (by omega), wr ((n : Int) + 1) (by omega) (by omega)]
    refine ⟨by omega, by omega, by omega, by omega, by omega, ⟨n + 1, by omega, by omega, ?_⟩, ?_⟩
    · simp only [wordsN, Int.toNat_natCast]
      rw [if_pos (by omega)]
      rfl
    · show 64 - ((n : Int) + 1).toNat < 64 - (n : Int).toNat
      omega
  · rw [wr ((n : Int) - 16) (by omega) (by omega), wr ((n : Int) - 7) (by omega) (by omega), wr ((n : Int) - 15) (by omega) (by omega), wr ((n : Int) - 2) (by omega) (by omega), wr ((n : Int) + 1) (by omega) (by omega)]
    refine ⟨by omega, by omega, by omega, by omega, by omega, by omega, by omega, ⟨n + 1, by omega, by omega, ?_⟩, ?_⟩
    · simp only [wordsN, Int.toNat_natCast]
      rw [if_neg (by omega)]
      rfl
    · show 64 - ((n : Int) + 1).toNat < 64 - (n : Int).toNat
      omega
  · have : n = 64 := by omega
    subst this
    refine ⟨fun i x => ∃ n : Nat, i = (n : Int) ∧ n ≤ 64 ∧ x = roundsN (wordsN a1_b 64) a0_s n, fun i _ => 64 - i.toNat, ⟨0, rfl, by omega, rfl⟩, ?_⟩
    rintro i x ⟨n, rfl, hn, rfl⟩ _ _
    refine ⟨fun hlt => ⟨by omega, by omega, ?_⟩, fun hge => ?_⟩
    · rw [wr ((n : Int) + 1) (by omega) (by omega)]
      refine ⟨⟨n + 1, by omega, by omega, rfl⟩, ?_⟩
      show 64 - ((n : Int) + 1).toNat < 64 - (n : Int).toNat
      omega
    · have : n = 64 := by omega
      subst this
      refine ⟨fun i s => ∃ n : Nat, i = (n : Int) ∧ n ≤ 8 ∧ s = addN a0_s (roundsN (wordsN a1_b 64) a0_s 64) n, fun i _ => 8 - i.toNat, ⟨0, rfl, by omega, rfl⟩, ?_⟩
      rintro i s ⟨n, rfl, hn, rfl⟩ _ _
      refine ⟨fun hlt => ⟨by omega, by omega, by omega, ?_⟩, fun hge => ?_⟩
      · rw [wr ((n : Int) + 1) (by omega) (by omega)]
        refine ⟨⟨n + 1, by omega, by omega, by simp [addN]⟩, ?_⟩
        show 8 - ((n : Int) + 1).toNat < 8 - (n : Int).toNat
        omega
      · have : n = 8 := by omega
        subst this
        rfl

theorem take_walk {w0 : World} {K0 : Ghost} {a0_s_b : Nat} {a0_s_pre a0_s_post : List Value} {a0_s : (List Int)} {a1_b_v : Value} {a1_b : (List UInt8)} {Q : (List Int) → Prop} (hM0 : Models w0 K0) (h_a0_s_B : Bx kd_a8_u32 w0 K0 a0_s_b a0_s_pre a0_s_post a0_s) (h_a1_b : kd_l_u8.V K0 a1_b a1_b_v) (h : take_VC a0_s a1_b Q) : Calls Try.prog 93 #[(.pointer (some ⟨a0_s_b, a0_s_pre.length, none⟩)), a1_b_v] w0 (fun e w' => ∃ (K' : Ghost) (o0 : (List Int)), e = .returned (.tuple #[]) ∧ Q o0 ∧ Ext (fun c => c = a0_s_b) w0 K0 w' K' ∧ Models w' K' ∧ Bx kd_a8_u32 w' K' a0_s_b a0_s_pre a0_s_post o0) := by
  unfold take_VC at h
  have hE0 : Ext (fun c => c = a0_s_b) w0 K0 w0 K0 := Ext.refl _ _ _
  refine calls_gen fun R hR => ?_
  refine calls_env (args := [(.pointer (some ⟨a0_s_b, a0_s_pre.length, none⟩)), a1_b_v]) Try.func93 rfl (Nat.le_of_ble_eq_true rfl) ?_
  refine WP_seq ?_
  refine WP_region ?_
  refine WL_eff rfl rfl (St_B (S_alloc hM0 ty165) ?_)
  rintro b3 w3 (hB3 : Bx kd_a64_u32 _ _ _ _ _ (List.replicate 64 (0 : Int))) hS3 hM3 hge3
  have hE3 := hE0.andN hS3
  refine WL_nil ?_
  refine WP_seq ?_
  refine WP_seq ?_
  refine WP_region ?_
  refine WL_pure (.int .i64 0) (R_mv rfl) rfl rfl ?_
  refine WL_nil ?_
  refine WP_block ?_
  obtain ⟨I5, μ5, h0, h⟩ := h
  refine WP_loopE (ι := Int × (List Int)) [5, 14, 15, 16, 17, 18, 19, 20, 21, 22, 23, 24, 25, 26, 27, 28, 29, 30, 31, 32, 33, 34, 35, 36, 37, 38, 39, 40, 41, 42, 43, 44, 45, 46, 47, 48, 49, 50, 51, 52, 53, 54, 55, 56, 57, 58, 59, 60, 61, 62, 63, 64, 65, 66, 67, 68, 69, 70, 71, 72, 73, 74, 75, 76, 77, 78, 79, 80, 81, 82, 83, 84, 85, 86, 87, 88, 89, 90, 91] (fun s l w => ∃ K, I5 s.1 s.2 ∧ l = [(14, (.int .i64 s.1))] ∧ Ext (fun c => c = b3) w3 K0 w K ∧ Models w K ∧ (Kd.int .i64).wf s.1 ∧ Bx kd_a64_u32 w K b3 [] [] s.2) (fun s => μ5 s.1 s.2) (0, (List.replicate 64 (0 : Int))) [(14, (.int .i64 0))]
    ⟨K0, h0, rfl, Ext.refl _ _ _, hM3, (show (Kd.int .i64).wf 0 from by constructor <;> decide), hB3⟩ (by repeat (first | exact trivial | refine ⟨rfl, ?_⟩)) ?_
  rintro ⟨i5, b5⟩ l σ5 w6 ⟨K6, hI, rfl, hX6, hM6, hw5_14, hL5_4⟩
  dsimp only at hI hw5_14 hL5_4
  have hE6 := hE3.comp hX6 (fun c hx hlt => (by subst hx; exact (fun hlt => absurd hlt (Nat.not_lt.2 (Nat.le_trans hE0.size hge3))) hlt))
  have h := h i5 b5 hI hw5_14 hL5_4.wf
  refine WP_seq ?_
  refine WP_region ?_
  refine WL_pure (.bool (decide (i5 < 64))) (R_lss rfl rfl) rfl rfl ?_
  refine WL_nil ?_
  refine WP_seq ?_
  refine WP_cond (decide (i5 < 64)) rfl (fun hc7 => ?_) (fun hc7 => ?_)
  · have hd7 : i5 < 64 := dec_t hc7
    have h := h.1 hd7
    refine WP_skip ?_
    refine WP_seq ?_
    refine WP_block ?_
    refine WP_seq ?_
    refine WP_region ?_
    refine WL_pure (.int .i64 i5) (R_mv rfl) rfl rfl ?_
    refine WL_pure (.int .i64 i5) (R_as rfl) rfl rfl ?_
    refine WL_nil ?_
    refine WP_seq ?_
    refine WP_seq ?_
    refine WP_region ?_
    refine WL_pure (.int .i64 i5) (R_mv rfl) rfl rfl ?_
    refine WL_pure (.bool (decide (i5 < 16))) (R_lss rfl rfl) rfl rfl ?_
    refine WL_nil ?_
    refine WP_cond (decide (i5 < 16)) rfl (fun hc8 => ?_) (fun hc8 => ?_)
    · have hd8 : i5 < 16 := dec_t hc8
      have h := h.1 hd8
      refine WP_seq ?_
      refine WP_ordD (K := K6) (fun c => c = b3 ∨ w6.heap.size ≤ c) [.o 0 2, .o 1 2, .o 2 2, .o 3 2, .o 4 2, .o 5 2, .o 6 2, .o 7 2, .o 8 2, .o 9 2, .o 10 2, .o 11 2, .o 12 2, .o 13 2, .o 14 2, .o 15 2, .o 16 2, .o 17 2, .o 18 2, .o 19 2, .o 20 2, .o 21 2, .o 22 2, .o 23 2, .o 24 2, .o 25 2, .o 26 2, .o 27 2, .o 28 2, .o 29 2, .o 30 2, .o 31 2, .o 32 2, .o 33 2, .o 34 2, .o 35 1] (by kernel_rfl) (by kernel_rfl) hM6 ?_
      rintro w9 hS9 hM9
      have hE9 := hE6.andN hS9
      refine WO_pure (.int .i64 i5) rfl l0 hM9 (fun _ => R_mv rfl) rfl (gN rfl) rfl ?_
      refine WO_pure a1_b_v rfl l0 hM9 (fun _ => R_mv rfl) rfl (gN rfl) rfl ?_
      refine WO_pure (.int .i64 i5) rfl l0 hM9 (fun _ => R_mv rfl) rfl (gN rfl) rfl ?_
      refine WO_pure (.int .i64 (IntKind.i64.wrap (4 * i5))) rfl l0 hM9 (fun _ => R_mul rfl rfl) rfl (gN rfl) rfl ?_
      obtain ⟨hp11, h⟩ := h
      refine WO_P rfl l0 hM9 (S_ixs rfl (h_a1_b.mono (hS3.le.trans (hX6.le.trans hS9.le))) rfl Try.underlying39 ty5b hp11.1 hp11.2) rfl (gN rfl) rfl ?_
      rintro b10 o10 hP10
      refine WO_L0 hM9 (S_ld rfl ty5b hP10) rfl (gN rfl) rfl ?_
      rintro v13 (hV13 : Kd.byte.V _ (ix a1_b (IntKind.i64.wrap (4 * i5))) _)
      obtain rfl := byte_form hV13
      refine WO_pure (.int .u32 (bI (ix a1_b (IntKind.i64.wrap (4 * i5))))) rfl l0 hM9 (fun _ => R_cvn rfl Try.underlying5 Try.underlying123 (bI_wf _) (by decide) (by decide)) rfl (gN rfl) rfl ?_
      refine WO_pure (.int .u32 (shl .u32 (bI (ix a1_b (IntKind.i64.wrap (4 * i5)))) 24)) rfl l0 hM9 (fun _ => R_shl rfl rfl (by decide)) rfl (gN rfl) rfl ?_
      refine WO_pure a1_b_v rfl l0 hM9 (fun _ => R_mv rfl) rfl (gN rfl) rfl ?_
      refine WO_pure (.int .i64 i5) rfl l0 hM9 (fun _ => R_mv rfl) rfl (gN rfl) rfl ?_
      refine WO_pure (.int .i64 (IntKind.i64.wrap (4 * i5))) rfl l0 hM9 (fun _ => R_mul rfl rfl) rfl (gN rfl) rfl ?_
      refine WO_pure (.int .i64 (IntKind.i64.wrap ((IntKind.i64.wrap (4 * i5)) + 1))) rfl l0 hM9 (fun _ => R_add rfl rfl) rfl (gN rfl) rfl ?_
      obtain ⟨hp15, h⟩ := h
      refine WO_P rfl l0 hM9 (S_ixs rfl (h_a1_b.mono (hS3.le.trans (hX6.le.trans hS9.le))) rfl Try.underlying39 ty5b hp15.1 hp15.2) rfl (gN rfl) rfl ?_
      rintro b14 o14 hP14
      refine WO_L0 hM9 (S_ld rfl ty5b hP14) rfl (gN rfl) rfl ?_
      rintro v17 (hV17 : Kd.byte.V _ (ix a1_b (IntKind.i64.wrap ((IntKind.i64.wrap (4 * i5)) + 1))) _)
      obtain rfl := byte_form hV17
      refine WO_pure (.int .u32 (bI (ix a1_b (IntKind.i64.wrap ((IntKind.i64.wrap (4 * i5)) + 1))))) rfl l0 hM9 (fun _ => R_cvn rfl Try.underlying5 Try.underlying123 (bI_wf _) (by decide) (by decide)) rfl (gN rfl) rfl ?_
      refine WO_pure (.int .u32 (shl .u32 (bI (ix a1_b (IntKind.i64.wrap ((IntKind.i64.wrap (4 * i5)) + 1)))) 16)) rfl l0 hM9 (fun _ => R_shl rfl rfl (by decide)) rfl (gN rfl) rfl ?_
      refine WO_pure (.int .u32 (bor .u32 (shl .u32 (bI (ix a1_b (IntKind.i64.wrap (4 * i5)))) 24) (shl .u32 (bI (ix a1_b (IntKind.i64.wrap ((IntKind.i64.wrap (4 * i5)) + 1)))) 16))) rfl l0 hM9 (fun _ => R_or rfl rfl) rfl (gN rfl) rfl ?_
      refine WO_pure a1_b_v rfl l0 hM9 (fun _ => R_mv rfl) rfl (gN rfl) rfl ?_
      refine WO_pure (.int .i64 i5) rfl l0 hM9 (fun _ => R_mv rfl) rfl (gN rfl) rfl ?_
      refine WO_pure (.int .i64 (IntKind.i64.wrap (4 * i5))) rfl l0 hM9 (fun _ => R_mul rfl rfl) rfl (gN rfl) rfl ?_
      refine WO_pure (.int .i64 (IntKind.i64.wrap ((IntKind.i64.wrap (4 * i5)) + 2))) rfl l0 hM9 (fun _ => R_add rfl rfl) rfl (gN rfl) rfl ?_
      obtain ⟨hp19, h⟩ := h
      refine WO_P rfl l0 hM9 (S_ixs rfl (h_a1_b.mono (hS3.le.trans (hX6.le.trans hS9.le))) rfl Try.underlying39 ty5b hp19.1 hp19.2) rfl (gN rfl) rfl ?_
      rintro b18 o18 hP18
      refine WO_L0 hM9 (S_ld rfl ty5b hP18) rfl (gN rfl) rfl ?_
      rintro v21 (hV21 : Kd.byte.V _ (ix a1_b (IntKind.i64.wrap ((IntKind.i64.wrap (4 * i5)) + 2))) _)
      obtain rfl := byte_form hV21
      refine WO_pure (.int .u32 (bI (ix a1_b (IntKind.i64.wrap ((IntKind.i64.wrap (4 * i5)) + 2))))) rfl l0 hM9 (fun _ => R_cvn rfl Try.underlying5 Try.underlying123 (bI_wf _) (by decide) (by decide)) rfl (gN rfl) rfl ?_
      refine WO_pure (.int .u32 (shl .u32 (bI (ix a1_b (IntKind.i64.wrap ((IntKind.i64.wrap (4 * i5)) + 2)))) 8)) rfl l0 hM9 (fun _ => R_shl rfl rfl (by decide)) rfl (gN rfl) rfl ?_
      refine WO_pure (.int .u32 (bor .u32 (bor .u32 (shl .u32 (bI (ix a1_b (IntKind.i64.wrap (4 * i5)))) 24) (shl .u32 (bI (ix a1_b (IntKind.i64.wrap ((IntKind.i64.wrap (4 * i5)) + 1)))) 16)) (shl .u32 (bI (ix a1_b (IntKind.i64.wrap ((IntKind.i64.wrap (4 * i5)) + 2)))) 8))) rfl l0 hM9 (fun _ => R_or rfl rfl) rfl (gN rfl) rfl ?_
      refine WO_pure a1_b_v rfl l0 hM9 (fun _ => R_mv rfl) rfl (gN rfl) rfl ?_
      refine WO_pure (.int .i64 i5) rfl l0 hM9 (fun _ => R_mv rfl) rfl (gN rfl) rfl ?_
      refine WO_pure (.int .i64 (IntKind.i64.wrap (4 * i5))) rfl l0 hM9 (fun _ => R_mul rfl rfl) rfl (gN rfl) rfl ?_
      refine WO_pure (.int .i64 (IntKind.i64.wrap ((IntKind.i64.wrap (4 * i5)) + 3))) rfl l0 hM9 (fun _ => R_add rfl rfl) rfl (gN rfl) rfl ?_
      obtain ⟨hp23, h⟩ := h
      refine WO_P rfl l0 hM9 (S_ixs rfl (h_a1_b.mono (hS3.le.trans (hX6.le.trans hS9.le))) rfl Try.underlying39 ty5b hp23.1 hp23.2) rfl (gN rfl) rfl ?_
      rintro b22 o22 hP22
      refine WO_L0 hM9 (S_ld rfl ty5b hP22) rfl (gN rfl) rfl ?_
      rintro v25 (hV25 : Kd.byte.V _ (ix a1_b (IntKind.i64.wrap ((IntKind.i64.wrap (4 * i5)) + 3))) _)
      obtain rfl := byte_form hV25
      refine WO_pure (.int .u32 (bI (ix a1_b (IntKind.i64.wrap ((IntKind.i64.wrap (4 * i5)) + 3))))) rfl l0 hM9 (fun _ => R_cvn rfl Try.underlying5 Try.underlying123 (bI_wf _) (by decide) (by decide)) rfl (gN rfl) rfl ?_
      refine WO_pure (.int .u32 (bor .u32 (bor .u32 (bor .u32 (shl .u32 (bI (ix a1_b (IntKind.i64.wrap (4 * i5)))) 24) (shl .u32 (bI (ix a1_b (IntKind.i64.wrap ((IntKind.i64.wrap (4 * i5)) + 1)))) 16)) (shl .u32 (bI (ix a1_b (IntKind.i64.wrap ((IntKind.i64.wrap (4 * i5)) + 2)))) 8)) (bI (ix a1_b (IntKind.i64.wrap ((IntKind.i64.wrap (4 * i5)) + 3)))))) rfl l0 hM9 (fun _ => R_or rfl rfl) rfl (gN rfl) rfl ?_
      obtain ⟨hp26, h⟩ := h
      refine WO_pure (.pointer (some ⟨b3, 0 + i5.toNat * (Kd.int .u32).sz, none⟩)) rfl l0 hM9 (fun _ => R_ixa rfl rfl Try.underlying165 ty123 hp26.1 hp26.2) rfl (gN rfl) rfl ?_
      have hR28 := (hL5_4.extN hS9)
      refine WO_eff rfl (gN rfl) rfl (St_St (S_stB (Foc.arr 64 (Kd.int .u32) i5 hp26.1 hp26.2) hM9 rfl rfl (int_V (wrap_wf _ _)) ty123 hR28 (by first | rfl | simp | omega)) ?_)
      rintro w27 (hB27 : Bx kd_a64_u32 _ _ b3 [] [] (b5.set i5.toNat (bor .u32 (bor .u32 (bor .u32 (shl .u32 (bI (ix a1_b (IntKind.i64.wrap (4 * i5)))) 24) (shl .u32 (bI (ix a1_b (IntKind.i64.wrap ((IntKind.i64.wrap (4 * i5)) + 1)))) 16)) (shl .u32 (bI (ix a1_b (IntKind.i64.wrap ((IntKind.i64.wrap (4 * i5)) + 2)))) 8)) (bI (ix a1_b (IntKind.i64.wrap ((IntKind.i64.wrap (4 * i5)) + 3))))))) hS27 hM27
      refine ⟨K6, (hS27.weak (fun c hlt hx => (.inl (hx)))), hM27, ?_⟩
      have hE27 := hE9.comp hS27 (fun c hx hlt => (by subst hx; exact (fun hlt => absurd hlt (Nat.not_lt.2 (Nat.le_trans hE0.size hge3))) hlt))
      refine WO_nil ?_
      refine WP_exit ?_
      refine WP_region ?_
      refine WL_pure (.int .i64 (IntKind.i64.wrap (i5 + 1))) (R_add rfl rfl) rfl rfl ?_
      refine WL_pure (.int .i64 (IntKind.i64.wrap (i5 + 1))) (R_mv rfl) rfl rfl ?_
      refine WL_nil ?_
      refine BackQ.mk ((IntKind.i64.wrap (i5 + 1)), (b5.set i5.toNat (bor .u32 (bor .u32 (bor .u32 (shl .u32 (bI (ix a1_b (IntKind.i64.wrap (4 * i5)))) 24) (shl .u32 (bI (ix a1_b (IntKind.i64.wrap ((IntKind.i64.wrap (4 * i5)) + 1)))) 16)) (shl .u32 (bI (ix a1_b (IntKind.i64.wrap ((IntKind.i64.wrap (4 * i5)) + 2)))) 8)) (bI (ix a1_b (IntKind.i64.wrap ((IntKind.i64.wrap (4 * i5)) + 3))))))) [(14, (.int .i64 (IntKind.i64.wrap (i5 + 1))))] ?_ ?_ ?_ ?_
      rotate_left
      · exact h.2
      · repeat (first | exact Off.lay0 rfl | refine Off.updO ?_ rfl _ | refine Off.updN ?_ _ | refine Off.lay ?_ rfl)
      · repeat (first | exact trivial | refine ⟨rfl, ?_⟩)
      exact ⟨K6, h.1, rfl, ((((Ext.refl _ _ _).comp hX6 (fun c hx hlt => (hx))).andN hS9).comp hS27 (fun c hx hlt => (hx))), hM27, (wrap_wf _ _), hB27⟩
    · have hd8 : ¬ (i5 < 16) := dec_f hc8
      have h := h.2 hd8
      refine WP_skip ?_
      refine WP_ordD (K := K6) (fun c => c = b3 ∨ w6.heap.size ≤ c) [.o 0 2, .o 1 2, .o 2 2, .o 3 2, .o 4 2, .o 5 2, .o 6 2, .o 7 2, .o 8 2, .o 9 2, .o 10 2, .o 11 2, .o 12 2, .o 13 2, .o 16 2, .o 17 2, .o 18 2, .o 19 2, .o 20 2, .o 23 2, .o 24 2, .o 25 2, .o 26 2, .o 29 2, .o 30 2, .o 31 2, .o 32 2, .o 33 2, .par [14, 15, 21, 22, 27] (.alt 14 0 (.alt 15 0 (.one 21 2 (.one 22 2 (.one 27 0 .fin))) (.alt 27 0 (.one 15 0 (.one 21 2 (.one 22 2 .fin))) .fin)) (.alt 27 0 (.one 14 0 (.one 15 0 (.one 21 2 (.one 22 2 .fin)))) .fin)), .o 28 0, .o 34 2, .o 35 2, .o 36 2, .o 37 1] (by kernel_rfl) (by kernel_rfl) hM6 ?_
      rintro w29 hS29 hM29
      have hE29 := hE6.andN hS29
      refine WO_pure (.int .i64 i5) rfl l0 hM29 (fun _ => R_mv rfl) rfl (gN rfl) rfl ?_
      refine WO_pure (.int .i64 i5) rfl l0 hM29 (fun _ => R_mv rfl) rfl (gN rfl) rfl ?_
      refine WO_pure (.int .i64 (IntKind.i64.wrap (i5 - 16))) rfl l0 hM29 (fun _ => R_sub rfl rfl) rfl (gN rfl) rfl ?_
      obtain ⟨hp30, h⟩ := h
      refine WO_pure (.pointer (some ⟨b3, 0 + (IntKind.i64.wrap (i5 - 16)).toNat * (Kd.int .u32).sz, none⟩)) rfl l0 hM29 (fun _ => R_ixa rfl rfl Try.underlying165 ty123 hp30.1 hp30.2) rfl (gN rfl) rfl ?_
      have hR32 := (hL5_4.extN hS29)
      refine WO_L0 hM29 (S_ldB (Foc.arr 64 (Kd.int .u32) (IntKind.i64.wrap (i5 - 16)) hp30.1 hp30.2) rfl ty123 hR32 (by first | rfl | simp | omega) (fun h => h)) rfl (gN rfl) rfl ?_
      rintro v31 (hV31 : (Kd.int .u32).V _ (ix b5 (IntKind.i64.wrap (i5 - 16))) _)
      obtain rfl := int_form hV31
      refine WO_pure (.int .i64 i5) rfl l0 hM29 (fun _ => R_mv rfl) rfl (gN rfl) rfl ?_
      refine WO_pure (.int .i64 (IntKind.i64.wrap (i5 - 7))) rfl l0 hM29 (fun _ => R_sub rfl rfl) rfl (gN rfl) rfl ?_
      obtain ⟨hp33, h⟩ := h
      refine WO_pure (.pointer (some ⟨b3, 0 + (IntKind.i64.wrap (i5 - 7)).toNat * (Kd.int .u32).sz, none⟩)) rfl l0 hM29 (fun _ => R_ixa rfl rfl Try.underlying165 ty123 hp33.1 hp33.2) rfl (gN rfl) rfl ?_
      refine WO_L0 hM29 (S_ldB (Foc.arr 64 (Kd.int .u32) (IntKind.i64.wrap (i5 - 7)) hp33.1 hp33.2) rfl ty123 hR32 (by first | rfl | simp | omega) (fun h => h)) rfl (gN rfl) rfl ?_
      rintro v34 (hV34 : (Kd.int .u32).V _ (ix b5 (IntKind.i64.wrap (i5 - 7))) _)
      obtain rfl := int_form hV34
      refine WO_pure (.int .u32 (IntKind.u32.wrap ((ix b5 (IntKind.i64.wrap (i5 - 16))) + (ix b5 (IntKind.i64.wrap (i5 - 7)))))) rfl l0 hM29 (fun _ => R_add rfl rfl) rfl (gN rfl) rfl ?_
      refine WO_pure (.int .i64 i5) rfl l0 hM29 (fun _ => R_mv rfl) rfl (gN rfl) rfl ?_
      refine WO_pure (.int .i64 (IntKind.i64.wrap (i5 - 15))) rfl l0 hM29 (fun _ => R_sub rfl rfl) rfl (gN rfl) rfl ?_
      obtain ⟨hp35, h⟩ := h
      refine WO_pure (.pointer (some ⟨b3, 0 + (IntKind.i64.wrap (i5 - 15)).toNat * (Kd.int .u32).sz, none⟩)) rfl l0 hM29 (fun _ => R_ixa rfl rfl Try.underlying165 ty123 hp35.1 hp35.2) rfl (gN rfl) rfl ?_
      refine WO_L0 hM29 (S_ldB (Foc.arr 64 (Kd.int .u32) (IntKind.i64.wrap (i5 - 15)) hp35.1 hp35.2) rfl ty123 hR32 (by first | rfl | simp | omega) (fun h => h)) rfl (gN rfl) rfl ?_
      rintro v36 (hV36 : (Kd.int .u32).V _ (ix b5 (IntKind.i64.wrap (i5 - 15))) _)
      obtain rfl := int_form hV36
      refine WO_pure (.int .i64 i5) rfl l0 hM29 (fun _ => R_mv rfl) rfl (gN rfl) rfl ?_
      refine WO_pure (.int .i64 (IntKind.i64.wrap (i5 - 15))) rfl l0 hM29 (fun _ => R_sub rfl rfl) rfl (gN rfl) rfl ?_
      obtain ⟨hp37, h⟩ := h
      refine WO_pure (.pointer (some ⟨b3, 0 + (IntKind.i64.wrap (i5 - 15)).toNat * (Kd.int .u32).sz, none⟩)) rfl l0 hM29 (fun _ => R_ixa rfl rfl Try.underlying165 ty123 hp37.1 hp37.2) rfl (gN rfl) rfl ?_
      refine WO_L0 hM29 (S_ldB (Foc.arr 64 (Kd.int .u32) (IntKind.i64.wrap (i5 - 15)) hp37.1 hp37.2) rfl ty123 hR32 (by first | rfl | simp | omega) (fun h => h)) rfl (gN rfl) rfl ?_
      rintro v38 (hV38 : (Kd.int .u32).V _ (ix b5 (IntKind.i64.wrap (i5 - 15))) _)
      obtain rfl := int_form hV38
      refine WO_pure (.int .u32 (shr .u32 (ix b5 (IntKind.i64.wrap (i5 - 15))) 3)) rfl l0 hM29 (fun _ => R_shr rfl rfl (by decide)) rfl (gN rfl) rfl ?_
      refine WO_pure (.int .i64 i5) rfl l0 hM29 (fun _ => R_mv rfl) rfl (gN rfl) rfl ?_
      refine WO_pure (.int .i64 (IntKind.i64.wrap (i5 - 2))) rfl l0 hM29 (fun _ => R_sub rfl rfl) rfl (gN rfl) rfl ?_
      obtain ⟨hp39, h⟩ := h
      refine WO_pure (.pointer (some ⟨b3, 0 + (IntKind.i64.wrap (i5 - 2)).toNat * (Kd.int .u32).sz, none⟩)) rfl l0 hM29 (fun _ => R_ixa rfl rfl Try.underlying165 ty123 hp39.1 hp39.2) rfl (gN rfl) rfl ?_
      refine WO_L0 hM29 (S_ldB (Foc.arr 64 (Kd.int .u32) (IntKind.i64.wrap (i5 - 2)) hp39.1 hp39.2) rfl ty123 hR32 (by first | rfl | simp | omega) (fun h => h)) rfl (gN rfl) rfl ?_
      rintro v40 (hV40 : (Kd.int .u32).V _ (ix b5 (IntKind.i64.wrap (i5 - 2))) _)
      obtain rfl := int_form hV40
      refine WO_pure (.int .i64 i5) rfl l0 hM29 (fun _ => R_mv rfl) rfl (gN rfl) rfl ?_
      refine WO_pure (.int .i64 (IntKind.i64.wrap (i5 - 2))) rfl l0 hM29 (fun _ => R_sub rfl rfl) rfl (gN rfl) rfl ?_
      obtain ⟨hp41, h⟩ := h
      refine WO_pure (.pointer (some ⟨b3, 0 + (IntKind.i64.wrap (i5 - 2)).toNat * (Kd.int .u32).sz, none⟩)) rfl l0 hM29 (fun _ => R_ixa rfl rfl Try.underlying165 ty123 hp41.1 hp41.2) rfl (gN rfl) rfl ?_
      refine WO_L0 hM29 (S_ldB (Foc.arr 64 (Kd.int .u32) (IntKind.i64.wrap (i5 - 2)) hp41.1 hp41.2) rfl ty123 hR32 (by first | rfl | simp | omega) (fun h => h)) rfl (gN rfl) rfl ?_
      rintro v42 (hV42 : (Kd.int .u32).V _ (ix b5 (IntKind.i64.wrap (i5 - 2))) _)
      obtain rfl := int_form hV42
      refine WO_pure (.int .u32 (shr .u32 (ix b5 (IntKind.i64.wrap (i5 - 2))) 10)) rfl l0 hM29 (fun _ => R_shr rfl rfl (by decide)) rfl (gN rfl) rfl ?_
      refine WO_par (al := true) [68, 69, 75, 76, 81] (fun c => c = b3 ∨ w6.heap.size ≤ c) (fun l w K => ∃ u68 u81, l = [(68, u68), (69, (.int .u32 (turnsOf (ix b5 (IntKind.i64.wrap (i5 - 15))) [7, 18]))), (75, (.int .u32 (bxor .u32 (turnsOf (ix b5 (IntKind.i64.wrap (i5 - 15))) [7, 18]) (shr .u32 (ix b5 (IntKind.i64.wrap (i5 - 15))) 3)))), (76, (.int .u32 (IntKind.u32.wrap ((IntKind.u32.wrap ((ix b5 (IntKind.i64.wrap (i5 - 16))) + (ix b5 (IntKind.i64.wrap (i5 - 7))))) + (bxor .u32 (turnsOf (ix b5 (IntKind.i64.wrap (i5 - 15))) [7, 18]) (shr .u32 (ix b5 (IntKind.i64.wrap (i5 - 15))) 3)))))), (81, u81)] ∧ Ext NX w29 K6 w K ∧ Models w K ∧ (Kd.int .u32).wf (turnsOf (ix b5 (IntKind.i64.wrap (i5 - 15))) [7, 18]) ∧ (Kd.int .u32).wf (bxor .u32 (turnsOf (ix b5 (IntKind.i64.wrap (i5 - 15))) [7, 18]) (shr .u32 (ix b5 (IntKind.i64.wrap (i5 - 15))) 3)) ∧ (Kd.int .u32).wf (IntKind.u32.wrap ((IntKind.u32.wrap ((ix b5 (IntKind.i64.wrap (i5 - 16))) + (ix b5 (IntKind.i64.wrap (i5 - 7))))) + (bxor .u32 (turnsOf (ix b5 (IntKind.i64.wrap (i5 - 15))) [7, 18]) (shr .u32 (ix b5 (IntKind.i64.wrap (i5 - 15))) 3)))) ∧ Own (Kd.int .i64) 3 w K [7, 18] u68 ∧ (∀ g, ob u68 = some g → w29.heap.size ≤ g) ∧ Own (Kd.int .i64) 3 w K [17, 19] u81 ∧ (∀ g, ob u81 = some g → w29.heap.size ≤ g) ∧ (∀ g, ob u68 = some g → ¬ (ob u81 = some g))) ?_ ?_
      · skip
        refine WT_altC ?_ ?_
        · skip
          refine WO_eff0 rfl (gN rfl) rfl (St_S0 (S_bsl (k := (Kd.int .i64)) (l := [(7, (.int .i64 7)), (18, (.int .i64 18))]) hM29 rfl (by intro p hp; simp only [List.mem_cons, List.not_mem_nil, or_false] at hp; rcases hp with rfl | rfl; exact (int_V (show (Kd.int .i64).wf 7 from by constructor <;> decide)); exact (int_V (show (Kd.int .i64).wf 18 from by constructor <;> decide))) rfl Try.underlying168 ty3 rfl rfl) ?_)
          rintro v44 w44 K44 (hO44 : Own (Kd.int .i64) 3 w44 K44 [7, 18] v44) hS44 hM44 hg44
          refine ⟨K44, hS44, hM44, ?_⟩
          have hE44 := hE29.andN hS44
          refine WT_altC ?_ ?_
          · skip
            refine WO_eff0 rfl (gN rfl) rfl (St_call (R_call Try.call105 rfl) ((turns_c hM44 (int_V (hV36).wf) hO44.V).mono ?_))
            rintro _ w46 ⟨K46, v46_0, rfl, hS46, hM46, hV46_0⟩
            refine ⟨v46_0, rfl, ?_⟩
            refine ⟨K46, hS46, hM46, ?_⟩
            have hE46 := hE44.andN hS46
            obtain rfl := int_form hV46_0
            refine WO_pure (.int .u32 (bxor .u32 (turnsOf (ix b5 (IntKind.i64.wrap (i5 - 15))) [7, 18]) (shr .u32 (ix b5 (IntKind.i64.wrap (i5 - 15))) 3))) rfl l0 hM46 (fun _ => R_xor rfl rfl) rfl (gN rfl) rfl ?_
            refine WO_pure (.int .u32 (IntKind.u32.wrap ((IntKind.u32.wrap ((ix b5 (IntKind.i64.wrap (i5 - 16))) + (ix b5 (IntKind.i64.wrap (i5 - 7))))) + (bxor .u32 (turnsOf (ix b5 (IntKind.i64.wrap (i5 - 15))) [7, 18]) (shr .u32 (ix b5 (IntKind.i64.wrap (i5 - 15))) 3))))) rfl l0 hM46 (fun _ => R_add rfl rfl) rfl (gN rfl) rfl ?_
            refine WO_eff0 rfl (gN rfl) rfl (St_S0 (S_bsl (k := (Kd.int .i64)) (l := [(17, (.int .i64 17)), (19, (.int .i64 19))]) hM46 rfl (by intro p hp; simp only [List.mem_cons, List.not_mem_nil, or_false] at hp; rcases hp with rfl | rfl; exact (int_V (show (Kd.int .i64).wf 17 from by constructor <;> decide)); exact (int_V (show (Kd.int .i64).wf 19 from by constructor <;> decide))) rfl Try.underlying168 ty3 rfl rfl) ?_)
            rintro v47 w47 K47 (hO47 : Own (Kd.int .i64) 3 w47 K47 [17, 19] v47) hS47 hM47 hg47
            refine ⟨K47, hS47, hM47, ?_⟩
            have hE47 := hE46.andN hS47
            have hR49 := (hO44.extN hS46)
            have hR50 := ((hO44.extN hS46).extN hS47)
            exact WT_end [(68, v44), (69, (.int .u32 (turnsOf (ix b5 (IntKind.i64.wrap (i5 - 15))) [7, 18]))), (75, (.int .u32 (bxor .u32 (turnsOf (ix b5 (IntKind.i64.wrap (i5 - 15))) [7, 18]) (shr .u32 (ix b5 (IntKind.i64.wrap (i5 - 15))) 3)))), (76, (.int .u32 (IntKind.u32.wrap ((IntKind.u32.wrap ((ix b5 (IntKind.i64.wrap (i5 - 16))) + (ix b5 (IntKind.i64.wrap (i5 - 7))))) + (bxor .u32 (turnsOf (ix b5 (IntKind.i64.wrap (i5 - 15))) [7, 18]) (shr .u32 (ix b5 (IntKind.i64.wrap (i5 - 15))) 3)))))), (81, v47)] K47 rfl ⟨v44, v47, rfl, ((((Ext.refl _ _ _).andN hS44).andN hS46).andN hS47), hM47, (hV46_0).wf, (wrap_wf _ _), (wrap_wf _ _), hR50, (fun g hg => (hg44 g hg)), hO47, (fun g hg => (Nat.le_trans (Nat.le_trans hS44.size hS46.size) (hg47 g hg))), (fun g hg hx => (fun g hg hx => absurd (hR49.lt _ hx) (Nat.not_lt.2 (hg47 g hg))) g hx hg)⟩ (by repeat (first | exact Off.refl _ _ | refine Off.updO ?_ rfl _ | refine Off.updN ?_ _ | refine Off.lay ?_ rfl)) (by repeat (first | exact trivial | refine ⟨rfl, ?_⟩))
          refine WT_altL ?_
          refine WO_eff0 rfl (gN rfl) rfl (St_S0 (S_bsl (k := (Kd.int .i64)) (l := [(17, (.int .i64 17)), (19, (.int .i64 19))]) hM44 rfl (by intro p hp; simp only [List.mem_cons, List.not_mem_nil, or_false] at hp; rcases hp with rfl | rfl; exact (int_V (show (Kd.int .i64).wf 17 from by constructor <;> decide)); exact (int_V (show (Kd.int .i64).wf 19 from by constructor <;> decide))) rfl Try.underlying168 ty3 rfl rfl) ?_)
          rintro v51 w51 K51 (hO51 : Own (Kd.int .i64) 3 w51 K51 [17, 19] v51) hS51 hM51 hg51
          refine ⟨K51, hS51, hM51, ?_⟩
          have hE51 := hE44.andN hS51
          refine WO_eff0 rfl (gN rfl) rfl (St_call (R_call Try.call105 rfl) ((turns_c hM51 (int_V (hV36).wf) (hO44.V.mono hS51.le)).mono ?_))
          rintro _ w53 ⟨K53, v53_0, rfl, hS53, hM53, hV53_0⟩
          refine ⟨v53_0, rfl, ?_⟩
          refine ⟨K53, hS53, hM53, ?_⟩
          have hE53 := hE51.andN hS53
          obtain rfl := int_form hV53_0
          refine WO_pure (.int .u32 (bxor .u32 (turnsOf (ix b5 (IntKind.i64.wrap (i5 - 15))) [7, 18]) (shr .u32 (ix b5 (IntKind.i64.wrap (i5 - 15))) 3))) rfl l0 hM53 (fun _ => R_xor rfl rfl) rfl (gN rfl) rfl ?_
          refine WO_pure (.int .u32 (IntKind.u32.wrap ((IntKind.u32.wrap ((ix b5 (IntKind.i64.wrap (i5 - 16))) + (ix b5 (IntKind.i64.wrap (i5 - 7))))) + (bxor .u32 (turnsOf (ix b5 (IntKind.i64.wrap (i5 - 15))) [7, 18]) (shr .u32 (ix b5 (IntKind.i64.wrap (i5 - 15))) 3))))) rfl l0 hM53 (fun _ => R_add rfl rfl) rfl (gN rfl) rfl ?_
          have hR54 := ((hO44.extN hS51).extN hS53)
          have hR55 := (hO51.extN hS53)
          exact WT_end [(68, v44), (69, (.int .u32 (turnsOf (ix b5 (IntKind.i64.wrap (i5 - 15))) [7, 18]))), (75, (.int .u32 (bxor .u32 (turnsOf (ix b5 (IntKind.i64.wrap (i5 - 15))) [7, 18]) (shr .u32 (ix b5 (IntKind.i64.wrap (i5 - 15))) 3)))), (76, (.int .u32 (IntKind.u32.wrap ((IntKind.u32.wrap ((ix b5 (IntKind.i64.wrap (i5 - 16))) + (ix b5 (IntKind.i64.wrap (i5 - 7))))) + (bxor .u32 (turnsOf (ix b5 (IntKind.i64.wrap (i5 - 15))) [7, 18]) (shr .u32 (ix b5 (IntKind.i64.wrap (i5 - 15))) 3)))))), (81, v51)] K53 rfl ⟨v44, v51, rfl, ((((Ext.refl _ _ _).andN hS44).andN hS51).andN hS53), hM53, (hV53_0).wf, (wrap_wf _ _), (wrap_wf _ _), hR54, (fun g hg => (hg44 g hg)), hR55, (fun g hg => (Nat.le_trans hS44.size (hg51 g hg))), (fun g hg hx => (fun g hg hx => absurd (hO44.lt _ hx) (Nat.not_lt.2 (hg51 g hg))) g hx hg)⟩ (by repeat (first | exact Off.refl _ _ | refine Off.updO ?_ rfl _ | refine Off.updN ?_ _ | refine Off.lay ?_ rfl)) (by repeat (first | exact trivial | refine ⟨rfl, ?_⟩))
        refine WT_altL ?_
        refine WO_eff0 rfl (gN rfl) rfl (St_S0 (S_bsl (k := (Kd.int .i64)) (l := [(17, (.int .i64 17)), (19, (.int .i64 19))]) hM29 rfl (by intro p hp; simp only [List.mem_cons, List.not_mem_nil, or_false] at hp; rcases hp with rfl | rfl; exact (int_V (show (Kd.int .i64).wf 17 from by constructor <;> decide)); exact (int_V (show (Kd.int .i64).wf 19 from by constructor <;> decide))) rfl Try.underlying168 ty3 rfl rfl) ?_)
        rintro v56 w56 K56 (hO56 : Own (Kd.int .i64) 3 w56 K56 [17, 19] v56) hS56 hM56 hg56
        refine ⟨K56, hS56, hM56, ?_⟩
        have hE56 := hE29.andN hS56
        refine WO_eff0 rfl (gN rfl) rfl (St_S0 (S_bsl (k := (Kd.int .i64)) (l := [(7, (.int .i64 7)), (18, (.int .i64 18))]) hM56 rfl (by intro p hp; simp only [List.mem_cons, List.not_mem_nil, or_false] at hp; rcases hp with rfl | rfl; exact (int_V (show (Kd.int .i64).wf 7 from by constructor <;> decide)); exact (int_V (show (Kd.int .i64).wf 18 from by constructor <;> decide))) rfl Try.underlying168 ty3 rfl rfl) ?_)
        rintro v58 w58 K58 (hO58 : Own (Kd.int .i64) 3 w58 K58 [7, 18] v58) hS58 hM58 hg58
        refine ⟨K58, hS58, hM58, ?_⟩
        have hE58 := hE56.andN hS58
        refine WO_eff0 rfl (gN rfl) rfl (St_call (R_call Try.call105 rfl) ((turns_c hM58 (int_V (hV36).wf) hO58.V).mono ?_))
        rintro _ w60 ⟨K60, v60_0, rfl, hS60, hM60, hV60_0⟩
        refine ⟨v60_0, rfl, ?_⟩
        refine ⟨K60, hS60, hM60, ?_⟩
        have hE60 := hE58.andN hS60
        obtain rfl := int_form hV60_0
        refine WO_pure (.int .u32 (bxor .u32 (turnsOf (ix b5 (IntKind.i64.wrap (i5 - 15))) [7, 18]) (shr .u32 (ix b5 (IntKind.i64.wrap (i5 - 15))) 3))) rfl l0 hM60 (fun _ => R_xor rfl rfl) rfl (gN rfl) rfl ?_
        refine WO_pure (.int .u32 (IntKind.u32.wrap ((IntKind.u32.wrap ((ix b5 (IntKind.i64.wrap (i5 - 16))) + (ix b5 (IntKind.i64.wrap (i5 - 7))))) + (bxor .u32 (turnsOf (ix b5 (IntKind.i64.wrap (i5 - 15))) [7, 18]) (shr .u32 (ix b5 (IntKind.i64.wrap (i5 - 15))) 3))))) rfl l0 hM60 (fun _ => R_add rfl rfl) rfl (gN rfl) rfl ?_
        have hR61 := (hO58.extN hS60)
        have hR62 := ((hO56.extN hS58).extN hS60)
        exact WT_end [(68, v58), (69, (.int .u32 (turnsOf (ix b5 (IntKind.i64.wrap (i5 - 15))) [7, 18]))), (75, (.int .u32 (bxor .u32 (turnsOf (ix b5 (IntKind.i64.wrap (i5 - 15))) [7, 18]) (shr .u32 (ix b5 (IntKind.i64.wrap (i5 - 15))) 3)))), (76, (.int .u32 (IntKind.u32.wrap ((IntKind.u32.wrap ((ix b5 (IntKind.i64.wrap (i5 - 16))) + (ix b5 (IntKind.i64.wrap (i5 - 7))))) + (bxor .u32 (turnsOf (ix b5 (IntKind.i64.wrap (i5 - 15))) [7, 18]) (shr .u32 (ix b5 (IntKind.i64.wrap (i5 - 15))) 3)))))), (81, v56)] K60 rfl ⟨v58, v56, rfl, ((((Ext.refl _ _ _).andN hS56).andN hS58).andN hS60), hM60, (hV60_0).wf, (wrap_wf _ _), (wrap_wf _ _), hR61, (fun g hg => (Nat.le_trans hS56.size (hg58 g hg))), hR62, (fun g hg => (hg56 g hg)), (fun g hg hx => absurd (hO56.lt _ hx) (Nat.not_lt.2 (hg58 g hg)))⟩ (by repeat (first | exact Off.refl _ _ | refine Off.updO ?_ rfl _ | refine Off.updN ?_ _ | refine Off.lay ?_ rfl)) (by repeat (first | exact trivial | refine ⟨rfl, ?_⟩))
      rintro l σ43 w63 K63 ⟨u68_43, u81_43, rfl, hX63, hM63, hw43_69, hw43_75, hw43_76, hL43_u68, ho43_u68, hL43_u81, ho43_u81, hs43_u68_u81⟩
      have hE63 := hE29.andN hX63
      refine WO_eff0 rfl (gN rfl) rfl (St_call (R_call Try.call105 rfl) ((turns_c hM63 (int_V (hV40).wf) hL43_u81.V).mono ?_))
      rintro _ w66 ⟨K66, v66_0, rfl, hS66, hM66, hV66_0⟩
      refine ⟨v66_0, rfl, ?_⟩
      refine ⟨K66, hS66, hM66, ?_⟩
      have hE66 := hE63.andN hS66
      obtain rfl := int_form hV66_0
      refine WO_pure (.int .u32 (bxor .u32 (turnsOf (ix b5 (IntKind.i64.wrap (i5 - 2))) [17, 19]) (shr .u32 (ix b5 (IntKind.i64.wrap (i5 - 2))) 10))) rfl l0 hM66 (fun _ => R_xor rfl rfl) rfl (gN rfl) rfl ?_
      refine WO_pure (.int .u32 (IntKind.u32.wrap ((IntKind.u32.wrap ((IntKind.u32.wrap ((ix b5 (IntKind.i64.wrap (i5 - 16))) + (ix b5 (IntKind.i64.wrap (i5 - 7))))) + (bxor .u32 (turnsOf (ix b5 (IntKind.i64.wrap (i5 - 15))) [7, 18]) (shr .u32 (ix b5 (IntKind.i64.wrap (i5 - 15))) 3)))) + (bxor .u32 (turnsOf (ix b5 (IntKind.i64.wrap (i5 - 2))) [17, 19]) (shr .u32 (ix b5 (IntKind.i64.wrap (i5 - 2))) 10))))) rfl l0 hM66 (fun _ => R_add rfl rfl) rfl (gN rfl) rfl ?_
      obtain ⟨hp67, h⟩ := h
      refine WO_pure (.pointer (some ⟨b3, 0 + i5.toNat * (Kd.int .u32).sz, none⟩)) rfl l0 hM66 (fun _ => R_ixa rfl rfl Try.underlying165 ty123 hp67.1 hp67.2) rfl (gN rfl) rfl ?_
      have hR69 := ((hR32.extN hX63).extN hS66)
      refine WO_eff rfl (gN rfl) rfl (St_St (S_stB (Foc.arr 64 (Kd.int .u32) i5 hp67.1 hp67.2) hM66 rfl rfl (int_V (wrap_wf _ _)) ty123 hR69 (by first | rfl | simp | omega)) ?_)
      rintro w68 (hB68 : Bx kd_a64_u32 _ _ b3 [] [] (b5.set i5.toNat (IntKind.u32.wrap ((IntKind.u32.wrap ((IntKind.u32.wrap ((ix b5 (IntKind.i64.wrap (i5 - 16))) + (ix b5 (IntKind.i64.wrap (i5 - 7))))) + (bxor .u32 (turnsOf (ix b5 (IntKind.i64.wrap (i5 - 15))) [7, 18]) (shr .u32 (ix b5 (IntKind.i64.wrap (i5 - 15))) 3)))) + (bxor .u32 (turnsOf (ix b5 (IntKind.i64.wrap (i5 - 2))) [17, 19]) (shr .u32 (ix b5 (IntKind.i64.wrap (i5 - 2))) 10)))))) hS68 hM68
      refine ⟨K66, (hS68.weak (fun c hlt hx => (.inl (hx)))), hM68, ?_⟩
      have hE68 := hE66.comp hS68 (fun c hx hlt => (by subst hx; exact (fun hlt => absurd hlt (Nat.not_lt.2 (Nat.le_trans hE0.size hge3))) hlt))
      refine WO_nil ?_
      refine WP_region ?_
      refine WL_pure (.int .i64 (IntKind.i64.wrap (i5 + 1))) (R_add rfl rfl) rfl rfl ?_
      refine WL_pure (.int .i64 (IntKind.i64.wrap (i5 + 1))) (R_mv rfl) rfl rfl ?_
      refine WL_nil ?_
      refine BackQ.mk ((IntKind.i64.wrap (i5 + 1)), (b5.set i5.toNat (IntKind.u32.wrap ((IntKind.u32.wrap ((IntKind.u32.wrap ((ix b5 (IntKind.i64.wrap (i5 - 16))) + (ix b5 (IntKind.i64.wrap (i5 - 7))))) + (bxor .u32 (turnsOf (ix b5 (IntKind.i64.wrap (i5 - 15))) [7, 18]) (shr .u32 (ix b5 (IntKind.i64.wrap (i5 - 15))) 3)))) + (bxor .u32 (turnsOf (ix b5 (IntKind.i64.wrap (i5 - 2))) [17, 19]) (shr .u32 (ix b5 (IntKind.i64.wrap (i5 - 2))) 10)))))) [(14, (.int .i64 (IntKind.i64.wrap (i5 + 1))))] ?_ ?_ ?_ ?_
      rotate_left
      · exact h.2
      · repeat (first | exact Off.lay0 rfl | refine Off.updO ?_ rfl _ | refine Off.updN ?_ _ | refine Off.lay ?_ rfl)
      · repeat (first | exact trivial | refine ⟨rfl, ?_⟩)
      exact ⟨K66, h.1, rfl, ((((((Ext.refl _ _ _).comp hX6 (fun c hx hlt => (hx))).andN hS29).andN hX63).andN hS66).comp hS68 (fun c hx hlt => (hx))), hM68, (wrap_wf _ _), hB68⟩
  · have hd7 : ¬ (i5 < 64) := dec_f hc7
    have h := h.2 hd7
    refine WP_exit ?_
    refine WP_seq ?_
    refine WP_region ?_
    refine WL_pure (.pointer (some ⟨a0_s_b, a0_s_pre.length, none⟩)) (R_mv rfl) rfl rfl ?_
    refine WL_pure (.pointer (some ⟨a0_s_b, a0_s_pre.length, none⟩)) (R_nilck rfl) rfl rfl ?_
    have hR71 := (h_a0_s_B.extN hS3)
    have hR72 := (hR71.ext hX6 (fun hx => (fun he => (ne_new hge3 h_a0_s_B.lt) he.symm) hx))
    refine WL_L hM6 (S_ldB (Foc.id _) rfl ty146 hR72 (by first | rfl | simp | omega) (fun h => h)) rfl rfl ?_
    rintro v70 (hV70 : kd_a8_u32.V _ a0_s _)
    refine WL_eff rfl rfl (St_B (S_alloc hM6 ty146) ?_)
    rintro b74 w74 (hB74 : Bx kd_a8_u32 _ _ _ _ _ (List.replicate 8 (0 : Int))) hS74 hM74 hge74
    have hE74 := hE6.andN hS74
    refine WL_eff rfl rfl (St_St (S_stB (Foc.id _) hM74 rfl rfl (hV70.mono hS74.le) ty146 hB74 (by first | rfl | simp | omega)) ?_)
    rintro w76 (hB76 : Bx kd_a8_u32 _ _ b74 [] [] a0_s) hS76 hM76
    have hE76 := hE74.comp hS76 (fun c hx hlt => (by subst hx; exact (fun hlt => absurd hlt (Nat.not_lt.2 (Nat.le_trans hE6.size hge74))) hlt))
    refine WL_nil ?_
    refine WP_seq ?_
    refine WP_seq ?_
    refine WP_region ?_
    refine WL_eff rfl rfl (St_call (R_call Try.call106 rfl) ((rounds_c hM76 ).mono ?_))
    rintro _ w77 ⟨K77, v77_0, rfl, hS77, hM77, hV77_0⟩
    refine ⟨v77_0, rfl, ?_⟩
    have hE77 := hE76.andN hS77
    have h := h hV77_0.wf
    refine WL_pure (.int .i64 0) (R_mv rfl) rfl rfl ?_
    refine WL_nil ?_
    refine WP_block ?_
    have hR81 := (hB76.extN hS77)
    obtain ⟨I79, μ79, h0, h⟩ := h
    refine WP_loopE (ι := Int × (List Int)) [7, 8, 9, 10, 11, 12, 96, 97, 98, 99, 100, 101, 102, 103, 104, 105, 106, 107, 108, 109, 110, 111, 112, 113, 114, 115, 116, 117, 118, 119, 120, 121, 122, 123, 124, 125, 126, 127, 128, 129, 130, 131, 132, 133, 134, 135, 136, 137, 138, 139, 140, 141, 142, 143, 144, 145, 146, 147, 148, 149, 150, 151, 152, 153, 154, 155, 156, 157, 158, 159, 160, 161, 162, 163, 164] (fun s l w => ∃ K, I79 s.1 s.2 ∧ l = [(96, (.int .i64 s.1))] ∧ Ext (fun c => c = b74) w77 K77 w K ∧ Models w K ∧ (Kd.int .i64).wf s.1 ∧ Bx kd_a8_u32 w K b74 [] [] s.2) (fun s => μ79 s.1 s.2) (0, a0_s) [(96, (.int .i64 0))]
      ⟨K77, h0, rfl, Ext.refl _ _ _, hM77, (show (Kd.int .i64).wf 0 from by constructor <;> decide), hR81⟩ (by repeat (first | exact trivial | refine ⟨rfl, ?_⟩)) ?_
    rintro ⟨i79, b79⟩ l σ79 w80 ⟨K80, hI, rfl, hX80, hM80, hw79_96, hL79_75⟩
    dsimp only at hI hw79_96 hL79_75
    have hE80 := hE77.comp hX80 (fun c hx hlt => (by subst hx; exact (fun hlt => absurd hlt (Nat.not_lt.2 (Nat.le_trans hE6.size hge74))) hlt))
    have h := h i79 b79 hI hw79_96 hL79_75.wf
    refine WP_seq ?_
    refine WP_region ?_
    refine WL_pure (.bool (decide (i79 < 64))) (R_lss rfl rfl) rfl rfl ?_
    refine WL_nil ?_
    refine WP_seq ?_
    refine WP_cond (decide (i79 < 64)) rfl (fun hc82 => ?_) (fun hc82 => ?_)
    · have hd82 : i79 < 64 := dec_t hc82
      have h := h.1 hd82
      refine WP_skip ?_
      refine WP_seq ?_
      refine WP_block ?_
      refine WP_seq ?_
      refine WP_region ?_
      refine WL_pure (.int .i64 i79) (R_mv rfl) rfl rfl ?_
      obtain ⟨hp84, h⟩ := h
      refine WL_V (S_ixv rfl (hV77_0.mono hX80.le) rfl Try.underlying165 ty123 hp84.1 hp84.2) rfl rfl ?_
      rintro v83 (hV83 : (Kd.int .u32).V _ (ix shaK i79) _)
      obtain rfl := int_form hV83
      refine WL_pure (.int .i64 i79) (R_as rfl) rfl rfl ?_
      refine WL_pure (.int .u32 (ix shaK i79)) (R_as rfl) rfl rfl ?_
      refine WL_nil ?_
      refine WP_seq ?_
      refine WP_ordD (K := K80) NX [.o 0 2, .o 1 2, .o 2 2, .o 3 2, .o 4 2, .o 5 2] (by kernel_rfl) (by kernel_rfl) hM80 ?_
      rintro w85 hS85 hM85
      have hE85 := hE80.andN hS85
      refine WO_pure (.pointer (some ⟨b74, 0 + (0 : Int).toNat * (Kd.int .u32).sz, none⟩)) rfl l0 hM85 (fun _ => R_ixa rfl rfl Try.underlying146 ty123 (by decide) (by decide)) rfl (gN rfl) rfl ?_
      have hR87 := (hL79_75.extN hS85)
      refine WO_L0 hM85 (S_ldB (Foc.arr 8 (Kd.int .u32) 0 (by decide) (by decide)) rfl ty123 hR87 (by first | rfl | simp | omega) (fun h => h)) rfl (gN rfl) rfl ?_
      rintro v86 (hV86 : (Kd.int .u32).V _ (ix b79 0) _)
      obtain rfl := int_form hV86
      refine WO_pure (.pointer (some ⟨b74, 0 + (4 : Int).toNat * (Kd.int .u32).sz, none⟩)) rfl l0 hM85 (fun _ => R_ixa rfl rfl Try.underlying146 ty123 (by decide) (by decide)) rfl (gN rfl) rfl ?_
      refine WO_L0 hM85 (S_ldB (Foc.arr 8 (Kd.int .u32) 4 (by decide) (by decide)) rfl ty123 hR87 (by first | rfl | simp | omega) (fun h => h)) rfl (gN rfl) rfl ?_
      rintro v88 (hV88 : (Kd.int .u32).V _ (ix b79 4) _)
      obtain rfl := int_form hV88
      refine WO_pure (.int .u32 (ix b79 0)) rfl l0 hM85 (fun _ => R_as rfl) rfl (gN rfl) rfl ?_
      refine WO_pure (.int .u32 (ix b79 4)) rfl l0 hM85 (fun _ => R_as rfl) rfl (gN rfl) rfl ?_
      refine WO_nil ?_
      refine WP_seq ?_
      refine WP_ordD (K := K80) NX [.o 0 2, .o 1 2, .o 2 2, .o 6 2, .o 7 2, .o 8 2, .o 9 2, .o 10 2, .o 11 2, .o 12 2, .o 13 2, .o 14 2, .o 15 2, .o 17 2, .o 19 2, .o 20 2, .o 21 2, .o 3 0, .o 4 0, .o 5 2, .o 16 2, .o 18 2, .o 22 2, .o 23 2] (by kernel_rfl) (by kernel_rfl) hM85 ?_
      rintro w89 hS89 hM89
      have hE89 := hE85.andN hS89
      refine WO_pure (.pointer (some ⟨b74, 0 + (7 : Int).toNat * (Kd.int .u32).sz, none⟩)) rfl l0 hM89 (fun _ => R_ixa rfl rfl Try.underlying146 ty123 (by decide) (by decide)) rfl (gN rfl) rfl ?_
      have hR91 := (hR87.extN hS89)
      refine WO_L0 hM89 (S_ldB (Foc.arr 8 (Kd.int .u32) 7 (by decide) (by decide)) rfl ty123 hR91 (by first | rfl | simp | omega) (fun h => h)) rfl (gN rfl) rfl ?_
      rintro v90 (hV90 : (Kd.int .u32).V _ (ix b79 7) _)
      obtain rfl := int_form hV90
      refine WO_pure (.int .u32 (ix b79 4)) rfl l0 hM89 (fun _ => R_mv rfl) rfl (gN rfl) rfl ?_
      refine WO_pure (.int .u32 (ix b79 4)) rfl l0 hM89 (fun _ => R_mv rfl) rfl (gN rfl) rfl ?_
      refine WO_pure (.pointer (some ⟨b74, 0 + (5 : Int).toNat * (Kd.int .u32).sz, none⟩)) rfl l0 hM89 (fun _ => R_ixa rfl rfl Try.underlying146 ty123 (by decide) (by decide)) rfl (gN rfl) rfl ?_
      refine WO_L0 hM89 (S_ldB (Foc.arr 8 (Kd.int .u32) 5 (by decide) (by decide)) rfl ty123 hR91 (by first | rfl | simp | omega) (fun h => h)) rfl (gN rfl) rfl ?_
      rintro v92 (hV92 : (Kd.int .u32).V _ (ix b79 5) _)
      obtain rfl := int_form hV92
      refine WO_pure (.int .u32 (band .u32 (ix b79 4) (ix b79 5))) rfl l0 hM89 (fun _ => R_and rfl rfl) rfl (gN rfl) rfl ?_
      refine WO_pure (.int .u32 (ix b79 4)) rfl l0 hM89 (fun _ => R_mv rfl) rfl (gN rfl) rfl ?_
      refine WO_pure (.int .u32 (bxor .u32 4294967295 (ix b79 4))) rfl l0 hM89 (fun _ => R_com rfl) rfl (gN rfl) rfl ?_
      refine WO_pure (.pointer (some ⟨b74, 0 + (6 : Int).toNat * (Kd.int .u32).sz, none⟩)) rfl l0 hM89 (fun _ => R_ixa rfl rfl Try.underlying146 ty123 (by decide) (by decide)) rfl (gN rfl) rfl ?_
      refine WO_L0 hM89 (S_ldB (Foc.arr 8 (Kd.int .u32) 6 (by decide) (by decide)) rfl ty123 hR91 (by first | rfl | simp | omega) (fun h => h)) rfl (gN rfl) rfl ?_
      rintro v93 (hV93 : (Kd.int .u32).V _ (ix b79 6) _)
      obtain rfl := int_form hV93
      refine WO_pure (.int .u32 (band .u32 (bxor .u32 4294967295 (ix b79 4)) (ix b79 6))) rfl l0 hM89 (fun _ => R_and rfl rfl) rfl (gN rfl) rfl ?_
      refine WO_pure (.int .u32 (bxor .u32 (band .u32 (ix b79 4) (ix b79 5)) (band .u32 (bxor .u32 4294967295 (ix b79 4)) (ix b79 6)))) rfl l0 hM89 (fun _ => R_xor rfl rfl) rfl (gN rfl) rfl ?_
      refine WO_pure (.int .u32 (ix shaK i79)) rfl l0 hM89 (fun _ => R_mv rfl) rfl (gN rfl) rfl ?_
      refine WO_pure (.int .i64 i79) rfl l0 hM89 (fun _ => R_mv rfl) rfl (gN rfl) rfl ?_
      obtain ⟨hp94, h⟩ := h
      refine WO_pure (.pointer (some ⟨b3, 0 + i79.toNat * (Kd.int .u32).sz, none⟩)) rfl l0 hM89 (fun _ => R_ixa rfl rfl Try.underlying165 ty123 hp94.1 hp94.2) rfl (gN rfl) rfl ?_
      have hR96 := (hL5_4.extN hS74)
      have hR97 := ((hR96.ext hS76 (fun hx => (fun he => (ne_new hge74 hL5_4.lt) he.symm) hx)).extN hS77)
      have hR98 := (((hR97.ext hX80 (fun hx => (fun he => (ne_new hge74 hL5_4.lt) he.symm) hx)).extN hS85).extN hS89)
      refine WO_L0 hM89 (S_ldB (Foc.arr 64 (Kd.int .u32) i79 hp94.1 hp94.2) rfl ty123 hR98 (by first | rfl | simp | omega) (fun h => h)) rfl (gN rfl) rfl ?_
      rintro v95 (hV95 : (Kd.int .u32).V _ (ix b5 i79) _)
      obtain rfl := int_form hV95
      refine WO_eff0 rfl (gN rfl) rfl (St_S0 (S_bsl (k := (Kd.int .i64)) (l := [(6, (.int .i64 6)), (11, (.int .i64 11)), (25, (.int .i64 25))]) hM89 rfl (by intro p hp; simp only [List.mem_cons, List.not_mem_nil, or_false] at hp; rcases hp with rfl | rfl | rfl; exact (int_V (show (Kd.int .i64).wf 6 from by constructor <;> decide)); exact (int_V (show (Kd.int .i64).wf 11 from by constructor <;> decide)); exact (int_V (show (Kd.int .i64).wf 25 from by constructor <;> decide))) rfl Try.underlying168 ty3 rfl rfl) ?_)
      rintro v99 w99 K99 (hO99 : Own (Kd.int .i64) 3 w99 K99 [6, 11, 25] v99) hS99 hM99 hg99
      refine ⟨K99, hS99, hM99, ?_⟩
      have hE99 := hE89.andN hS99
      refine WO_eff0 rfl (gN rfl) rfl (St_call (R_call Try.call105 rfl) ((turns_c hM99 (int_V (hV88).wf) hO99.V).mono ?_))
      rintro _ w101 ⟨K101, v101_0, rfl, hS101, hM101, hV101_0⟩
      refine ⟨v101_0, rfl, ?_⟩
      refine ⟨K101, hS101, hM101, ?_⟩
      have hE101 := hE99.andN hS101
      obtain rfl := int_form hV101_0
      refine WO_pure (.int .u32 (IntKind.u32.wrap ((ix b79 7) + (turnsOf (ix b79 4) [6, 11, 25])))) rfl l0 hM101 (fun _ => R_add rfl rfl) rfl (gN rfl) rfl ?_
      refine WO_pure (.int .u32 (IntKind.u32.wrap ((IntKind.u32.wrap ((ix b79 7) + (turnsOf (ix b79 4) [6, 11, 25]))) + (bxor .u32 (band .u32 (ix b79 4) (ix b79 5)) (band .u32 (bxor .u32 4294967295 (ix b79 4)) (ix b79 6)))))) rfl l0 hM101 (fun _ => R_add rfl rfl) rfl (gN rfl) rfl ?_
      refine WO_pure (.int .u32 (IntKind.u32.wrap ((IntKind.u32.wrap ((IntKind.u32.wrap ((ix b79 7) + (turnsOf (ix b79 4) [6, 11, 25]))) + (bxor .u32 (band .u32 (ix b79 4) (ix b79 5)) (band .u32 (bxor .u32 4294967295 (ix b79 4)) (ix b79 6))))) + (ix shaK i79)))) rfl l0 hM101 (fun _ => R_add rfl rfl) rfl (gN rfl) rfl ?_
      refine WO_pure (.int .u32 (IntKind.u32.wrap ((IntKind.u32.wrap ((IntKind.u32.wrap ((IntKind.u32.wrap ((ix b79 7) + (turnsOf (ix b79 4) [6, 11, 25]))) + (bxor .u32 (band .u32 (ix b79 4) (ix b79 5)) (band .u32 (bxor .u32 4294967295 (ix b79 4)) (ix b79 6))))) + (ix shaK i79))) + (ix b5 i79)))) rfl l0 hM101 (fun _ => R_add rfl rfl) rfl (gN rfl) rfl ?_
      refine WO_pure (.int .u32 (IntKind.u32.wrap ((IntKind.u32.wrap ((IntKind.u32.wrap ((IntKind.u32.wrap ((ix b79 7) + (turnsOf (ix b79 4) [6, 11, 25]))) + (bxor .u32 (band .u32 (ix b79 4) (ix b79 5)) (band .u32 (bxor .u32 4294967295 (ix b79 4)) (ix b79 6))))) + (ix shaK i79))) + (ix b5 i79)))) rfl l0 hM101 (fun _ => R_as rfl) rfl (gN rfl) rfl ?_
      refine WO_nil ?_
      refine WP_seq ?_
      refine WP_ordD (K := K101) NX [.o 0 2, .o 3 2, .o 4 2, .o 5 2, .o 6 2, .o 7 2, .o 8 2, .o 9 2, .o 10 2, .o 11 2, .o 12 2, .o 13 2, .o 14 2, .o 15 2, .o 16 2, .o 17 2, .o 1 0, .o 2 0, .o 18 2, .o 19 2] (by kernel_rfl) (by kernel_rfl) hM101 ?_
      rintro w102 hS102 hM102
      have hE102 := hE101.andN hS102
      refine WO_pure (.int .u32 (ix b79 0)) rfl l0 hM102 (fun _ => R_mv rfl) rfl (gN rfl) rfl ?_
      refine WO_pure (.int .u32 (ix b79 0)) rfl l0 hM102 (fun _ => R_mv rfl) rfl (gN rfl) rfl ?_
      refine WO_pure (.pointer (some ⟨b74, 0 + (1 : Int).toNat * (Kd.int .u32).sz, none⟩)) rfl l0 hM102 (fun _ => R_ixa rfl rfl Try.underlying146 ty123 (by decide) (by decide)) rfl (gN rfl) rfl ?_
      have hR104 := (((hR91.extN hS99).extN hS101).extN hS102)
      refine WO_L0 hM102 (S_ldB (Foc.arr 8 (Kd.int .u32) 1 (by decide) (by decide)) rfl ty123 hR104 (by first | rfl | simp | omega) (fun h => h)) rfl (gN rfl) rfl ?_
      rintro v103 (hV103 : (Kd.int .u32).V _ (ix b79 1) _)
      obtain rfl := int_form hV103
      refine WO_pure (.int .u32 (band .u32 (ix b79 0) (ix b79 1))) rfl l0 hM102 (fun _ => R_and rfl rfl) rfl (gN rfl) rfl ?_
      refine WO_pure (.int .u32 (ix b79 0)) rfl l0 hM102 (fun _ => R_mv rfl) rfl (gN rfl) rfl ?_
      refine WO_pure (.pointer (some ⟨b74, 0 + (2 : Int).toNat * (Kd.int .u32).sz, none⟩)) rfl l0 hM102 (fun _ => R_ixa rfl rfl Try.underlying146 ty123 (by decide) (by decide)) rfl (gN rfl) rfl ?_
      refine WO_L0 hM102 (S_ldB (Foc.arr 8 (Kd.int .u32) 2 (by decide) (by decide)) rfl ty123 hR104 (by first | rfl | simp | omega) (fun h => h)) rfl (gN rfl) rfl ?_
      rintro v105 (hV105 : (Kd.int .u32).V _ (ix b79 2) _)
      obtain rfl := int_form hV105
      refine WO_pure (.int .u32 (band .u32 (ix b79 0) (ix b79 2))) rfl l0 hM102 (fun _ => R_and rfl rfl) rfl (gN rfl) rfl ?_
      refine WO_pure (.int .u32 (bxor .u32 (band .u32 (ix b79 0) (ix b79 1)) (band .u32 (ix b79 0) (ix b79 2)))) rfl l0 hM102 (fun _ => R_xor rfl rfl) rfl (gN rfl) rfl ?_
      refine WO_pure (.pointer (some ⟨b74, 0 + (1 : Int).toNat * (Kd.int .u32).sz, none⟩)) rfl l0 hM102 (fun _ => R_ixa rfl rfl Try.underlying146 ty123 (by decide) (by decide)) rfl (gN rfl) rfl ?_
      refine WO_L0 hM102 (S_ldB (Foc.arr 8 (Kd.int .u32) 1 (by decide) (by decide)) rfl ty123 hR104 (by first | rfl | simp | omega) (fun h => h)) rfl (gN rfl) rfl ?_
      rintro v106 (hV106 : (Kd.int .u32).V _ (ix b79 1) _)
      obtain rfl := int_form hV106
      refine WO_pure (.pointer (some ⟨b74, 0 + (2 : Int).toNat * (Kd.int .u32).sz, none⟩)) rfl l0 hM102 (fun _ => R_ixa rfl rfl Try.underlying146 ty123 (by decide) (by decide)) rfl (gN rfl) rfl ?_
      refine WO_L0 hM102 (S_ldB (Foc.arr 8 (Kd.int .u32) 2 (by decide) (by decide)) rfl ty123 hR104 (by first | rfl | simp | omega) (fun h => h)) rfl (gN rfl) rfl ?_
      rintro v107 (hV107 : (Kd.int .u32).V _ (ix b79 2) _)
      obtain rfl := int_form hV107
      refine WO_pure (.int .u32 (band .u32 (ix b79 1) (ix b79 2))) rfl l0 hM102 (fun _ => R_and rfl rfl) rfl (gN rfl) rfl ?_
      refine WO_pure (.int .u32 (bxor .u32 (bxor .u32 (band .u32 (ix b79 0) (ix b79 1)) (band .u32 (ix b79 0) (ix b79 2))) (band .u32 (ix b79 1) (ix b79 2)))) rfl l0 hM102 (fun _ => R_xor rfl rfl) rfl (gN rfl) rfl ?_
      refine WO_eff0 rfl (gN rfl) rfl (St_S0 (S_bsl (k := (Kd.int .i64)) (l := [(2, (.int .i64 2)), (13, (.int .i64 13)), (22, (.int .i64 22))]) hM102 rfl (by intro p hp; simp only [List.mem_cons, List.not_mem_nil, or_false] at hp; rcases hp with rfl | rfl | rfl; exact (int_V (show (Kd.int .i64).wf 2 from by constructor <;> decide)); exact (int_V (show (Kd.int .i64).wf 13 from by constructor <;> decide)); exact (int_V (show (Kd.int .i64).wf 22 from by constructor <;> decide))) rfl Try.underlying168 ty3 rfl rfl) ?_)
      rintro v108 w108 K108 (hO108 : Own (Kd.int .i64) 3 w108 K108 [2, 13, 22] v108) hS108 hM108 hg108
      refine ⟨K108, hS108, hM108, ?_⟩
      have hE108 := hE102.andN hS108
      have hR110 := ((hO99.extN hS101).extN hS102)
      refine WO_eff0 rfl (gN rfl) rfl (St_call (R_call Try.call105 rfl) ((turns_c hM108 (int_V (hV86).wf) hO108.V).mono ?_))
      rintro _ w111 ⟨K111, v111_0, rfl, hS111, hM111, hV111_0⟩
      refine ⟨v111_0, rfl, ?_⟩
      refine ⟨K111, hS111, hM111, ?_⟩
      have hE111 := hE108.andN hS111
      obtain rfl := int_form hV111_0
      refine WO_pure (.int .u32 (IntKind.u32.wrap ((turnsOf (ix b79 0) [2, 13, 22]) + (bxor .u32 (bxor .u32 (band .u32 (ix b79 0) (ix b79 1)) (band .u32 (ix b79 0) (ix b79 2))) (band .u32 (ix b79 1) (ix b79 2)))))) rfl l0 hM111 (fun _ => R_add rfl rfl) rfl (gN rfl) rfl ?_
      refine WO_pure (.int .u32 (IntKind.u32.wrap ((turnsOf (ix b79 0) [2, 13, 22]) + (bxor .u32 (bxor .u32 (band .u32 (ix b79 0) (ix b79 1)) (band .u32 (ix b79 0) (ix b79 2))) (band .u32 (ix b79 1) (ix b79 2)))))) rfl l0 hM111 (fun _ => R_as rfl) rfl (gN rfl) rfl ?_
      refine WO_nil ?_
      refine WP_region ?_
      refine WL_pure (.int .u32 (IntKind.u32.wrap ((IntKind.u32.wrap ((IntKind.u32.wrap ((IntKind.u32.wrap ((ix b79 7) + (turnsOf (ix b79 4) [6, 11, 25]))) + (bxor .u32 (band .u32 (ix b79 4) (ix b79 5)) (band .u32 (bxor .u32 4294967295 (ix b79 4)) (ix b79 6))))) + (ix shaK i79))) + (ix b5 i79)))) (R_mv rfl) rfl rfl ?_
      refine WL_pure (.int .u32 (IntKind.u32.wrap ((turnsOf (ix b79 0) [2, 13, 22]) + (bxor .u32 (bxor .u32 (band .u32 (ix b79 0) (ix b79 1)) (band .u32 (ix b79 0) (ix b79 2))) (band .u32 (ix b79 1) (ix b79 2)))))) (R_mv rfl) rfl rfl ?_
      refine WL_pure (.int .u32 (IntKind.u32.wrap ((IntKind.u32.wrap ((IntKind.u32.wrap ((IntKind.u32.wrap ((IntKind.u32.wrap ((ix b79 7) + (turnsOf (ix b79 4) [6, 11, 25]))) + (bxor .u32 (band .u32 (ix b79 4) (ix b79 5)) (band .u32 (bxor .u32 4294967295 (ix b79 4)) (ix b79 6))))) + (ix shaK i79))) + (ix b5 i79))) + (IntKind.u32.wrap ((turnsOf (ix b79 0) [2, 13, 22]) + (bxor .u32 (bxor .u32 (band .u32 (ix b79 0) (ix b79 1)) (band .u32 (ix b79 0) (ix b79 2))) (band .u32 (ix b79 1) (ix b79 2)))))))) (R_add rfl rfl) rfl rfl ?_
      refine WL_pure (.int .u32 (ix b79 0)) (R_mv rfl) rfl rfl ?_
      refine WL_pure (.pointer (some ⟨b74, 0 + (1 : Int).toNat * (Kd.int .u32).sz, none⟩)) (R_ixa rfl rfl Try.underlying146 ty123 (by decide) (by decide)) rfl rfl ?_
      have hR113 := ((hR104.extN hS108).extN hS111)
      refine WL_L hM111 (S_ldB (Foc.arr 8 (Kd.int .u32) 1 (by decide) (by decide)) rfl ty123 hR113 (by first | rfl | simp | omega) (fun h => h)) rfl rfl ?_
      rintro v112 (hV112 : (Kd.int .u32).V _ (ix b79 1) _)
      obtain rfl := int_form hV112
      refine WL_pure (.pointer (some ⟨b74, 0 + (2 : Int).toNat * (Kd.int .u32).sz, none⟩)) (R_ixa rfl rfl Try.underlying146 ty123 (by decide) (by decide)) rfl rfl ?_
      refine WL_L hM111 (S_ldB (Foc.arr 8 (Kd.int .u32) 2 (by decide) (by decide)) rfl ty123 hR113 (by first | rfl | simp | omega) (fun h => h)) rfl rfl ?_
      rintro v114 (hV114 : (Kd.int .u32).V _ (ix b79 2) _)
      obtain rfl := int_form hV114
      refine WL_pure (.pointer (some ⟨b74, 0 + (3 : Int).toNat * (Kd.int .u32).sz, none⟩)) (R_ixa rfl rfl Try.underlying146 ty123 (by decide) (by decide)) rfl rfl ?_
      refine WL_L hM111 (S_ldB (Foc.arr 8 (Kd.int .u32) 3 (by decide) (by decide)) rfl ty123 hR113 (by first | rfl | simp | omega) (fun h => h)) rfl rfl ?_
      rintro v115 (hV115 : (Kd.int .u32).V _ (ix b79 3) _)
      obtain rfl := int_form hV115
      refine WL_pure (.int .u32 (IntKind.u32.wrap ((IntKind.u32.wrap ((IntKind.u32.wrap ((IntKind.u32.wrap ((ix b79 7) + (turnsOf (ix b79 4) [6, 11, 25]))) + (bxor .u32 (band .u32 (ix b79 4) (ix b79 5)) (band .u32 (bxor .u32 4294967295 (ix b79 4)) (ix b79 6))))) + (ix shaK i79))) + (ix b5 i79)))) (R_mv rfl) rfl rfl ?_
      refine WL_pure (.int .u32 (IntKind.u32.wrap ((ix b79 3) + (IntKind.u32.wrap ((IntKind.u32.wrap ((IntKind.u32.wrap ((IntKind.u32.wrap ((ix b79 7) + (turnsOf (ix b79 4) [6, 11, 25]))) + (bxor .u32 (band .u32 (ix b79 4) (ix b79 5)) (band .u32 (bxor .u32 4294967295 (ix b79 4)) (ix b79 6))))) + (ix shaK i79))) + (ix b5 i79)))))) (R_add rfl rfl) rfl rfl ?_
      refine WL_pure (.int .u32 (ix b79 4)) (R_mv rfl) rfl rfl ?_
      refine WL_pure (.pointer (some ⟨b74, 0 + (5 : Int).toNat * (Kd.int .u32).sz, none⟩)) (R_ixa rfl rfl Try.underlying146 ty123 (by decide) (by decide)) rfl rfl ?_
      refine WL_L hM111 (S_ldB (Foc.arr 8 (Kd.int .u32) 5 (by decide) (by decide)) rfl ty123 hR113 (by first | rfl | simp | omega) (fun h => h)) rfl rfl ?_
      rintro v116 (hV116 : (Kd.int .u32).V _ (ix b79 5) _)
      obtain rfl := int_form hV116
      refine WL_pure (.pointer (some ⟨b74, 0 + (6 : Int).toNat * (Kd.int .u32).sz, none⟩)) (R_ixa rfl rfl Try.underlying146 ty123 (by decide) (by decide)) rfl rfl ?_
      refine WL_L hM111 (S_ldB (Foc.arr 8 (Kd.int .u32) 6 (by decide) (by decide)) rfl ty123 hR113 (by first | rfl | simp | omega) (fun h => h)) rfl rfl ?_
      rintro v117 (hV117 : (Kd.int .u32).V _ (ix b79 6) _)
      obtain rfl := int_form hV117
      refine WL_V (S_bldA (k := (Kd.int .u32)) (l := [((IntKind.u32.wrap ((IntKind.u32.wrap ((IntKind.u32.wrap ((IntKind.u32.wrap ((IntKind.u32.wrap ((ix b79 7) + (turnsOf (ix b79 4) [6, 11, 25]))) + (bxor .u32 (band .u32 (ix b79 4) (ix b79 5)) (band .u32 (bxor .u32 4294967295 (ix b79 4)) (ix b79 6))))) + (ix shaK i79))) + (ix b5 i79))) + (IntKind.u32.wrap ((turnsOf (ix b79 0) [2, 13, 22]) + (bxor .u32 (bxor .u32 (band .u32 (ix b79 0) (ix b79 1)) (band .u32 (ix b79 0) (ix b79 2))) (band .u32 (ix b79 1) (ix b79 2))))))), (.int .u32 (IntKind.u32.wrap ((IntKind.u32.wrap ((IntKind.u32.wrap ((IntKind.u32.wrap ((IntKind.u32.wrap ((ix b79 7) + (turnsOf (ix b79 4) [6, 11, 25]))) + (bxor .u32 (band .u32 (ix b79 4) (ix b79 5)) (band .u32 (bxor .u32 4294967295 (ix b79 4)) (ix b79 6))))) + (ix shaK i79))) + (ix b5 i79))) + (IntKind.u32.wrap ((turnsOf (ix b79 0) [2, 13, 22]) + (bxor .u32 (bxor .u32 (band .u32 (ix b79 0) (ix b79 1)) (band .u32 (ix b79 0) (ix b79 2))) (band .u32 (ix b79 1) (ix b79 2))))))))), ((ix b79 0), (.int .u32 (ix b79 0))), ((ix b79 1), (.int .u32 (ix b79 1))), ((ix b79 2), (.int .u32 (ix b79 2))), ((IntKind.u32.wrap ((ix b79 3) + (IntKind.u32.wrap ((IntKind.u32.wrap ((IntKind.u32.wrap ((IntKind.u32.wrap ((ix b79 7) + (turnsOf (ix b79 4) [6, 11, 25]))) + (bxor .u32 (band .u32 (ix b79 4) (ix b79 5)) (band .u32 (bxor .u32 4294967295 (ix b79 4)) (ix b79 6))))) + (ix shaK i79))) + (ix b5 i79))))), (.int .u32 (IntKind.u32.wrap ((ix b79 3) + (IntKind.u32.wrap ((IntKind.u32.wrap ((IntKind.u32.wrap ((IntKind.u32.wrap ((ix b79 7) + (turnsOf (ix b79 4) [6, 11, 25]))) + (bxor .u32 (band .u32 (ix b79 4) (ix b79 5)) (band .u32 (bxor .u32 4294967295 (ix b79 4)) (ix b79 6))))) + (ix shaK i79))) + (ix b5 i79))))))), ((ix b79 4), (.int .u32 (ix b79 4))), ((ix b79 5), (.int .u32 (ix b79 5))), ((ix b79 6), (.int .u32 (ix b79 6)))]) (K := K111) ty146 ty123 Try.underlying146 rfl (by intro p hp; simp only [List.mem_cons, List.not_mem_nil, or_false] at hp; rcases hp with rfl | rfl | rfl | rfl | rfl | rfl | rfl | rfl; exact (int_V (wrap_wf _ _)); exact (int_V (hV86).wf); exact (int_V (hV112).wf); exact (int_V (hV114).wf); exact (int_V (wrap_wf _ _)); exact (int_V (hV88).wf); exact (int_V (hV116).wf); exact (int_V (hV117).wf)) rfl) rfl rfl ?_
      rintro v118 (hV118 : kd_a8_u32.V _ [(IntKind.u32.wrap ((IntKind.u32.wrap ((IntKind.u32.wrap ((IntKind.u32.wrap ((IntKind.u32.wrap ((ix b79 7) + (turnsOf (ix b79 4) [6, 11, 25]))) + (bxor .u32 (band .u32 (ix b79 4) (ix b79 5)) (band .u32 (bxor .u32 4294967295 (ix b79 4)) (ix b79 6))))) + (ix shaK i79))) + (ix b5 i79))) + (IntKind.u32.wrap ((turnsOf (ix b79 0) [2, 13, 22]) + (bxor .u32 (bxor .u32 (band .u32 (ix b79 0) (ix b79 1)) (band .u32 (ix b79 0) (ix b79 2))) (band .u32 (ix b79 1) (ix b79 2))))))), (ix b79 0), (ix b79 1), (ix b79 2), (IntKind.u32.wrap ((ix b79 3) + (IntKind.u32.wrap ((IntKind.u32.wrap ((IntKind.u32.wrap ((IntKind.u32.wrap ((ix b79 7) + (turnsOf (ix b79 4) [6, 11, 25]))) + (bxor .u32 (band .u32 (ix b79 4) (ix b79 5)) (band .u32 (bxor .u32 4294967295 (ix b79 4)) (ix b79 6))))) + (ix shaK i79))) + (ix b5 i79))))), (ix b79 4), (ix b79 5), (ix b79 6)] _)
      refine WL_eff rfl rfl (St_St (S_stB (Foc.id _) hM111 rfl rfl hV118 ty146 hR113 (by first | rfl | simp | omega)) ?_)
      rintro w120 (hB120 : Bx kd_a8_u32 _ _ b74 [] [] [(IntKind.u32.wrap ((IntKind.u32.wrap ((IntKind.u32.wrap ((IntKind.u32.wrap ((IntKind.u32.wrap ((ix b79 7) + (turnsOf (ix b79 4) [6, 11, 25]))) + (bxor .u32 (band .u32 (ix b79 4) (ix b79 5)) (band .u32 (bxor .u32 4294967295 (ix b79 4)) (ix b79 6))))) + (ix shaK i79))) + (ix b5 i79))) + (IntKind.u32.wrap ((turnsOf (ix b79 0) [2, 13, 22]) + (bxor .u32 (bxor .u32 (band .u32 (ix b79 0) (ix b79 1)) (band .u32 (ix b79 0) (ix b79 2))) (band .u32 (ix b79 1) (ix b79 2))))))), (ix b79 0), (ix b79 1), (ix b79 2), (IntKind.u32.wrap ((ix b79 3) + (IntKind.u32.wrap ((IntKind.u32.wrap ((IntKind.u32.wrap ((IntKind.u32.wrap ((ix b79 7) + (turnsOf (ix b79 4) [6, 11, 25]))) + (bxor .u32 (band .u32 (ix b79 4) (ix b79 5)) (band .u32 (bxor .u32 4294967295 (ix b79 4)) (ix b79 6))))) + (ix shaK i79))) + (ix b5 i79))))), (ix b79 4), (ix b79 5), (ix b79 6)]) hS120 hM120
      have hE120 := hE111.comp hS120 (fun c hx hlt => (by subst hx; exact (fun hlt => absurd hlt (Nat.not_lt.2 (Nat.le_trans hE6.size hge74))) hlt))
      refine WL_nil ?_
      refine WP_region ?_
      refine WL_pure (.int .i64 (IntKind.i64.wrap (i79 + 1))) (R_add rfl rfl) rfl rfl ?_
      refine WL_pure (.int .i64 (IntKind.i64.wrap (i79 + 1))) (R_mv rfl) rfl rfl ?_
      refine WL_nil ?_
      refine BackQ.mk ((IntKind.i64.wrap (i79 + 1)), [(IntKind.u32.wrap ((IntKind.u32.wrap ((IntKind.u32.wrap ((IntKind.u32.wrap ((IntKind.u32.wrap ((ix b79 7) + (turnsOf (ix b79 4) [6, 11, 25]))) + (bxor .u32 (band .u32 (ix b79 4) (ix b79 5)) (band .u32 (bxor .u32 4294967295 (ix b79 4)) (ix b79 6))))) + (ix shaK i79))) + (ix b5 i79))) + (IntKind.u32.wrap ((turnsOf (ix b79 0) [2, 13, 22]) + (bxor .u32 (bxor .u32 (band .u32 (ix b79 0) (ix b79 1)) (band .u32 (ix b79 0) (ix b79 2))) (band .u32 (ix b79 1) (ix b79 2))))))), (ix b79 0), (ix b79 1), (ix b79 2), (IntKind.u32.wrap ((ix b79 3) + (IntKind.u32.wrap ((IntKind.u32.wrap ((IntKind.u32.wrap ((IntKind.u32.wrap ((ix b79 7) + (turnsOf (ix b79 4) [6, 11, 25]))) + (bxor .u32 (band .u32 (ix b79 4) (ix b79 5)) (band .u32 (bxor .u32 4294967295 (ix b79 4)) (ix b79 6))))) + (ix shaK i79))) + (ix b5 i79))))), (ix b79 4), (ix b79 5), (ix b79 6)]) [(96, (.int .i64 (IntKind.i64.wrap (i79 + 1))))] ?_ ?_ ?_ ?_
      rotate_left
      · exact h.2
      · repeat (first | exact Off.lay0 rfl | refine Off.updO ?_ rfl _ | refine Off.updN ?_ _ | refine Off.lay ?_ rfl)
      · repeat (first | exact trivial | refine ⟨rfl, ?_⟩)
      exact ⟨K111, h.1, rfl, ((((((((((Ext.refl _ _ _).comp hX80 (fun c hx hlt => (hx))).andN hS85).andN hS89).andN hS99).andN hS101).andN hS102).andN hS108).andN hS111).comp hS120 (fun c hx hlt => (hx))), hM120, (wrap_wf _ _), hB120⟩
    · have hd82 : ¬ (i79 < 64) := dec_f hc82
      have h := h.2 hd82
      refine WP_exit ?_
      refine WP_seq ?_
      refine WP_region ?_
      refine WL_pure (.int .i64 0) (R_mv rfl) rfl rfl ?_
      refine WL_nil ?_
      refine WP_block ?_
      have hR123 := (hR72.extN hS74)
      have hR124 := ((hR123.ext hS76 (fun hx => (fun he => (ne_new hge74 hR72.lt) he.symm) hx)).extN hS77)
      have hR125 := (hR124.ext hX80 (fun hx => (fun he => (ne_new hge74 hR72.lt) he.symm) hx))
      obtain ⟨I121, μ121, h0, h⟩ := h
      refine WP_loopE (ι := Int × (List Int)) [13, 165, 166, 167, 168, 169, 170, 171, 172, 173, 174, 175, 176, 177, 178, 179] (fun s l w => ∃ K, I121 s.1 s.2 ∧ l = [(165, (.int .i64 s.1))] ∧ Ext (fun c => c = a0_s_b) w80 K80 w K ∧ Models w K ∧ (Kd.int .i64).wf s.1 ∧ Bx kd_a8_u32 w K a0_s_b a0_s_pre a0_s_post s.2) (fun s => μ121 s.1 s.2) (0, a0_s) [(165, (.int .i64 0))]
        ⟨K80, h0, rfl, Ext.refl _ _ _, hM80, (show (Kd.int .i64).wf 0 from by constructor <;> decide), hR125⟩ (by repeat (first | exact trivial | refine ⟨rfl, ?_⟩)) ?_
      rintro ⟨i121, b121⟩ l σ121 w122 ⟨K122, hI, rfl, hX122, hM122, hw121_165, hL121_1⟩
      dsimp only at hI hw121_165 hL121_1
      have hE122 := hE80.comp hX122 (fun c hx hlt => (by subst hx; exact (fun _ => rfl) hlt))
      have h := h i121 b121 hI hw121_165 hL121_1.wf
      refine WP_seq ?_
      refine WP_region ?_
      refine WL_pure (.bool (decide (i121 < 8))) (R_lss rfl rfl) rfl rfl ?_
      refine WL_nil ?_
      refine WP_seq ?_
      refine WP_cond (decide (i121 < 8)) rfl (fun hc126 => ?_) (fun hc126 => ?_)
      · have hd126 : i121 < 8 := dec_t hc126
        have h := h.1 hd126
        refine WP_skip ?_
        refine WP_seq ?_
        refine WP_block ?_
        refine WP_seq ?_
        refine WP_region ?_
        refine WL_pure (.int .i64 i121) (R_mv rfl) rfl rfl ?_
        refine WL_pure (.int .i64 i121) (R_as rfl) rfl rfl ?_
        refine WL_nil ?_
        have hR127 := (hL79_75.ext hX122 (fun hx => (ne_new hge74 hR72.lt) hx))
        refine WP_ordD (K := K122) (fun c => c = a0_s_b ∨ w122.heap.size ≤ c) [.o 0 2, .o 1 2, .o 2 2, .o 3 2, .o 4 2, .o 5 2, .o 6 2, .o 7 2, .o 8 2, .o 9 2, .o 10 2, .o 11 1] (by kernel_rfl) (by kernel_rfl) hM122 ?_
        rintro w128 hS128 hM128
        have hE128 := hE122.andN hS128
        refine WO_pure (.pointer (some ⟨a0_s_b, a0_s_pre.length, none⟩)) rfl l0 hM128 (fun _ => R_mv rfl) rfl (gN rfl) rfl ?_
        refine WO_pure (.int .i64 i121) rfl l0 hM128 (fun _ => R_mv rfl) rfl (gN rfl) rfl ?_
        refine WO_pure (.pointer (some ⟨a0_s_b, a0_s_pre.length, none⟩)) rfl l0 hM128 (fun _ => R_nilck rfl) rfl (gN rfl) rfl ?_
        obtain ⟨hp129, h⟩ := h
        refine WO_pure (.pointer (some ⟨a0_s_b, a0_s_pre.length + i121.toNat * (Kd.int .u32).sz, none⟩)) rfl l0 hM128 (fun _ => R_ixa rfl rfl Try.underlying146 ty123 hp129.1 hp129.2) rfl (gN rfl) rfl ?_
        have hR131 := (hL121_1.extN hS128)
        refine WO_L0 hM128 (S_ldB (Foc.arr 8 (Kd.int .u32) i121 hp129.1 hp129.2) rfl ty123 hR131 (by first | rfl | simp | omega) (fun h => h)) rfl (gN rfl) rfl ?_
        rintro v130 (hV130 : (Kd.int .u32).V _ (ix b121 i121) _)
        obtain rfl := int_form hV130
        refine WO_pure (.int .i64 i121) rfl l0 hM128 (fun _ => R_mv rfl) rfl (gN rfl) rfl ?_
        obtain ⟨hp132, h⟩ := h
        refine WO_pure (.pointer (some ⟨b74, 0 + i121.toNat * (Kd.int .u32).sz, none⟩)) rfl l0 hM128 (fun _ => R_ixa rfl rfl Try.underlying146 ty123 hp132.1 hp132.2) rfl (gN rfl) rfl ?_
        have hR134 := (hR127.extN hS128)
        refine WO_L0 hM128 (S_ldB (Foc.arr 8 (Kd.int .u32) i121 hp132.1 hp132.2) rfl ty123 hR134 (by first | rfl | simp | omega) (fun h => h)) rfl (gN rfl) rfl ?_
        rintro v133 (hV133 : (Kd.int .u32).V _ (ix b79 i121) _)
        obtain rfl := int_form hV133
        refine WO_pure (.int .u32 (IntKind.u32.wrap ((ix b121 i121) + (ix b79 i121)))) rfl l0 hM128 (fun _ => R_add rfl rfl) rfl (gN rfl) rfl ?_
        refine WO_pure (.pointer (some ⟨a0_s_b, a0_s_pre.length, none⟩)) rfl l0 hM128 (fun _ => R_nilck rfl) rfl (gN rfl) rfl ?_
        obtain ⟨hp135, h⟩ := h
        refine WO_pure (.pointer (some ⟨a0_s_b, a0_s_pre.length + i121.toNat * (Kd.int .u32).sz, none⟩)) rfl l0 hM128 (fun _ => R_ixa rfl rfl Try.underlying146 ty123 hp135.1 hp135.2) rfl (gN rfl) rfl ?_
        refine WO_eff rfl (gN rfl) rfl (St_St (S_stB (Foc.arr 8 (Kd.int .u32) i121 hp135.1 hp135.2) hM128 rfl rfl (int_V (wrap_wf _ _)) ty123 hR131 (by first | rfl | simp | omega)) ?_)
        rintro w136 (hB136 : Bx kd_a8_u32 _ _ a0_s_b a0_s_pre a0_s_post (b121.set i121.toNat (IntKind.u32.wrap ((ix b121 i121) + (ix b79 i121))))) hS136 hM136
        refine ⟨K122, (hS136.weak (fun c hlt hx => (.inl (hx)))), hM136, ?_⟩
        have hE136 := hE128.comp hS136 (fun c hx hlt => (by subst hx; exact (fun _ => rfl) hlt))
        refine WO_nil ?_
        refine WP_region ?_
        refine WL_pure (.int .i64 (IntKind.i64.wrap (i121 + 1))) (R_add rfl rfl) rfl rfl ?_
        refine WL_pure (.int .i64 (IntKind.i64.wrap (i121 + 1))) (R_mv rfl) rfl rfl ?_
        refine WL_nil ?_
        refine BackQ.mk ((IntKind.i64.wrap (i121 + 1)), (b121.set i121.toNat (IntKind.u32.wrap ((ix b121 i121) + (ix b79 i121))))) [(165, (.int .i64 (IntKind.i64.wrap (i121 + 1))))] ?_ ?_ ?_ ?_
        rotate_left
        · exact h.2
        · repeat (first | exact Off.lay0 rfl | refine Off.updO ?_ rfl _ | refine Off.updN ?_ _ | refine Off.lay ?_ rfl)
        · repeat (first | exact trivial | refine ⟨rfl, ?_⟩)
        exact ⟨K122, h.1, rfl, ((((Ext.refl _ _ _).comp hX122 (fun c hx hlt => (hx))).andN hS128).comp hS136 (fun c hx hlt => (hx))), hM136, (wrap_wf _ _), hB136⟩
      · have hd126 : ¬ (i121 < 8) := dec_f hc126
        have h := h.2 hd126
        refine WP_exit ?_
        exact endR_nrm hR (v := (.tuple #[])) (resE_0 rfl) ⟨K122, b121, rfl, h, hE122, hM122, hL121_1⟩
theorem take_c {w0 : World} {K0 : Ghost} {a0_s_b : Nat} {a0_s_pre a0_s_post : List Value} {a0_s : (List Int)} {a1_b_v : Value} {a1_b : (List UInt8)} (hM0 : Models w0 K0) (h_a0_s_B : Bx kd_a8_u32 w0 K0 a0_s_b a0_s_pre a0_s_post a0_s) (h_a1_b : kd_l_u8.V K0 a1_b a1_b_v) (hp : a1_b.length = 64) : Calls Try.prog 93 #[(.pointer (some ⟨a0_s_b, a0_s_pre.length, none⟩)), a1_b_v] w0 (fun e w' => ∃ (K' : Ghost), e = .returned (.tuple #[]) ∧ Ext (fun c => c = a0_s_b) w0 K0 w' K' ∧ Models w' K' ∧ Bx kd_a8_u32 w' K' a0_s_b a0_s_pre a0_s_post (takeW a0_s a1_b)) := by
  refine (take_walk hM0 h_a0_s_B h_a1_b (take_ok h_a0_s_B.wf h_a1_b.wf hp)).mono ?_
  rintro _ w' ⟨K', o0, rfl, rfl, hF⟩
  exact ⟨K', rfl, hF⟩
end Go.Proofs.Ytfbhiilolpamaaa
