/- Each function that stands here: what its call must answer for (_VC), that it does (_ok), the walk through its code (_walk), its contract (_c). -/
import Derived.Test.YtfbhiilolpamaaaS13
import Derived.Test.YtfbhiilolpamaaaChecked
import Derived.Test.YtfbhiilolpamaaaB21
import Derived.Test.YtfbhiilolpamaaaP8
set_option linter.unusedVariables false
set_option maxRecDepth 100000
set_option maxHeartbeats 2000000
namespace Go.Proofs.Ytfbhiilolpamaaa
open Go Go.RowKit Go.Inc
def schedule_VC (a0_b : (List UInt8)) (Q : (List Int) → Prop) : Prop :=
  ∃ (I4 : (List Int) → Int → Prop) (μ4 : (List Int) → Int → Nat), I4 ([] : List Int) 0 ∧ ∀ (w_4 : (List Int)) (i4 : Int), I4 w_4 i4 → (kd_l_u32.wf w_4) → ((Kd.int .i64).wf i4) → (((i4 < 16) → ∃ (I8 : Int → Int → Prop) (μ8 : Int → Int → Nat), I8 0 0 ∧ ∀ (x8 : Int) (j8 : Int), I8 x8 j8 → ((Kd.int .u32).wf x8) → ((Kd.int .i64).wf j8) → (((j8 < 4) → (0 ≤ (IntKind.i64.wrap ((IntKind.i64.wrap (4 * i4)) + j8)) ∧ (IntKind.i64.wrap ((IntKind.i64.wrap (4 * i4)) + j8)) < (a0_b.length : Int)) ∧ (I8 (IntKind.u32.wrap ((IntKind.u32.wrap (256 * x8)) + (bI (ix a0_b (IntKind.i64.wrap ((IntKind.i64.wrap (4 * i4)) + j8)))))) (IntKind.i64.wrap (j8 + 1)) ∧ μ8 (IntKind.u32.wrap ((IntKind.u32.wrap (256 * x8)) + (bI (ix a0_b (IntKind.i64.wrap ((IntKind.i64.wrap (4 * i4)) + j8)))))) (IntKind.i64.wrap (j8 + 1)) < μ8 x8 j8)) ∧ ((¬ (j8 < 4)) → ((w_4.length + [x8].length) * 4 ≤ 140737488355328) ∧ (I4 (w_4 ++ [x8]) (IntKind.i64.wrap (i4 + 1)) ∧ μ4 (w_4 ++ [x8]) (IntKind.i64.wrap (i4 + 1)) < μ4 w_4 i4)))) ∧ ((¬ (i4 < 16)) → ∃ (I27 : (List Int) → Int → Prop) (μ27 : (List Int) → Int → Nat), I27 w_4 16 ∧ ∀ (w_27 : (List Int)) (i27 : Int), I27 w_27 i27 → (kd_l_u32.wf w_27) → ((Kd.int .i64).wf i27) → (((i27 < 64) → (0 ≤ (IntKind.i64.wrap (i27 - 15)) ∧ (IntKind.i64.wrap (i27 - 15)) < (w_27.length : Int)) ∧ ((0 ≤ (IntKind.i64.wrap (i27 - 2)) ∧ (IntKind.i64.wrap (i27 - 2)) < (w_27.length : Int)) ∧ (((1 : Int) ≤ 7 ∧ 7 ≤ (31 : Int)) ∧ (((Kd.int .u32).wf (turnR (ix w_27 (IntKind.i64.wrap (i27 - 15))) 7)) → (((1 : Int) ≤ 18 ∧ 18 ≤ (31 : Int)) ∧ (((Kd.int .u32).wf (turnR (ix w_27 (IntKind.i64.wrap (i27 - 15))) 18)) → (((Kd.int .u32).wf (bxor .u32 (bxor .u32 (turnR (ix w_27 (IntKind.i64.wrap (i27 - 15))) 7) (turnR (ix w_27 (IntKind.i64.wrap (i27 - 15))) 18)) (IntKind.u32.wrap (Int.tdiv (ix w_27 (IntKind.i64.wrap (i27 - 15))) 8)))) → (((1 : Int) ≤ 17 ∧ 17 ≤ (31 : Int)) ∧ (((Kd.int .u32).wf (turnR (ix w_27 (IntKind.i64.wrap (i27 - 2))) 17)) → (((1 : Int) ≤ 19 ∧ 19 ≤ (31 : Int)) ∧ (((Kd.int .u32).wf (turnR (ix w_27 (IntKind.i64.wrap (i27 - 2))) 19)) → (((Kd.int .u32).wf (bxor .u32 (bxor .u32 (turnR (ix w_27 (IntKind.i64.wrap (i27 - 2))) 17) (turnR (ix w_27 (IntKind.i64.wrap (i27 - 2))) 19)) (IntKind.u32.wrap (Int.tdiv (ix w_27 (IntKind.i64.wrap (i27 - 2))) 1024)))) → ((0 ≤ (IntKind.i64.wrap (i27 - 16)) ∧ (IntKind.i64.wrap (i27 - 16)) < (w_27.length : Int)) ∧ ((0 ≤ (IntKind.i64.wrap (i27 - 7)) ∧ (IntKind.i64.wrap (i27 - 7)) < (w_27.length : Int)) ∧ (((w_27.length + [(IntKind.u32.wrap ((IntKind.u32.wrap ((IntKind.u32.wrap ((ix w_27 (IntKind.i64.wrap (i27 - 16))) + (bxor .u32 (bxor .u32 (turnR (ix w_27 (IntKind.i64.wrap (i27 - 15))) 7) (turnR (ix w_27 (IntKind.i64.wrap (i27 - 15))) 18)) (IntKind.u32.wrap (Int.tdiv (ix w_27 (IntKind.i64.wrap (i27 - 15))) 8))))) + (ix w_27 (IntKind.i64.wrap (i27 - 7))))) + (bxor .u32 (bxor .u32 (turnR (ix w_27 (IntKind.i64.wrap (i27 - 2))) 17) (turnR (ix w_27 (IntKind.i64.wrap (i27 - 2))) 19)) (IntKind.u32.wrap (Int.tdiv (ix w_27 (IntKind.i64.wrap (i27 - 2))) 1024)))))].length) * 4 ≤ 140737488355328) ∧ (I27 (w_27 ++ [(IntKind.u32.wrap ((IntKind.u32.wrap ((IntKind.u32.wrap ((ix w_27 (IntKind.i64.wrap (i27 - 16))) + (bxor .u32 (bxor .u32 (turnR (ix w_27 (IntKind.i64.wrap (i27 - 15))) 7) (turnR (ix w_27 (IntKind.i64.wrap (i27 - 15))) 18)) (IntKind.u32.wrap (Int.tdiv (ix w_27 (IntKind.i64.wrap (i27 - 15))) 8))))) + (ix w_27 (IntKind.i64.wrap (i27 - 7))))) + (bxor .u32 (bxor .u32 (turnR (ix w_27 (IntKind.i64.wrap (i27 - 2))) 17) (turnR (ix w_27 (IntKind.i64.wrap (i27 - 2))) 19)) (IntKind.u32.wrap (Int.tdiv (ix w_27 (IntKind.i64.wrap (i27 - 2))) 1024)))))]) (IntKind.i64.wrap (i27 + 1)) ∧ μ27 (w_27 ++ [(IntKind.u32.wrap ((IntKind.u32.wrap ((IntKind.u32.wrap ((ix w_27 (IntKind.i64.wrap (i27 - 16))) + (bxor .u32 (bxor .u32 (turnR (ix w_27 (IntKind.i64.wrap (i27 - 15))) 7) (turnR (ix w_27 (IntKind.i64.wrap (i27 - 15))) 18)) (IntKind.u32.wrap (Int.tdiv (ix w_27 (IntKind.i64.wrap (i27 - 15))) 8))))) + (ix w_27 (IntKind.i64.wrap (i27 - 7))))) + (bxor .u32 (bxor .u32 (turnR (ix w_27 (IntKind.i64.wrap (i27 - 2))) 17) (turnR (ix w_27 (IntKind.i64.wrap (i27 - 2))) 19)) (IntKind.u32.wrap (Int.tdiv (ix w_27 (IntKind.i64.wrap (i27 - 2))) 1024)))))]) (IntKind.i64.wrap (i27 + 1)) < μ27 w_27 i27)))))))))))))))) ∧ ((¬ (i27 < 64)) → Q w_27))))
theorem schedule_ok {a0_b : (List UInt8)} (w_0 : kd_l_u8.wf a0_b) (hp : a0_b.length = 64) : schedule_VC a0_b (fun o0 => o0 = (wordsN a0_b 64)) := by
  have w64 : ∀ a : Int, -1000 ≤ a → a ≤ 1000 → IntKind.i64.wrap a = a := fun a h1 h2 => wrap_id (wf64 (by omega) (by omega))
  have hacc : ∀ (i : Int) (m : Nat), 0 ≤ accB a0_b i m ∧ accB a0_b i m < 256 ^ m := fun i m => by
    induction m with
    | zero => simp [accB]
    | succ m ih =>
      have hb := bI_lt (ix a0_b (4 * i + (m : Int)))
      have e : (256 : Int) ^ (m + 1) = 256 * 256 ^ m := by rw [Int.pow_succ, Int.mul_comm]
      simp only [accB]
      rw [e]
      generalize (256 : Int) ^ m = Z at *
      omega
  unfold schedule_VC
  refine ⟨fun w i => ∃ n : Nat, i = (n : Int) ∧ n ≤ 16 ∧ w = (wordsN a0_b n).take n, fun _ i => 16 - i.toNat, ⟨0, rfl, by omega, by simp⟩, ?_⟩
  rintro w i ⟨n, rfl, hn, rfl⟩ _ _
  refine ⟨fun hlt => ?_, fun hge => ?_⟩
  · refine ⟨fun x j => ∃ m : Nat, j = (m : Int) ∧ m ≤ 4 ∧ x = accB a0_b n m, fun _ j => 4 - j.toNat, ⟨0, rfl, by omega, rfl⟩, ?_⟩
    rintro x j ⟨m, rfl, hm, rfl⟩ _ _
    have e4 : IntKind.i64.wrap (IntKind.i64.wrap (4 * (n : Int)) + (m : Int)) = 4 * (n : Int) + (m : Int) := by rw [w64 (4 * (n : Int)) (by omega) (by omega), w64 _ (by omega) (by omega)]
    rw [e4, w64 ((m : Int) + 1) (by omega) (by omega), w64 ((n : Int) + 1) (by omega) (by omega)]
    refine ⟨fun hj => ⟨⟨by omega, by omega⟩, ⟨m + 1, by omega, by omega, ?_⟩, by show 4 - ((m : Int) + 1).toNat < 4 - (m : Int).toNat; omega⟩, fun hj => ?_⟩
    · have h1 := hacc n m
      have hb := bI_lt (ix a0_b (4 * (n : Int) + (m : Int)))
      have h2 : (256 : Int) ^ m ≤ 16777216 := by
        rcases (by omega : m = 0 ∨ m = 1 ∨ m = 2 ∨ m = 3) with h | h | h | h <;> rw [h] <;> decide
      simp only [accB]
      rw [wr32 (256 * _), wr32]
      omega
    · have : m = 4 := by omega
      subst this
      have hl := wordsN_len a0_b n
      refine ⟨by simp only [List.length_append, List.length_take, List.length_cons, List.length_nil]; omega, ⟨n + 1, by omega, by omega, ?_⟩, by show 16 - ((n : Int) + 1).toNat < 16 - (n : Int).toNat; omega⟩
      rw [wordsN_step _ (by omega), if_pos (by omega), wordAt_acc]
  · have hn16 : n = 16 := by omega
    subst hn16
    refine ⟨fun w i => ∃ n : Nat, i = (n : Int) ∧ 16 ≤ n ∧ n ≤ 64 ∧ w = (wordsN a0_b n).take n, fun _ i => 64 - i.toNat, ⟨16, rfl, by omega, by omega, rfl⟩, ?_⟩
    rintro w i ⟨n, rfl, hn1, hn2, rfl⟩ hwf _
    have hl := wordsN_len a0_b n
    have hlt : ((wordsN a0_b n).take n).length = n := by rw [List.length_take]; omega
    refine ⟨fun hlt64 => ?_, fun hge64 => ?_⟩
    · rw [w64 ((n : Int) - 15) (by omega) (by omega), w64 ((n : Int) - 2) (by omega) (by omega), w64 ((n : Int) - 16) (by omega) (by omega), w64 ((n : Int) - 7) (by omega) (by omega), w64 ((n : Int) + 1) (by omega) (by omega), hlt]
      have hx : ∀ d : Int, 0 < d → d ≤ 16 → 0 ≤ ix ((wordsN a0_b n).take n) ((n : Int) - d) ∧ ix ((wordsN a0_b n).take n) ((n : Int) - d) < 4294967296 := fun d h1 h2 => wf32 (hwf.2 _ (ix_mem (by omega) (by rw [hlt]; omega)))
      have ht : ∀ d : Int, 0 < d → d ≤ 16 → ix ((wordsN a0_b n).take n) ((n : Int) - d) = ix (wordsN a0_b n) ((n : Int) - d) := fun d h1 h2 => ix_take (by omega)
      refine ⟨by omega, by omega, by omega, fun _ => ⟨by omega, fun _ _ => ⟨by omega, fun _ => ⟨by omega, fun _ _ => ⟨by omega, by omega, ?_, ⟨n + 1, by omega, by omega, by omega, ?_⟩, by show 64 - ((n : Int) + 1).toNat < 64 - (n : Int).toNat; omega⟩⟩⟩⟩⟩
      · simp only [List.length_cons, List.length_nil]; omega
      · rw [wordsN_step _ (by omega), if_neg (by omega)]
        congr 2
        have x15 := hx 15 (by omega) (by omega)
        have x2 := hx 2 (by omega) (by omega)
        unfold wordOn
        rw [← ht 15 (by omega) (by omega), ← ht 2 (by omega) (by omega), ← ht 16 (by omega) (by omega), ← ht 7 (by omega) (by omega), turnsC x15, turnsD x2,
          show (3 : Int) = ((3 : Nat) : Int) from rfl, show (10 : Int) = ((10 : Nat) : Int) from rfl, shr_tdiv x15 3 (by omega), shr_tdiv x2 10 (by omega)]
        show IntKind.u32.wrap (IntKind.u32.wrap (IntKind.u32.wrap (_ + bxor .u32 _ (IntKind.u32.wrap (Int.tdiv _ 8))) + _) + bxor .u32 _ (IntKind.u32.wrap (Int.tdiv _ 1024))) = IntKind.u32.wrap (IntKind.u32.wrap (IntKind.u32.wrap (_ + _) + bxor .u32 _ (IntKind.u32.wrap (Int.tdiv _ 8))) + bxor .u32 _ (IntKind.u32.wrap (Int.tdiv _ 1024)))
        generalize bxor .u32 _ (IntKind.u32.wrap (Int.tdiv _ 8)) = S
        generalize bxor .u32 _ (IntKind.u32.wrap (Int.tdiv _ 1024)) = T
        simp only [wr32]
        omega
    · have : n = 64 := by omega
      subst this
      rw [List.take_of_length_le (by omega)]

theorem schedule_walk {w0 : World} {K0 : Ghost} {a0_b_v : Value} {a0_b : (List UInt8)} {Q : (List Int) → Prop} (hM0 : Models w0 K0) (h_a0_b : kd_l_u8.V K0 a0_b a0_b_v) (h : schedule_VC a0_b Q) : Calls Try.prog 97 #[a0_b_v] w0 (fun e w' => ∃ (K' : Ghost) (r0 : Value) (o0 : (List Int)), e = .returned r0 ∧ Q o0 ∧ Ext NX w0 K0 w' K' ∧ Models w' K' ∧ Own (Kd.int .u32) 123 w' K' o0 r0 ∧ (∀ g, ob r0 = some g → w0.heap.size ≤ g)) := by
  unfold schedule_VC at h
  have hE0 : Ext NX w0 K0 w0 K0 := Ext.refl _ _ _
  refine calls_gen fun R hR => ?_
  refine calls_env (args := [a0_b_v]) Try.func97 rfl (Nat.le_of_ble_eq_true rfl) ?_
  refine WP_seq ?_
  refine WP_region ?_
  have hR2 : Own (Kd.int .u32) 123 w0 K0 ([] : List Int) (.slice none 0 0) := Own.nil
  refine WL_pure (.slice none 0 0) (R_as rfl) rfl rfl ?_
  refine WL_nil ?_
  refine WP_seq ?_
  refine WP_region ?_
  have hR3 : Own (Kd.int .u32) 123 w0 K0 ([] : List Int) (.slice none 0 0) := Own.nil
  refine WL_pure (.slice none 0 0) (R_as rfl) rfl rfl ?_
  refine WL_nil ?_
  refine WP_seq ?_
  refine WP_seq ?_
  refine WP_region ?_
  refine WL_pure (.int .i64 0) (R_as rfl) rfl rfl ?_
  refine WL_nil ?_
  refine WP_block ?_
  obtain ⟨I4, μ4, h0, h⟩ := h
  refine WP_loopE (ι := (List Int) × Int) [3, 4, 5, 6, 12, 13, 14, 15, 16, 17, 18, 19, 20, 21, 22, 23, 24, 25, 26, 27, 28, 29, 30, 31, 32, 33, 34] (fun s l w => ∃ K u3, I4 s.1 s.2 ∧ l = [(3, u3), (4, (.int .i64 s.2))] ∧ Ext (fun c => ob (.slice none 0 0) = some c) w0 K0 w K ∧ Models w K ∧ (Kd.int .i64).wf s.2 ∧ Own (Kd.int .u32) 123 w K s.1 u3 ∧ (∀ g, ob u3 = some g → ob (.slice none 0 0) = some g ∨ w0.heap.size ≤ g)) (fun s => μ4 s.1 s.2) (([] : List Int), 0) [(3, (.slice none 0 0)), (4, (.int .i64 0))]
    ⟨K0, (.slice none 0 0), h0, rfl, Ext.refl _ _ _, hM0, (show (Kd.int .i64).wf 0 from by constructor <;> decide), hR3, (fun g hg => .inr (nilS hg))⟩ (by repeat (first | exact trivial | refine ⟨rfl, ?_⟩)) ?_
  rintro ⟨w_4, i4⟩ l σ4 w5 ⟨K5, u3_4, hI, rfl, hX5, hM5, hw4_4, hL4_u3, ho4_u3⟩
  dsimp only at hI hw4_4 hL4_u3 ho4_u3
  have hE5 := hE0.comp hX5 (fun c hx hlt => (fun g hg _ => nilS hg) c hx hlt)
  have hR6 := (hR2.ext hX5 (fun g hg hx => (fun g hg hx => (fun g hg _ => nilS hg) g hx hg) g hg hx))
  have h := h w_4 i4 hI hL4_u3.wf hw4_4
  refine WP_seq ?_
  refine WP_seq ?_
  refine WP_region ?_
  refine WL_pure (.int .i64 i4) (R_mv rfl) rfl rfl ?_
  refine WL_pure (.bool (decide (i4 < 16))) (R_lss rfl rfl) rfl rfl ?_
  refine WL_nil ?_
  refine WP_cond (decide (i4 < 16)) rfl (fun hc7 => ?_) (fun hc7 => ?_)
  · have hd7 : i4 < 16 := dec_t hc7
    have h := h.1 hd7
    refine WP_skip ?_
    refine WP_seq ?_
    refine WP_block ?_
    refine WP_seq ?_
    refine WP_region ?_
    refine WL_pure (.int .u32 0) (R_as rfl) rfl rfl ?_
    refine WL_nil ?_
    refine WP_seq ?_
    refine WP_seq ?_
    refine WP_region ?_
    refine WL_pure (.int .i64 0) (R_as rfl) rfl rfl ?_
    refine WL_nil ?_
    refine WP_block ?_
    obtain ⟨I8, μ8, h0, h⟩ := h
    refine WP_loopE (ι := Int × Int) [5, 6, 16, 17, 18, 19, 20, 21, 22, 23, 24, 25, 26, 27, 28, 29, 30] (fun s l w => ∃ K, I8 s.1 s.2 ∧ l = [(5, (.int .u32 s.1)), (6, (.int .i64 s.2))] ∧ Ext NX w5 K5 w K ∧ Models w K ∧ (Kd.int .u32).wf s.1 ∧ (Kd.int .i64).wf s.2) (fun s => μ8 s.1 s.2) (0, 0) [(5, (.int .u32 0)), (6, (.int .i64 0))]
      ⟨K5, h0, rfl, Ext.refl _ _ _, hM5, (show (Kd.int .u32).wf 0 from by constructor <;> decide), (show (Kd.int .i64).wf 0 from by constructor <;> decide)⟩ (by repeat (first | exact trivial | refine ⟨rfl, ?_⟩)) ?_
    rintro ⟨x8, j8⟩ l σ8 w9 ⟨K9, hI, rfl, hX9, hM9, hw8_5, hw8_6⟩
    dsimp only at hI hw8_5 hw8_6
    have hE9 := hE5.andN hX9
    have h := h x8 j8 hI hw8_5 hw8_6
    refine WP_seq ?_
    refine WP_seq ?_
    refine WP_region ?_
    refine WL_pure (.int .i64 j8) (R_mv rfl) rfl rfl ?_
    refine WL_pure (.bool (decide (j8 < 4))) (R_lss rfl rfl) rfl rfl ?_
    refine WL_nil ?_
    refine WP_cond (decide (j8 < 4)) rfl (fun hc10 => ?_) (fun hc10 => ?_)
    · have hd10 : j8 < 4 := dec_t hc10
      have h := h.1 hd10
      refine WP_skip ?_
      refine WP_seq ?_
      refine WP_block ?_
      refine WP_region ?_
      refine WL_pure (.int .u32 x8) (R_mv rfl) rfl rfl ?_
      refine WL_pure (.int .u32 (IntKind.u32.wrap (256 * x8))) (R_mul rfl rfl) rfl rfl ?_
      refine WL_pure a0_b_v (R_mv rfl) rfl rfl ?_
      refine WL_pure (.int .i64 i4) (R_mv rfl) rfl rfl ?_
      refine WL_pure (.int .i64 (IntKind.i64.wrap (4 * i4))) (R_mul rfl rfl) rfl rfl ?_
      refine WL_pure (.int .i64 j8) (R_mv rfl) rfl rfl ?_
      refine WL_pure (.int .i64 (IntKind.i64.wrap ((IntKind.i64.wrap (4 * i4)) + j8))) (R_add rfl rfl) rfl rfl ?_
      obtain ⟨hp12, h⟩ := h
      refine WL_P (S_ixs rfl (h_a0_b.mono (hX5.le.trans hX9.le)) rfl Try.underlying39 ty5b hp12.1 hp12.2) rfl rfl ?_
      rintro b11 o11 hP11
      refine WL_L hM9 (S_ld rfl ty5b hP11) rfl rfl ?_
      rintro v14 (hV14 : Kd.byte.V _ (ix a0_b (IntKind.i64.wrap ((IntKind.i64.wrap (4 * i4)) + j8))) _)
      obtain rfl := byte_form hV14
      refine WL_pure (.int .u32 (bI (ix a0_b (IntKind.i64.wrap ((IntKind.i64.wrap (4 * i4)) + j8))))) (R_cvn rfl Try.underlying5 Try.underlying123 (bI_wf _) (by decide) (by decide)) rfl rfl ?_
      refine WL_pure (.int .u32 (IntKind.u32.wrap ((IntKind.u32.wrap (256 * x8)) + (bI (ix a0_b (IntKind.i64.wrap ((IntKind.i64.wrap (4 * i4)) + j8))))))) (R_add rfl rfl) rfl rfl ?_
      refine WL_pure (.int .u32 (IntKind.u32.wrap ((IntKind.u32.wrap (256 * x8)) + (bI (ix a0_b (IntKind.i64.wrap ((IntKind.i64.wrap (4 * i4)) + j8))))))) (R_as rfl) rfl rfl ?_
      refine WL_nil ?_
      refine WP_region ?_
      refine WL_pure (.int .i64 j8) (R_mv rfl) rfl rfl ?_
      refine WL_pure (.int .i64 (IntKind.i64.wrap (j8 + 1))) (R_add rfl rfl) rfl rfl ?_
      refine WL_pure (.int .i64 (IntKind.i64.wrap (j8 + 1))) (R_as rfl) rfl rfl ?_
      refine WL_nil ?_
      refine BackQ.mk ((IntKind.u32.wrap ((IntKind.u32.wrap (256 * x8)) + (bI (ix a0_b (IntKind.i64.wrap ((IntKind.i64.wrap (4 * i4)) + j8)))))), (IntKind.i64.wrap (j8 + 1))) [(5, (.int .u32 (IntKind.u32.wrap ((IntKind.u32.wrap (256 * x8)) + (bI (ix a0_b (IntKind.i64.wrap ((IntKind.i64.wrap (4 * i4)) + j8)))))))), (6, (.int .i64 (IntKind.i64.wrap (j8 + 1))))] ?_ ?_ ?_ ?_
      rotate_left
      · exact h.2
      · repeat (first | exact Off.lay0 rfl | refine Off.updO ?_ rfl _ | refine Off.updN ?_ _ | refine Off.lay ?_ rfl)
      · repeat (first | exact trivial | refine ⟨rfl, ?_⟩)
      exact ⟨K9, h.1, rfl, ((Ext.refl _ _ _).andN hX9), hM9, (wrap_wf _ _), (wrap_wf _ _)⟩
    · have hd10 : ¬ (j8 < 4) := dec_f hc10
      have h := h.2 hd10
      refine WP_exit ?_
      refine WP_region ?_
      refine WL_pure u3_4 (R_mv rfl) rfl rfl ?_
      refine WL_pure (.int .u32 x8) (R_mv rfl) rfl rfl ?_
      refine WL_eff rfl rfl (St_S0 (S_bsl (k := (Kd.int .u32)) (l := [(x8, (.int .u32 x8))]) hM9 rfl (by intro p hp; simp only [List.mem_cons, List.not_mem_nil, or_false] at hp; subst hp; exact (int_V hw8_5)) rfl Try.underlying124 ty123 rfl rfl) ?_)
      rintro v15 w15 K15 (hO15 : Own (Kd.int .u32) 123 w15 K15 [x8] v15) hS15 hM15 hg15
      have hE15 := hE9.andN hS15
      have hR17 := (hR6.extN hX9)
      have hR18 := (hL4_u3.extN hX9)
      have hR19 := ((hL4_u3.extN hX9).extN hS15)
      obtain ⟨hp21, h⟩ := h
      refine WL_eff rfl rfl (St_S (S_app hM15 rfl hR19 rfl hO15.V Try.underlying124 ty123 rfl hp21) ?_)
      rintro v20 w20 K20 hO20 hS20 hM20 hob20
      have hE20 := hE15.comp hS20 (fun c hx hlt => (fun g hg hlt => absurd hlt (Nat.not_lt.2 ((fun g hg => (ho4_u3 g hg).elim (fun hx => (fun g hg => nilS hg) g hx) (fun hx => Nat.le_trans hE0.size hx)) g hg))) c hx hlt)
      have hR22 := ((hR6.extN hX9).extN hS15)
      have hR23 := (hR22.ext hS20 (fun g hg hx => (fun g hg hx => (fun g hg hy => (ho4_u3 g hg).elim (fun hz => (fun g hg _ => nilS hg) g hz hy) (fun hz => absurd (hR2.lt _ hy) (Nat.not_lt.2 hz))) g hx hg) g hg hx))
      have hR24 := (hO15.ext hS20 (fun g hg hx => (fun g hg hx => absurd (hR18.lt _ hx) (Nat.not_lt.2 (hg15 g hg))) g hg hx))
      have hf20 : ∀ g, ob v20 = some g → w0.heap.size ≤ g := fun g hg => by rcases hob20 with hq | hq <;> rw [hq] at hg; exact (fun g hg => (ho4_u3 g hg).elim (fun hx => (fun g hg => nilS hg) g hx) (fun hx => Nat.le_trans hE0.size hx)) g hg; cases hg; exact hE15.size
      have hs26 : ∀ g, ob v20 = some g → ¬ (ob v15 = some g) := fun g hg hx => by rcases hob20 with hq | hq <;> rw [hq] at hg; exact (fun g hg hx => (fun g hg hx => absurd (hR18.lt _ hx) (Nat.not_lt.2 (hg15 g hg))) g hx hg) g hg hx; cases hg; exact absurd (hO15.lt _ hx) (Nat.not_lt.2 (Nat.le_refl _))
      refine WL_pure v20 (R_as rfl) rfl rfl ?_
      refine WL_nil ?_
      refine WP_region ?_
      refine WL_pure (.int .i64 i4) (R_mv rfl) rfl rfl ?_
      refine WL_pure (.int .i64 (IntKind.i64.wrap (i4 + 1))) (R_add rfl rfl) rfl rfl ?_
      refine WL_pure (.int .i64 (IntKind.i64.wrap (i4 + 1))) (R_as rfl) rfl rfl ?_
      refine WL_nil ?_
      refine BackQ.mk ((w_4 ++ [x8]), (IntKind.i64.wrap (i4 + 1))) [(3, v20), (4, (.int .i64 (IntKind.i64.wrap (i4 + 1))))] ?_ ?_ ?_ ?_
      rotate_left
      · exact h.2
      · repeat (first | exact Off.lay0 rfl | refine Off.updO ?_ rfl _ | refine Off.updN ?_ _ | refine Off.lay ?_ rfl)
      · repeat (first | exact trivial | refine ⟨rfl, ?_⟩)
      exact ⟨K20, v20, h.1, rfl, (((((Ext.refl _ _ _).comp hX5 (fun c hx hlt => (absurd hlt (Nat.not_lt.2 (nilS hx))))).andN hX9).andN hS15).comp hS20 (fun c hx hlt => (absurd hlt (Nat.not_lt.2 ((ho4_u3 c hx).elim (fun hz => (nilS hz)) (fun hz => (Nat.le_trans (Nat.le_refl _) hz))))))), hM20, (wrap_wf _ _), hO20, (fun g hg => .inr (by have hg : ob v20 = some g := hg; rcases hob20 with hq | hq <;> rw [hq] at hg; exact ((ho4_u3 g hg).elim (fun hz => (nilS hz)) (fun hz => (Nat.le_trans (Nat.le_refl _) hz))); cases hg; exact hE15.size))⟩
  · have hd7 : ¬ (i4 < 16) := dec_f hc7
    have h := h.2 hd7
    refine WP_exit ?_
    refine WP_seq ?_
    refine WP_seq ?_
    refine WP_region ?_
    refine WL_pure (.int .i64 16) (R_as rfl) rfl rfl ?_
    refine WL_nil ?_
    refine WP_block ?_
    obtain ⟨I27, μ27, h0, h⟩ := h
    refine WP_loopE (ι := (List Int) × Int) [3, 7, 8, 9, 10, 11, 35, 36, 37, 38, 39, 40, 41, 42, 43, 44, 45, 46, 47, 48, 49, 50, 51, 52, 53, 54, 55, 56, 57, 58, 59, 60, 61, 62, 63, 64, 65, 66, 67, 68, 69, 70, 71, 72, 73, 74, 75, 76, 77, 78, 79, 80] (fun s l w => ∃ K u3, I27 s.1 s.2 ∧ l = [(3, u3), (7, (.int .i64 s.2))] ∧ Ext (fun c => ob u3_4 = some c) w5 K5 w K ∧ Models w K ∧ (Kd.int .i64).wf s.2 ∧ Own (Kd.int .u32) 123 w K s.1 u3 ∧ (∀ g, ob u3 = some g → ob u3_4 = some g ∨ w5.heap.size ≤ g)) (fun s => μ27 s.1 s.2) (w_4, 16) [(3, u3_4), (7, (.int .i64 16))]
      ⟨K5, u3_4, h0, rfl, Ext.refl _ _ _, hM5, (show (Kd.int .i64).wf 16 from by constructor <;> decide), hL4_u3, (fun g hg => (.inl hg))⟩ (by repeat (first | exact trivial | refine ⟨rfl, ?_⟩)) ?_
    rintro ⟨w_27, i27⟩ l σ27 w28 ⟨K28, u3_27, hI, rfl, hX28, hM28, hw27_7, hL27_u3, ho27_u3⟩
    dsimp only at hI hw27_7 hL27_u3 ho27_u3
    have hE28 := hE5.comp hX28 (fun c hx hlt => (fun g hg hlt => absurd hlt (Nat.not_lt.2 ((fun g hg => (ho4_u3 g hg).elim (fun hx => (fun g hg => nilS hg) g hx) (fun hx => Nat.le_trans hE0.size hx)) g hg))) c hx hlt)
    have hR29 := (hR6.ext hX28 (fun g hg hx => (fun g hg hx => (fun g hg hy => (ho4_u3 g hg).elim (fun hz => (fun g hg _ => nilS hg) g hz hy) (fun hz => absurd (hR2.lt _ hy) (Nat.not_lt.2 hz))) g hx hg) g hg hx))
    have h := h w_27 i27 hI hL27_u3.wf hw27_7
    refine WP_seq ?_
    refine WP_seq ?_
    refine WP_region ?_
    refine WL_pure (.int .i64 i27) (R_mv rfl) rfl rfl ?_
    refine WL_pure (.bool (decide (i27 < 64))) (R_lss rfl rfl) rfl rfl ?_
    refine WL_nil ?_
    refine WP_cond (decide (i27 < 64)) rfl (fun hc30 => ?_) (fun hc30 => ?_)
    · have hd30 : i27 < 64 := dec_t hc30
      have h := h.1 hd30
      refine WP_skip ?_
      refine WP_seq ?_
      refine WP_block ?_
      refine WP_seq ?_
      refine WP_ordD (K := K28) NX [.o 0 2, .o 1 2, .o 2 2, .o 3 2, .o 4 2, .o 5 2, .o 6 2, .o 7 2, .o 8 2, .o 9 2, .o 10 2, .o 11 2] (by kernel_rfl) (by kernel_rfl) hM28 ?_
      rintro w31 hS31 hM31
      have hE31 := hE28.andN hS31
      refine WO_pure u3_27 rfl l0 hM31 (fun _ => R_mv rfl) rfl (gN rfl) rfl ?_
      refine WO_pure (.int .i64 i27) rfl l0 hM31 (fun _ => R_mv rfl) rfl (gN rfl) rfl ?_
      refine WO_pure (.int .i64 (IntKind.i64.wrap (i27 - 15))) rfl l0 hM31 (fun _ => R_sub rfl rfl) rfl (gN rfl) rfl ?_
      obtain ⟨hp33, h⟩ := h
      refine WO_P rfl l0 hM31 (S_ixs rfl (hL27_u3.V.mono hS31.le) rfl Try.underlying124 ty123 hp33.1 hp33.2) rfl (gN rfl) rfl ?_
      rintro b32 o32 hP32
      refine WO_L0 hM31 (S_ld rfl ty123 hP32) rfl (gN rfl) rfl ?_
      rintro v35 (hV35 : (Kd.int .u32).V _ (ix w_27 (IntKind.i64.wrap (i27 - 15))) _)
      obtain rfl := int_form hV35
      refine WO_pure u3_27 rfl l0 hM31 (fun _ => R_mv rfl) rfl (gN rfl) rfl ?_
      refine WO_pure (.int .i64 i27) rfl l0 hM31 (fun _ => R_mv rfl) rfl (gN rfl) rfl ?_
      refine WO_pure (.int .i64 (IntKind.i64.wrap (i27 - 2))) rfl l0 hM31 (fun _ => R_sub rfl rfl) rfl (gN rfl) rfl ?_
      obtain ⟨hp37, h⟩ := h
      refine WO_P rfl l0 hM31 (S_ixs rfl (hL27_u3.V.mono hS31.le) rfl Try.underlying124 ty123 hp37.1 hp37.2) rfl (gN rfl) rfl ?_
      rintro b36 o36 hP36
      refine WO_L0 hM31 (S_ld rfl ty123 hP36) rfl (gN rfl) rfl ?_
      rintro v39 (hV39 : (Kd.int .u32).V _ (ix w_27 (IntKind.i64.wrap (i27 - 2))) _)
      obtain rfl := int_form hV39
      refine WO_pure (.int .u32 (ix w_27 (IntKind.i64.wrap (i27 - 15)))) rfl l0 hM31 (fun _ => R_as rfl) rfl (gN rfl) rfl ?_
      refine WO_pure (.int .u32 (ix w_27 (IntKind.i64.wrap (i27 - 2)))) rfl l0 hM31 (fun _ => R_as rfl) rfl (gN rfl) rfl ?_
      refine WO_nil ?_
      refine WP_seq ?_
      refine WP_region ?_
      refine WL_pure (.int .u32 (ix w_27 (IntKind.i64.wrap (i27 - 15)))) (R_mv rfl) rfl rfl ?_
      obtain ⟨hp41, h⟩ := h
      refine WL_eff rfl rfl (St_call (R_call Try.call100 rfl) ((turn_c hM31 (int_V (hV35).wf) (int_V (show (Kd.int .i64).wf 7 from by constructor <;> decide)) hp41).mono ?_))
      rintro _ w40 ⟨K40, v40_0, rfl, hS40, hM40, hV40_0⟩
      refine ⟨v40_0, rfl, ?_⟩
      have hE40 := hE31.andN hS40
      obtain rfl := int_form hV40_0
      have h := h hV40_0.wf
      refine WL_pure (.int .u32 (ix w_27 (IntKind.i64.wrap (i27 - 15)))) (R_mv rfl) rfl rfl ?_
      obtain ⟨hp43, h⟩ := h
      refine WL_eff rfl rfl (St_call (R_call Try.call100 rfl) ((turn_c hM40 (int_V (hV35).wf) (int_V (show (Kd.int .i64).wf 18 from by constructor <;> decide)) hp43).mono ?_))
      rintro _ w42 ⟨K42, v42_0, rfl, hS42, hM42, hV42_0⟩
      refine ⟨v42_0, rfl, ?_⟩
      have hE42 := hE40.andN hS42
      obtain rfl := int_form hV42_0
      have h := h hV42_0.wf
      refine WL_pure (.int .u32 (ix w_27 (IntKind.i64.wrap (i27 - 15)))) (R_mv rfl) rfl rfl ?_
      refine WL_pure (.int .u32 (IntKind.u32.wrap (Int.tdiv (ix w_27 (IntKind.i64.wrap (i27 - 15))) 8))) (R_quo rfl rfl (by decide)) rfl rfl ?_
      refine WL_eff rfl rfl (St_call (R_call Try.call99 rfl) ((three_c hM42 (int_V (hV40_0).wf) (int_V (hV42_0).wf) (int_V (wrap_wf _ _))).mono ?_))
      rintro _ w44 ⟨K44, v44_0, rfl, hS44, hM44, hV44_0⟩
      refine ⟨v44_0, rfl, ?_⟩
      have hE44 := hE42.andN hS44
      obtain rfl := int_form hV44_0
      have h := h hV44_0.wf
      refine WL_pure (.int .u32 (bxor .u32 (bxor .u32 (turnR (ix w_27 (IntKind.i64.wrap (i27 - 15))) 7) (turnR (ix w_27 (IntKind.i64.wrap (i27 - 15))) 18)) (IntKind.u32.wrap (Int.tdiv (ix w_27 (IntKind.i64.wrap (i27 - 15))) 8)))) (R_as rfl) rfl rfl ?_
      refine WL_nil ?_
      refine WP_seq ?_
      refine WP_region ?_
      refine WL_pure (.int .u32 (ix w_27 (IntKind.i64.wrap (i27 - 2)))) (R_mv rfl) rfl rfl ?_
      obtain ⟨hp46, h⟩ := h
      refine WL_eff rfl rfl (St_call (R_call Try.call100 rfl) ((turn_c hM44 (int_V (hV39).wf) (int_V (show (Kd.int .i64).wf 17 from by constructor <;> decide)) hp46).mono ?_))
      rintro _ w45 ⟨K45, v45_0, rfl, hS45, hM45, hV45_0⟩
      refine ⟨v45_0, rfl, ?_⟩
      have hE45 := hE44.andN hS45
      obtain rfl := int_form hV45_0
      have h := h hV45_0.wf
      refine WL_pure (.int .u32 (ix w_27 (IntKind.i64.wrap (i27 - 2)))) (R_mv rfl) rfl rfl ?_
      obtain ⟨hp48, h⟩ := h
      refine WL_eff rfl rfl (St_call (R_call Try.call100 rfl) ((turn_c hM45 (int_V (hV39).wf) (int_V (show (Kd.int .i64).wf 19 from by constructor <;> decide)) hp48).mono ?_))
      rintro _ w47 ⟨K47, v47_0, rfl, hS47, hM47, hV47_0⟩
      refine ⟨v47_0, rfl, ?_⟩
      have hE47 := hE45.andN hS47
      obtain rfl := int_form hV47_0
      have h := h hV47_0.wf
      refine WL_pure (.int .u32 (ix w_27 (IntKind.i64.wrap (i27 - 2)))) (R_mv rfl) rfl rfl ?_
      refine WL_pure (.int .u32 (IntKind.u32.wrap (Int.tdiv (ix w_27 (IntKind.i64.wrap (i27 - 2))) 1024))) (R_quo rfl rfl (by decide)) rfl rfl ?_
      refine WL_eff rfl rfl (St_call (R_call Try.call99 rfl) ((three_c hM47 (int_V (hV45_0).wf) (int_V (hV47_0).wf) (int_V (wrap_wf _ _))).mono ?_))
      rintro _ w49 ⟨K49, v49_0, rfl, hS49, hM49, hV49_0⟩
      refine ⟨v49_0, rfl, ?_⟩
      have hE49 := hE47.andN hS49
      obtain rfl := int_form hV49_0
      have h := h hV49_0.wf
      refine WL_pure (.int .u32 (bxor .u32 (bxor .u32 (turnR (ix w_27 (IntKind.i64.wrap (i27 - 2))) 17) (turnR (ix w_27 (IntKind.i64.wrap (i27 - 2))) 19)) (IntKind.u32.wrap (Int.tdiv (ix w_27 (IntKind.i64.wrap (i27 - 2))) 1024)))) (R_as rfl) rfl rfl ?_
      refine WL_nil ?_
      have hR50 := (((((((hL27_u3.extN hS31).extN hS40).extN hS42).extN hS44).extN hS45).extN hS47).extN hS49)
      refine WP_ordD (K := K49) (fun c => ob u3_27 = some c ∨ w49.heap.size ≤ c) [.o 0 2, .o 1 2, .o 2 2, .o 3 2, .o 4 2, .o 5 2, .o 6 2, .o 7 2, .o 8 2, .o 9 2, .o 10 2, .o 11 2, .o 12 2, .o 13 2, .o 14 2, .o 15 2, .o 16 0, .o 17 1, .o 18 3] (by kernel_rfl) (by kernel_rfl) hM49 ?_
      rintro w51 hS51 hM51
      have hE51 := hE49.andN hS51
      refine WO_pure u3_27 rfl l0 hM51 (fun _ => R_mv rfl) rfl (gN rfl) rfl ?_
      refine WO_pure u3_27 rfl l0 hM51 (fun _ => R_mv rfl) rfl (gN rfl) rfl ?_
      refine WO_pure (.int .i64 i27) rfl l0 hM51 (fun _ => R_mv rfl) rfl (gN rfl) rfl ?_
      refine WO_pure (.int .i64 (IntKind.i64.wrap (i27 - 16))) rfl l0 hM51 (fun _ => R_sub rfl rfl) rfl (gN rfl) rfl ?_
      obtain ⟨hp53, h⟩ := h
      refine WO_P rfl l0 hM51 (S_ixs rfl (hR50.V.mono hS51.le) rfl Try.underlying124 ty123 hp53.1 hp53.2) rfl (gN rfl) rfl ?_
      rintro b52 o52 hP52
      refine WO_L0 hM51 (S_ld rfl ty123 hP52) rfl (gN rfl) rfl ?_
      rintro v55 (hV55 : (Kd.int .u32).V _ (ix w_27 (IntKind.i64.wrap (i27 - 16))) _)
      obtain rfl := int_form hV55
      refine WO_pure (.int .u32 (bxor .u32 (bxor .u32 (turnR (ix w_27 (IntKind.i64.wrap (i27 - 15))) 7) (turnR (ix w_27 (IntKind.i64.wrap (i27 - 15))) 18)) (IntKind.u32.wrap (Int.tdiv (ix w_27 (IntKind.i64.wrap (i27 - 15))) 8)))) rfl l0 hM51 (fun _ => R_mv rfl) rfl (gN rfl) rfl ?_
      refine WO_pure (.int .u32 (IntKind.u32.wrap ((ix w_27 (IntKind.i64.wrap (i27 - 16))) + (bxor .u32 (bxor .u32 (turnR (ix w_27 (IntKind.i64.wrap (i27 - 15))) 7) (turnR (ix w_27 (IntKind.i64.wrap (i27 - 15))) 18)) (IntKind.u32.wrap (Int.tdiv (ix w_27 (IntKind.i64.wrap (i27 - 15))) 8)))))) rfl l0 hM51 (fun _ => R_add rfl rfl) rfl (gN rfl) rfl ?_
      refine WO_pure u3_27 rfl l0 hM51 (fun _ => R_mv rfl) rfl (gN rfl) rfl ?_
      refine WO_pure (.int .i64 i27) rfl l0 hM51 (fun _ => R_mv rfl) rfl (gN rfl) rfl ?_
      refine WO_pure (.int .i64 (IntKind.i64.wrap (i27 - 7))) rfl l0 hM51 (fun _ => R_sub rfl rfl) rfl (gN rfl) rfl ?_
      obtain ⟨hp57, h⟩ := h
      refine WO_P rfl l0 hM51 (S_ixs rfl (hR50.V.mono hS51.le) rfl Try.underlying124 ty123 hp57.1 hp57.2) rfl (gN rfl) rfl ?_
      rintro b56 o56 hP56
      refine WO_L0 hM51 (S_ld rfl ty123 hP56) rfl (gN rfl) rfl ?_
      rintro v59 (hV59 : (Kd.int .u32).V _ (ix w_27 (IntKind.i64.wrap (i27 - 7))) _)
      obtain rfl := int_form hV59
      refine WO_pure (.int .u32 (IntKind.u32.wrap ((IntKind.u32.wrap ((ix w_27 (IntKind.i64.wrap (i27 - 16))) + (bxor .u32 (bxor .u32 (turnR (ix w_27 (IntKind.i64.wrap (i27 - 15))) 7) (turnR (ix w_27 (IntKind.i64.wrap (i27 - 15))) 18)) (IntKind.u32.wrap (Int.tdiv (ix w_27 (IntKind.i64.wrap (i27 - 15))) 8))))) + (ix w_27 (IntKind.i64.wrap (i27 - 7)))))) rfl l0 hM51 (fun _ => R_add rfl rfl) rfl (gN rfl) rfl ?_
      refine WO_pure (.int .u32 (bxor .u32 (bxor .u32 (turnR (ix w_27 (IntKind.i64.wrap (i27 - 2))) 17) (turnR (ix w_27 (IntKind.i64.wrap (i27 - 2))) 19)) (IntKind.u32.wrap (Int.tdiv (ix w_27 (IntKind.i64.wrap (i27 - 2))) 1024)))) rfl l0 hM51 (fun _ => R_mv rfl) rfl (gN rfl) rfl ?_
      refine WO_pure (.int .u32 (IntKind.u32.wrap ((IntKind.u32.wrap ((IntKind.u32.wrap ((ix w_27 (IntKind.i64.wrap (i27 - 16))) + (bxor .u32 (bxor .u32 (turnR (ix w_27 (IntKind.i64.wrap (i27 - 15))) 7) (turnR (ix w_27 (IntKind.i64.wrap (i27 - 15))) 18)) (IntKind.u32.wrap (Int.tdiv (ix w_27 (IntKind.i64.wrap (i27 - 15))) 8))))) + (ix w_27 (IntKind.i64.wrap (i27 - 7))))) + (bxor .u32 (bxor .u32 (turnR (ix w_27 (IntKind.i64.wrap (i27 - 2))) 17) (turnR (ix w_27 (IntKind.i64.wrap (i27 - 2))) 19)) (IntKind.u32.wrap (Int.tdiv (ix w_27 (IntKind.i64.wrap (i27 - 2))) 1024)))))) rfl l0 hM51 (fun _ => R_add rfl rfl) rfl (gN rfl) rfl ?_
      refine WO_eff0 rfl (gN rfl) rfl (St_S0 (S_bsl (k := (Kd.int .u32)) (l := [((IntKind.u32.wrap ((IntKind.u32.wrap ((IntKind.u32.wrap ((ix w_27 (IntKind.i64.wrap (i27 - 16))) + (bxor .u32 (bxor .u32 (turnR (ix w_27 (IntKind.i64.wrap (i27 - 15))) 7) (turnR (ix w_27 (IntKind.i64.wrap (i27 - 15))) 18)) (IntKind.u32.wrap (Int.tdiv (ix w_27 (IntKind.i64.wrap (i27 - 15))) 8))))) + (ix w_27 (IntKind.i64.wrap (i27 - 7))))) + (bxor .u32 (bxor .u32 (turnR (ix w_27 (IntKind.i64.wrap (i27 - 2))) 17) (turnR (ix w_27 (IntKind.i64.wrap (i27 - 2))) 19)) (IntKind.u32.wrap (Int.tdiv (ix w_27 (IntKind.i64.wrap (i27 - 2))) 1024))))), (.int .u32 (IntKind.u32.wrap ((IntKind.u32.wrap ((IntKind.u32.wrap ((ix w_27 (IntKind.i64.wrap (i27 - 16))) + (bxor .u32 (bxor .u32 (turnR (ix w_27 (IntKind.i64.wrap (i27 - 15))) 7) (turnR (ix w_27 (IntKind.i64.wrap (i27 - 15))) 18)) (IntKind.u32.wrap (Int.tdiv (ix w_27 (IntKind.i64.wrap (i27 - 15))) 8))))) + (ix w_27 (IntKind.i64.wrap (i27 - 7))))) + (bxor .u32 (bxor .u32 (turnR (ix w_27 (IntKind.i64.wrap (i27 - 2))) 17) (turnR (ix w_27 (IntKind.i64.wrap (i27 - 2))) 19)) (IntKind.u32.wrap (Int.tdiv (ix w_27 (IntKind.i64.wrap (i27 - 2))) 1024)))))))]) hM51 rfl (by intro p hp; simp only [List.mem_cons, List.not_mem_nil, or_false] at hp; subst hp; exact (int_V (wrap_wf _ _))) rfl Try.underlying124 ty123 rfl rfl) ?_)
      rintro v60 w60 K60 (hO60 : Own (Kd.int .u32) 123 w60 K60 [(IntKind.u32.wrap ((IntKind.u32.wrap ((IntKind.u32.wrap ((ix w_27 (IntKind.i64.wrap (i27 - 16))) + (bxor .u32 (bxor .u32 (turnR (ix w_27 (IntKind.i64.wrap (i27 - 15))) 7) (turnR (ix w_27 (IntKind.i64.wrap (i27 - 15))) 18)) (IntKind.u32.wrap (Int.tdiv (ix w_27 (IntKind.i64.wrap (i27 - 15))) 8))))) + (ix w_27 (IntKind.i64.wrap (i27 - 7))))) + (bxor .u32 (bxor .u32 (turnR (ix w_27 (IntKind.i64.wrap (i27 - 2))) 17) (turnR (ix w_27 (IntKind.i64.wrap (i27 - 2))) 19)) (IntKind.u32.wrap (Int.tdiv (ix w_27 (IntKind.i64.wrap (i27 - 2))) 1024)))))] v60) hS60 hM60 hg60
      refine ⟨K60, hS60, hM60, ?_⟩
      have hE60 := hE51.andN hS60
      have hR62 := ((((((((hR29.extN hS31).extN hS40).extN hS42).extN hS44).extN hS45).extN hS47).extN hS49).extN hS51)
      have hR63 := (hR50.extN hS51)
      have hR64 := ((hR50.extN hS51).extN hS60)
      obtain ⟨hp66, h⟩ := h
      refine WO_eff rfl (gN rfl) rfl (St_S (S_app hM60 rfl hR64 rfl hO60.V Try.underlying124 ty123 rfl hp66) ?_)
      rintro v65 w65 K65 hO65 hS65 hM65 hob65
      refine ⟨K65, (hS65.weak (fun c hlt hx => (.inl (hx)))), hM65, ?_⟩
      have hE65 := hE60.comp hS65 (fun c hx hlt => (fun g hg hlt => absurd hlt (Nat.not_lt.2 ((fun g hg => (ho27_u3 g hg).elim (fun hx => (fun g hg => (ho4_u3 g hg).elim (fun hx => (fun g hg => nilS hg) g hx) (fun hx => Nat.le_trans hE0.size hx)) g hx) (fun hx => Nat.le_trans hE5.size hx)) g hg))) c hx hlt)
      have hR67 := (((((((((hR29.extN hS31).extN hS40).extN hS42).extN hS44).extN hS45).extN hS47).extN hS49).extN hS51).extN hS60)
      have hR68 := (hR67.ext hS65 (fun g hg hx => (fun g hg hx => (fun g hg hy => (ho27_u3 g hg).elim (fun hz => (fun g hg hy => (ho4_u3 g hg).elim (fun hz => (fun g hg _ => nilS hg) g hz hy) (fun hz => absurd (hR2.lt _ hy) (Nat.not_lt.2 hz))) g hz hy) (fun hz => absurd (hR6.lt _ hy) (Nat.not_lt.2 hz))) g hx hg) g hg hx))
      have hR69 := (hO60.ext hS65 (fun g hg hx => (fun g hg hx => absurd (hR63.lt _ hx) (Nat.not_lt.2 (hg60 g hg))) g hg hx))
      have hf65 : ∀ g, ob v65 = some g → w0.heap.size ≤ g := fun g hg => by rcases hob65 with hq | hq <;> rw [hq] at hg; exact (fun g hg => (ho27_u3 g hg).elim (fun hx => (fun g hg => (ho4_u3 g hg).elim (fun hx => (fun g hg => nilS hg) g hx) (fun hx => Nat.le_trans hE0.size hx)) g hx) (fun hx => Nat.le_trans hE5.size hx)) g hg; cases hg; exact hE60.size
      have hs71 : ∀ g, ob v65 = some g → ¬ (ob v60 = some g) := fun g hg hx => by rcases hob65 with hq | hq <;> rw [hq] at hg; exact (fun g hg hx => (fun g hg hx => absurd (hR63.lt _ hx) (Nat.not_lt.2 (hg60 g hg))) g hx hg) g hg hx; cases hg; exact absurd (hO60.lt _ hx) (Nat.not_lt.2 (Nat.le_refl _))
      refine WO_pure v65 rfl l3 hM65 (fun _ => R_as rfl) rfl (gN rfl) rfl ?_
      refine WO_nil ?_
      refine WP_region ?_
      refine WL_pure (.int .i64 i27) (R_mv rfl) rfl rfl ?_
      refine WL_pure (.int .i64 (IntKind.i64.wrap (i27 + 1))) (R_add rfl rfl) rfl rfl ?_
      refine WL_pure (.int .i64 (IntKind.i64.wrap (i27 + 1))) (R_as rfl) rfl rfl ?_
      refine WL_nil ?_
      refine BackQ.mk ((w_27 ++ [(IntKind.u32.wrap ((IntKind.u32.wrap ((IntKind.u32.wrap ((ix w_27 (IntKind.i64.wrap (i27 - 16))) + (bxor .u32 (bxor .u32 (turnR (ix w_27 (IntKind.i64.wrap (i27 - 15))) 7) (turnR (ix w_27 (IntKind.i64.wrap (i27 - 15))) 18)) (IntKind.u32.wrap (Int.tdiv (ix w_27 (IntKind.i64.wrap (i27 - 15))) 8))))) + (ix w_27 (IntKind.i64.wrap (i27 - 7))))) + (bxor .u32 (bxor .u32 (turnR (ix w_27 (IntKind.i64.wrap (i27 - 2))) 17) (turnR (ix w_27 (IntKind.i64.wrap (i27 - 2))) 19)) (IntKind.u32.wrap (Int.tdiv (ix w_27 (IntKind.i64.wrap (i27 - 2))) 1024)))))]), (IntKind.i64.wrap (i27 + 1))) [(3, v65), (7, (.int .i64 (IntKind.i64.wrap (i27 + 1))))] ?_ ?_ ?_ ?_
      rotate_left
      · exact h.2
      · repeat (first | exact Off.lay0 rfl | refine Off.updO ?_ rfl _ | refine Off.updN ?_ _ | refine Off.lay ?_ rfl)
      · repeat (first | exact trivial | refine ⟨rfl, ?_⟩)
      exact ⟨K65, v65, h.1, rfl, ((((((((((((Ext.refl _ _ _).comp hX28 (fun c hx hlt => (hx))).andN hS31).andN hS40).andN hS42).andN hS44).andN hS45).andN hS47).andN hS49).andN hS51).andN hS60).comp hS65 (fun c hx hlt => ((((ho27_u3 c hx).elim (fun hz => (.inl hz)) (fun hz => .inr (Nat.le_trans (Nat.le_refl _) hz))) : ob u3_4 = some c ∨ w5.heap.size ≤ c).elim (fun hx => (hx)) (fun hz => absurd hlt (Nat.not_lt.2 hz))))), hM65, (wrap_wf _ _), hO65, (fun g hg => (by have hg : ob v65 = some g := hg; rcases hob65 with hq | hq <;> rw [hq] at hg; exact ((ho27_u3 g hg).elim (fun hz => (.inl hz)) (fun hz => .inr (Nat.le_trans (Nat.le_refl _) hz))); cases hg; exact .inr (Nat.le_trans hX28.size (Nat.le_trans hS31.size (Nat.le_trans hS40.size (Nat.le_trans hS42.size (Nat.le_trans hS44.size (Nat.le_trans hS45.size (Nat.le_trans hS47.size (Nat.le_trans hS49.size (Nat.le_trans hS51.size hS60.size)))))))))))⟩
    · have hd30 : ¬ (i27 < 64) := dec_f hc30
      have h := h.2 hd30
      refine WP_exit ?_
      refine WP_seq ?_
      refine WP_region ?_
      refine WL_pure u3_27 (R_mv rfl) rfl rfl ?_
      refine WL_pure u3_27 (R_as rfl) rfl rfl ?_
      refine WL_nil ?_
      refine WP_ret ?_
      exact endR_ret hR (v := u3_27) (resE_1 rfl rfl) ⟨K28, u3_27, w_27, rfl, h, hE28, hM28, hL27_u3, (fun g hg => (ho27_u3 g hg).elim (fun hx => (fun g hg => (ho4_u3 g hg).elim (fun hx => (fun g hg => nilS hg) g hx) (fun hx => Nat.le_trans hE0.size hx)) g hx) (fun hx => Nat.le_trans hE5.size hx))⟩
theorem schedule_c {w0 : World} {K0 : Ghost} {a0_b_v : Value} {a0_b : (List UInt8)} (hM0 : Models w0 K0) (h_a0_b : kd_l_u8.V K0 a0_b a0_b_v) (hp : a0_b.length = 64) : Calls Try.prog 97 #[a0_b_v] w0 (fun e w' => ∃ (K' : Ghost) (r0 : Value), e = .returned r0 ∧ Ext NX w0 K0 w' K' ∧ Models w' K' ∧ Own (Kd.int .u32) 123 w' K' (wordsN a0_b 64) r0 ∧ (∀ g, ob r0 = some g → w0.heap.size ≤ g)) := by
  refine (schedule_walk hM0 h_a0_b (schedule_ok h_a0_b.wf hp)).mono ?_
  rintro _ w' ⟨K', r0, o0, rfl, ho, hF⟩
  rw [ho] at hF
  exact ⟨K', r0, rfl, hF⟩
end Go.Proofs.Ytfbhiilolpamaaa
