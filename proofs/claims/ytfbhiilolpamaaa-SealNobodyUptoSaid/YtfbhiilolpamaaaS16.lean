/- Each function that stands here: what its call must answer for (_VC), that it does (_ok), the walk through its code (_walk), its contract (_c). -/
import Derived.Test.YtfbhiilolpamaaaS15
import Derived.Test.YtfbhiilolpamaaaChecked
import Derived.Test.YtfbhiilolpamaaaB21
import Derived.Test.YtfbhiilolpamaaaP8
set_option linter.unusedVariables false
set_option maxRecDepth 100000
set_option maxHeartbeats 2000000
namespace Go.Proofs.Ytfbhiilolpamaaa
open Go Go.RowKit Go.Inc
def RSum_VC (a0_parts : (List (List UInt8))) (Q : (List UInt8) → Prop) : Prop :=
  (a0_parts.flatten.length ≤ 70368744177664) ∧ ((kd_l_u8.wf a0_parts.flatten) → ((a0_parts.flatten.length ≤ 70368744177664) ∧ ((kd_l_u8.wf (msgOf a0_parts.flatten)) → (∃ (I15 : (List Int) → Int → Prop) (μ15 : (List Int) → Int → Nat), I15 [1779033703, 3144134277, 1013904242, 2773480762, 1359893119, 2600822924, 528734635, 1541459225] 0 ∧ ∀ (x15 : (List Int)) (i15 : Int), I15 x15 i15 → (kd_l_u32.wf x15) → ((Kd.int .i64).wf i15) → (((i15 < ((msgOf a0_parts.flatten).length : Int)) → (0 ≤ i15 ∧ i15 ≤ (IntKind.i64.wrap (i15 + 64)) ∧ (IntKind.i64.wrap (i15 + 64)) ≤ ((msgOf a0_parts.flatten).length : Int)) ∧ ((x15.length = 8 ∧ (((msgOf a0_parts.flatten).take (IntKind.i64.wrap (i15 + 64)).toNat).drop i15.toNat).length = 64) ∧ ((kd_l_u32.wf (takeW x15 (((msgOf a0_parts.flatten).take (IntKind.i64.wrap (i15 + 64)).toNat).drop i15.toNat))) → (I15 (takeW x15 (((msgOf a0_parts.flatten).take (IntKind.i64.wrap (i15 + 64)).toNat).drop i15.toNat)) (IntKind.i64.wrap (i15 + 64)) ∧ μ15 (takeW x15 (((msgOf a0_parts.flatten).take (IntKind.i64.wrap (i15 + 64)).toNat).drop i15.toNat)) (IntKind.i64.wrap (i15 + 64)) < μ15 x15 i15)))) ∧ ((¬ (i15 < ((msgOf a0_parts.flatten).length : Int))) → ∃ (I34 : Int → (List UInt8) → Prop) (μ34 : Int → (List UInt8) → Nat), I34 0 (List.replicate 32 0) ∧ ∀ (i34 : Int) (b34 : (List UInt8)), I34 i34 b34 → ((Kd.int .i64).wf i34) → (kd_a32_u8.wf b34) → (((i34 < 32) → (0 ≤ (IntKind.i64.wrap (Int.tdiv i34 4)) ∧ (IntKind.i64.wrap (Int.tdiv i34 4)) < (x15.length : Int)) ∧ (((0 : Int) ≤ (IntKind.i64.wrap (24 - (IntKind.i64.wrap ((Int.tmod i34 4) * 8)))) ∧ (IntKind.i64.wrap (24 - (IntKind.i64.wrap ((Int.tmod i34 4) * 8)))) ≤ (31 : Int)) ∧ (((Kd.int .u32).wf (2 ^ (IntKind.i64.wrap (24 - (IntKind.i64.wrap ((Int.tmod i34 4) * 8)))).toNat : Int)) → (((2 ^ (IntKind.i64.wrap (24 - (IntKind.i64.wrap ((Int.tmod i34 4) * 8)))).toNat : Int) ≠ 0) ∧ ((0 ≤ i34 ∧ i34 < 32) ∧ (I34 (IntKind.i64.wrap (i34 + 1)) (b34.set i34.toNat (toB (IntKind.u8.wrap (Int.tmod (IntKind.u32.wrap (Int.tdiv (ix x15 (IntKind.i64.wrap (Int.tdiv i34 4))) (2 ^ (IntKind.i64.wrap (24 - (IntKind.i64.wrap ((Int.tmod i34 4) * 8)))).toNat : Int))) 256)))) ∧ μ34 (IntKind.i64.wrap (i34 + 1)) (b34.set i34.toNat (toB (IntKind.u8.wrap (Int.tmod (IntKind.u32.wrap (Int.tdiv (ix x15 (IntKind.i64.wrap (Int.tdiv i34 4))) (2 ^ (IntKind.i64.wrap (24 - (IntKind.i64.wrap ((Int.tmod i34 4) * 8)))).toNat : Int))) 256)))) < μ34 i34 b34)))))) ∧ ((¬ (i34 < 32)) → Q b34))))))))
theorem RSum_ok {a0_parts : (List (List UInt8))} (w_0 : kd_l_l_u8.wf a0_parts) (hp : a0_parts.flatten.length ≤ 70368744177664) : RSum_VC a0_parts (fun o0 => o0 = (sha256 a0_parts)) := by
  have w64 : ∀ a : Int, 0 ≤ a → a ≤ 140737488355328 → IntKind.i64.wrap a = a := fun a h1 h2 => wrap_id (wf64 (by omega) (by omega))
  unfold RSum_VC
  refine ⟨hp, fun _ => ⟨hp, fun _ => ?_⟩⟩
  rw [sha256_msg _ hp]
  have hml := msgOf_len a0_parts.flatten
  have hz : zerosN a0_parts.flatten.length < 64 ∧ (a0_parts.flatten.length + (1 + (zerosN a0_parts.flatten.length + 8))) % 64 = 0 := by unfold zerosN; omega
  generalize hM : msgOf a0_parts.flatten = M at *
  have hM64 : M.length % 64 = 0 := by omega
  have hMle : M.length ≤ 70368744177664 + 100 := by omega
  clear hml hz hM
  refine ⟨fun x i => ∃ k : Nat, i = ((64 * k : Nat) : Int) ∧ 64 * k ≤ M.length ∧ x = blkN shaH M k, fun _ i => M.length - i.toNat, ⟨0, rfl, by omega, rfl⟩, ?_⟩
  rintro x i ⟨k, rfl, hk, rfl⟩ _ _
  have hbl : (blkN shaH M k).length = 8 := by rw [blkN_len]; rfl
  refine ⟨fun hlt => ?_, fun hge => ?_⟩
  · rw [w64 _ (by omega) (by omega)]
    have e1 : (((64 * k : Nat) : Int) + 64).toNat = 64 * k + 64 := by omega
    rw [e1, Int.toNat_natCast]
    have hd : (M.take (64 * k + 64)).drop (64 * k) = (M.drop (64 * k)).take 64 := by rw [List.drop_take]; congr 1; omega
    rw [hd]
    refine ⟨by omega, ⟨hbl, by rw [List.length_take, List.length_drop]; omega⟩, fun _ => ⟨⟨k + 1, by omega, by omega, rfl⟩, ?_⟩⟩
    show M.length - (((64 * k : Nat) : Int) + 64).toNat < M.length - ((64 * k : Nat) : Int).toNat
    omega
  · have hk2 : M.length / 64 = k := by omega
    rw [hk2, sumN_out]
    generalize blkN shaH M k = X at *
    refine ⟨fun i b => ∃ n : Nat, i = (n : Int) ∧ n ≤ 32 ∧ b.length = 32 ∧ ∀ j : Nat, j < n → b[j]? = some (outB X j), fun i _ => 32 - i.toNat, ⟨0, rfl, by omega, by simp, fun j hj => by omega⟩, ?_⟩
    rintro i b ⟨n, rfl, hn, hb, hbj⟩ _ _
    refine ⟨fun hlt => ?_, fun hge => ?_⟩
    · have w64' : ∀ a : Int, -1000 ≤ a → a ≤ 1000 → IntKind.i64.wrap a = a := fun a h1 h2 => wrap_id (wf64 (by omega) (by omega))
      have d1 : Int.tdiv (n : Int) 4 = ((n / 4 : Nat) : Int) := (Int.ofNat_tdiv n 4).symm
      have d2 : Int.tmod (n : Int) 4 = ((n % 4 : Nat) : Int) := (Int.ofNat_tmod n 4).symm
      rw [d1, d2, w64' ((n / 4 : Nat) : Int) (by omega) (by omega), w64' (((n % 4 : Nat) : Int) * 8) (by omega) (by omega), w64' (24 - ((n % 4 : Nat) : Int) * 8) (by omega) (by omega), w64' ((n : Int) + 1) (by omega) (by omega)]
      have e3 : (24 - ((n % 4 : Nat) : Int) * 8).toNat = 24 - n % 4 * 8 := by omega
      rw [e3]
      have hpos := Nat.two_pow_pos (24 - n % 4 * 8)
      have e4 : (2 ^ (24 - n % 4 * 8) : Int) = ((2 ^ (24 - n % 4 * 8) : Nat) : Int) := by simp
      rw [e4]
      refine ⟨by omega, by omega, fun _ => ⟨by omega, by omega, ⟨n + 1, by omega, by omega, by rw [List.length_set]; exact hb, fun j hj => ?_⟩, by show 32 - ((n : Int) + 1).toNat < 32 - (n : Int).toNat; omega⟩⟩
      rw [List.getElem?_set, Int.toNat_natCast]
      by_cases h : n = j
      · subst h
        rw [if_pos rfl, if_pos (by omega)]
        congr 1
        unfold outB
        have hxw := wf32 (‹kd_l_u32.wf X›.2 _ (ix_mem (l := X) (i := ((n / 4 : Nat) : Int)) (by omega) (by omega)))
        obtain ⟨A, hA⟩ := Int.eq_ofNat_of_zero_le hxw.1
        rw [hA] at hxw ⊢
        have hle : A / 2 ^ (24 - n % 4 * 8) ≤ A := Nat.div_le_self _ _
        rw [← Int.ofNat_tdiv, Int.toNat_natCast]
        generalize A / 2 ^ (24 - n % 4 * 8) = D at *
        rw [wrap_nat32 (by omega), show (256 : Int) = ((256 : Nat) : Int) from rfl, ← Int.ofNat_tmod, wrap_id ⟨by show (0 : Int) ≤ _; omega, by show _ ≤ (255 : Int); omega⟩]
        unfold toB
        rw [Int.toNat_natCast]
        apply UInt8.toNat_inj.1
        simp
      · rw [if_neg h]
        exact hbj j (by omega)
    · have : n = 32 := by omega
      subst this
      apply List.ext_getElem?
      intro j
      by_cases hj : j < 32
      · rw [hbj j hj]
        simp [hj]
      · rw [List.getElem?_eq_none (by omega), List.getElem?_eq_none (by simp; omega)]

theorem RSum_walk {w0 : World} {K0 : Ghost} {a0_parts_v : Value} {a0_parts : (List (List UInt8))} {Q : (List UInt8) → Prop} (hM0 : Models w0 K0) (h_a0_parts : kd_l_l_u8.V K0 a0_parts a0_parts_v) (h : RSum_VC a0_parts Q) : Calls Try.prog 50 #[a0_parts_v] w0 (fun e w' => ∃ (K' : Ghost) (r0 : Value) (o0 : (List UInt8)), e = .returned r0 ∧ Q o0 ∧ Ext NX w0 K0 w' K' ∧ Models w' K' ∧ kd_a32_u8.V K' o0 r0) := by
  unfold RSum_VC at h
  have hE0 : Ext NX w0 K0 w0 K0 := Ext.refl _ _ _
  refine calls_gen fun R hR => ?_
  refine calls_env (args := [a0_parts_v]) Try.func50 rfl (Nat.le_of_ble_eq_true rfl) ?_
  refine WP_seq ?_
  refine WP_region ?_
  refine WL_eff rfl rfl (St_B (S_alloc hM0 ty23) ?_)
  rintro b2 w2 (hB2 : Bx kd_a32_u8 _ _ _ _ _ (List.replicate 32 0)) hS2 hM2 hge2
  have hE2 := hE0.andN hS2
  refine WL_nil ?_
  refine WP_seq ?_
  refine WP_region ?_
  refine WL_eff rfl rfl (St_S0 (S_bsl (k := (Kd.int .u32)) (l := [(1779033703, (.int .u32 1779033703)), (3144134277, (.int .u32 3144134277)), (1013904242, (.int .u32 1013904242)), (2773480762, (.int .u32 2773480762)), (1359893119, (.int .u32 1359893119)), (2600822924, (.int .u32 2600822924)), (528734635, (.int .u32 528734635)), (1541459225, (.int .u32 1541459225))]) hM2 rfl (by intro p hp; simp only [List.mem_cons, List.not_mem_nil, or_false] at hp; rcases hp with rfl | rfl | rfl | rfl | rfl | rfl | rfl | rfl; exact (int_V (show (Kd.int .u32).wf 1779033703 from by constructor <;> decide)); exact (int_V (show (Kd.int .u32).wf 3144134277 from by constructor <;> decide)); exact (int_V (show (Kd.int .u32).wf 1013904242 from by constructor <;> decide)); exact (int_V (show (Kd.int .u32).wf 2773480762 from by constructor <;> decide)); exact (int_V (show (Kd.int .u32).wf 1359893119 from by constructor <;> decide)); exact (int_V (show (Kd.int .u32).wf 2600822924 from by constructor <;> decide)); exact (int_V (show (Kd.int .u32).wf 528734635 from by constructor <;> decide)); exact (int_V (show (Kd.int .u32).wf 1541459225 from by constructor <;> decide))) rfl Try.underlying124 ty123 rfl rfl) ?_)
  rintro v4 w4 K4 (hO4 : Own (Kd.int .u32) 123 w4 K4 [1779033703, 3144134277, 1013904242, 2773480762, 1359893119, 2600822924, 528734635, 1541459225] v4) hS4 hM4 hg4
  have hE4 := hE2.andN hS4
  refine WL_pure v4 (R_as rfl) rfl rfl ?_
  refine WL_nil ?_
  refine WP_seq ?_
  refine WP_region ?_
  refine WL_pure a0_parts_v (R_mv rfl) rfl rfl ?_
  have hR6 := (hB2.extN hS4)
  obtain ⟨hp8, h⟩ := h
  refine WL_eff rfl rfl (St_call (R_call Try.call74 rfl) ((RAll_c hM4 (h_a0_parts.mono (hS2.le.trans hS4.le)) hp8).mono ?_))
  rintro _ w7 ⟨K7, v7_0, rfl, hS7, hM7, hO7_0, hg7_0⟩
  refine ⟨v7_0, rfl, ?_⟩
  have hE7 := hE4.andN hS7
  have h := h hO7_0.wf
  have hR10 := (hR6.extN hS7)
  have hR11 := (hO4.extN hS7)
  obtain ⟨hp13, h⟩ := h
  refine WL_eff rfl rfl (St_call (R_call Try.call73 rfl) ((Message_c hM7 hO7_0.V hp13).mono ?_))
  rintro _ w12 ⟨K12, v12_0, rfl, hS12, hM12, hO12_0, hg12_0⟩
  refine ⟨v12_0, rfl, ?_⟩
  have hE12 := hE7.andN hS12
  have h := h hO12_0.wf
  refine WL_pure v12_0 (R_as rfl) rfl rfl ?_
  refine WL_nil ?_
  refine WP_seq ?_
  refine WP_seq ?_
  refine WP_region ?_
  refine WL_pure (.int .i64 0) (R_as rfl) rfl rfl ?_
  refine WL_nil ?_
  refine WP_block ?_
  have hR17 := (hR11.extN hS12)
  obtain ⟨I15, μ15, h0, h⟩ := h
  refine WP_loopE (ι := (List Int) × Int) [3, 5, 12, 13, 14, 15, 16, 17, 18, 19, 20, 21, 22, 23, 24] (fun s l w => ∃ K u3, I15 s.1 s.2 ∧ l = [(3, u3), (5, (.int .i64 s.2))] ∧ Ext (fun c => ob v4 = some c) w12 K12 w K ∧ Models w K ∧ (Kd.int .i64).wf s.2 ∧ Own (Kd.int .u32) 123 w K s.1 u3 ∧ (∀ g, ob u3 = some g → ob v4 = some g ∨ w12.heap.size ≤ g)) (fun s => μ15 s.1 s.2) ([1779033703, 3144134277, 1013904242, 2773480762, 1359893119, 2600822924, 528734635, 1541459225], 0) [(3, v4), (5, (.int .i64 0))]
    ⟨K12, v4, h0, rfl, Ext.refl _ _ _, hM12, (show (Kd.int .i64).wf 0 from by constructor <;> decide), hR17, (fun g hg => (.inl hg))⟩ (by repeat (first | exact trivial | refine ⟨rfl, ?_⟩)) ?_
  rintro ⟨x15, i15⟩ l σ15 w16 ⟨K16, u3_15, hI, rfl, hX16, hM16, hw15_5, hL15_u3, ho15_u3⟩
  dsimp only at hI hw15_5 hL15_u3 ho15_u3
  have hE16 := hE12.comp hX16 (fun c hx hlt => (fun g hg hlt => absurd hlt (Nat.not_lt.2 ((fun g hg => Nat.le_trans hE2.size (hg4 g hg)) g hg))) c hx hlt)
  have h := h x15 i15 hI hL15_u3.wf hw15_5
  refine WP_seq ?_
  refine WP_seq ?_
  refine WP_region ?_
  refine WL_pure (.int .i64 i15) (R_mv rfl) rfl rfl ?_
  refine WL_pure v12_0 (R_mv rfl) rfl rfl ?_
  refine WL_pure (.int .i64 ((msgOf a0_parts.flatten).length : Int)) (R_len rfl (hO12_0.V.mono hX16.le) Try.underlying39) rfl rfl ?_
  refine WL_pure (.bool (decide (i15 < ((msgOf a0_parts.flatten).length : Int)))) (R_lss rfl rfl) rfl rfl ?_
  refine WL_nil ?_
  refine WP_cond (decide (i15 < ((msgOf a0_parts.flatten).length : Int))) rfl (fun hc18 => ?_) (fun hc18 => ?_)
  · have hd18 : i15 < ((msgOf a0_parts.flatten).length : Int) := dec_t hc18
    have h := h.1 hd18
    refine WP_skip ?_
    refine WP_seq ?_
    refine WP_block ?_
    refine WP_region ?_
    refine WL_pure u3_15 (R_mv rfl) rfl rfl ?_
    refine WL_pure v12_0 (R_mv rfl) rfl rfl ?_
    refine WL_pure (.int .i64 i15) (R_mv rfl) rfl rfl ?_
    refine WL_pure (.int .i64 i15) (R_mv rfl) rfl rfl ?_
    refine WL_pure (.int .i64 (IntKind.i64.wrap (i15 + 64))) (R_add rfl rfl) rfl rfl ?_
    obtain ⟨hp20, h⟩ := h
    refine WL_V (S_slLH rfl (hO12_0.V.mono hX16.le) Try.underlying39 ty5b rfl rfl hp20.1 hp20.2.1 hp20.2.2) rfl rfl ?_
    rintro v19 (hV19 : kd_l_u8.V _ (((msgOf a0_parts.flatten).take (IntKind.i64.wrap (i15 + 64)).toNat).drop i15.toNat) _)
    have hR22 := (hR10.extN hS12)
    have hR23 := (hR22.ext hX16 (fun hx => (hR17.box hR22) hx))
    have hR24 := (hO7_0.extN hS12)
    have hR25 := (hR24.ext hX16 (fun g hg hx => (Own.ne_type hR24 hR17 (by decide)) g hg hx))
    have hR26 := (hO12_0.ext hX16 (fun g hg hx => (Own.ne_type hO12_0 hR17 (by decide)) g hg hx))
    obtain ⟨hp28, h⟩ := h
    refine WL_eff rfl rfl (St_call (R_call Try.call75 rfl) ((Block_c hM16 hL15_u3.V hV19 hp28).mono ?_))
    rintro _ w27 ⟨K27, v27_0, rfl, hS27, hM27, hO27_0, hg27_0⟩
    refine ⟨v27_0, rfl, ?_⟩
    have hE27 := hE16.andN hS27
    have h := h hO27_0.wf
    refine WL_pure v27_0 (R_as rfl) rfl rfl ?_
    refine WL_nil ?_
    refine WP_region ?_
    refine WL_pure (.int .i64 i15) (R_mv rfl) rfl rfl ?_
    refine WL_pure (.int .i64 (IntKind.i64.wrap (i15 + 64))) (R_add rfl rfl) rfl rfl ?_
    refine WL_pure (.int .i64 (IntKind.i64.wrap (i15 + 64))) (R_as rfl) rfl rfl ?_
    refine WL_nil ?_
    refine BackQ.mk ((takeW x15 (((msgOf a0_parts.flatten).take (IntKind.i64.wrap (i15 + 64)).toNat).drop i15.toNat)), (IntKind.i64.wrap (i15 + 64))) [(3, v27_0), (5, (.int .i64 (IntKind.i64.wrap (i15 + 64))))] ?_ ?_ ?_ ?_
    rotate_left
    · exact h.2
    · repeat (first | exact Off.lay0 rfl | refine Off.updO ?_ rfl _ | refine Off.updN ?_ _ | refine Off.lay ?_ rfl)
    · repeat (first | exact trivial | refine ⟨rfl, ?_⟩)
    exact ⟨K27, v27_0, h.1, rfl, (((Ext.refl _ _ _).comp hX16 (fun c hx hlt => (hx))).andN hS27), hM27, (wrap_wf _ _), hO27_0, (fun g hg => .inr (Nat.le_trans hX16.size (hg27_0 g hg)))⟩
  · have hd18 : ¬ (i15 < ((msgOf a0_parts.flatten).length : Int)) := dec_f hc18
    have h := h.2 hd18
    refine WP_exit ?_
    refine WP_seq ?_
    refine WP_region ?_
    refine WL_eff rfl rfl (St_B (S_alloc hM16 ty23) ?_)
    rintro b30 w30 (hB30 : Bx kd_a32_u8 _ _ _ _ _ (List.replicate 32 0)) hS30 hM30 hge30
    have hE30 := hE16.andN hS30
    have hR32 := (hR10.extN hS12)
    have hR33 := (hR32.ext hX16 (fun hx => (hR17.box hR32) hx))
    refine WL_nil ?_
    refine WP_seq ?_
    refine WP_seq ?_
    refine WP_region ?_
    refine WL_pure (.int .i64 0) (R_as rfl) rfl rfl ?_
    refine WL_nil ?_
    refine WP_block ?_
    obtain ⟨I34, μ34, h0, h⟩ := h
    refine WP_loopE (ι := Int × (List UInt8)) [7, 25, 26, 27, 28, 29, 30, 31, 32, 33, 34, 35, 36, 37, 38, 39, 40, 41, 42, 43] (fun s l w => ∃ K, I34 s.1 s.2 ∧ l = [(7, (.int .i64 s.1))] ∧ Ext (fun c => c = b30) w30 K16 w K ∧ Models w K ∧ (Kd.int .i64).wf s.1 ∧ Bx kd_a32_u8 w K b30 [] [] s.2) (fun s => μ34 s.1 s.2) (0, (List.replicate 32 0)) [(7, (.int .i64 0))]
      ⟨K16, h0, rfl, Ext.refl _ _ _, hM30, (show (Kd.int .i64).wf 0 from by constructor <;> decide), hB30⟩ (by repeat (first | exact trivial | refine ⟨rfl, ?_⟩)) ?_
    rintro ⟨i34, b34⟩ l σ34 w35 ⟨K35, hI, rfl, hX35, hM35, hw34_7, hL34_31⟩
    dsimp only at hI hw34_7 hL34_31
    have hE35 := hE30.comp hX35 (fun c hx hlt => (by subst hx; exact (fun hlt => absurd hlt (Nat.not_lt.2 (Nat.le_trans hE16.size hge30))) hlt))
    have h := h i34 b34 hI hw34_7 hL34_31.wf
    refine WP_seq ?_
    refine WP_seq ?_
    refine WP_region ?_
    refine WL_pure (.int .i64 i34) (R_mv rfl) rfl rfl ?_
    refine WL_pure (.bool (decide (i34 < 32))) (R_lss rfl rfl) rfl rfl ?_
    refine WL_nil ?_
    refine WP_cond (decide (i34 < 32)) rfl (fun hc36 => ?_) (fun hc36 => ?_)
    · have hd36 : i34 < 32 := dec_t hc36
      have h := h.1 hd36
      refine WP_skip ?_
      refine WP_seq ?_
      refine WP_block ?_
      refine WP_ordD (K := K35) (fun c => c = b30 ∨ w35.heap.size ≤ c) [.o 0 2, .o 1 2, .o 2 2, .o 3 2, .o 4 2, .o 5 2, .o 6 2, .o 7 2, .o 8 2, .o 9 2, .o 10 0, .o 11 2, .o 12 2, .o 13 2, .o 14 2, .o 15 1] (by kernel_rfl) (by kernel_rfl) hM35 ?_
      rintro w37 hS37 hM37
      have hE37 := hE35.andN hS37
      refine WO_pure (.int .i64 i34) rfl l0 hM37 (fun _ => R_mv rfl) rfl (gN rfl) rfl ?_
      refine WO_pure u3_15 rfl l0 hM37 (fun _ => R_mv rfl) rfl (gN rfl) rfl ?_
      refine WO_pure (.int .i64 i34) rfl l0 hM37 (fun _ => R_mv rfl) rfl (gN rfl) rfl ?_
      refine WO_pure (.int .i64 (IntKind.i64.wrap (Int.tdiv i34 4))) rfl l0 hM37 (fun _ => R_quo rfl rfl (by decide)) rfl (gN rfl) rfl ?_
      obtain ⟨hp39, h⟩ := h
      refine WO_P rfl l0 hM37 (S_ixs rfl (hL15_u3.V.mono (hS30.le.trans (hX35.le.trans hS37.le))) rfl Try.underlying124 ty123 hp39.1 hp39.2) rfl (gN rfl) rfl ?_
      rintro b38 o38 hP38
      refine WO_L0 hM37 (S_ld rfl ty123 hP38) rfl (gN rfl) rfl ?_
      rintro v41 (hV41 : (Kd.int .u32).V _ (ix x15 (IntKind.i64.wrap (Int.tdiv i34 4))) _)
      obtain rfl := int_form hV41
      refine WO_pure (.int .i64 i34) rfl l0 hM37 (fun _ => R_mv rfl) rfl (gN rfl) rfl ?_
      refine WO_pure (.int .i64 (Int.tmod i34 4)) rfl l0 hM37 (fun _ => R_rem rfl rfl (by decide)) rfl (gN rfl) rfl ?_
      refine WO_pure (.int .i64 (IntKind.i64.wrap ((Int.tmod i34 4) * 8))) rfl l0 hM37 (fun _ => R_mul rfl rfl) rfl (gN rfl) rfl ?_
      refine WO_pure (.int .i64 (IntKind.i64.wrap (24 - (IntKind.i64.wrap ((Int.tmod i34 4) * 8))))) rfl l0 hM37 (fun _ => R_sub rfl rfl) rfl (gN rfl) rfl ?_
      obtain ⟨hp43, h⟩ := h
      refine WO_eff0 rfl (gN rfl) rfl (St_call (R_call Try.call76 rfl) ((power_c hM37 (int_V (wrap_wf _ _)) hp43).mono ?_))
      rintro _ w42 ⟨K42, v42_0, rfl, hS42, hM42, hV42_0⟩
      refine ⟨v42_0, rfl, ?_⟩
      refine ⟨K42, hS42, hM42, ?_⟩
      have hE42 := hE37.andN hS42
      obtain rfl := int_form hV42_0
      have h := h hV42_0.wf
      obtain ⟨hp44, h⟩ := h
      refine WO_pure (.int .u32 (IntKind.u32.wrap (Int.tdiv (ix x15 (IntKind.i64.wrap (Int.tdiv i34 4))) (2 ^ (IntKind.i64.wrap (24 - (IntKind.i64.wrap ((Int.tmod i34 4) * 8)))).toNat : Int)))) rfl l0 hM42 (fun _ => R_quo rfl rfl hp44) rfl (gN rfl) rfl ?_
      refine WO_pure (.int .u32 (Int.tmod (IntKind.u32.wrap (Int.tdiv (ix x15 (IntKind.i64.wrap (Int.tdiv i34 4))) (2 ^ (IntKind.i64.wrap (24 - (IntKind.i64.wrap ((Int.tmod i34 4) * 8)))).toNat : Int))) 256)) rfl l0 hM42 (fun _ => R_rem rfl rfl (by decide)) rfl (gN rfl) rfl ?_
      refine WO_pure (.int .u8 (IntKind.u8.wrap (Int.tmod (IntKind.u32.wrap (Int.tdiv (ix x15 (IntKind.i64.wrap (Int.tdiv i34 4))) (2 ^ (IntKind.i64.wrap (24 - (IntKind.i64.wrap ((Int.tmod i34 4) * 8)))).toNat : Int))) 256))) rfl l0 hM42 (fun _ => R_cvi rfl Try.underlying123 Try.underlying5) rfl (gN rfl) rfl ?_
      obtain ⟨hp45, h⟩ := h
      refine WO_pure (.pointer (some ⟨b30, 0 + i34.toNat * Kd.byte.sz, none⟩)) rfl l0 hM42 (fun _ => R_ixa rfl rfl Try.underlying23 ty5b hp45.1 hp45.2) rfl (gN rfl) rfl ?_
      have hR47 := ((hL34_31.extN hS37).extN hS42)
      refine WO_eff rfl (gN rfl) rfl (St_St (S_stB (Foc.arr 32 Kd.byte i34 hp45.1 hp45.2) hM42 rfl rfl (byte_V (wrap_wf _ _)) ty5b hR47 (by first | rfl | simp | omega)) ?_)
      rintro w46 (hB46 : Bx kd_a32_u8 _ _ b30 [] [] (b34.set i34.toNat (toB (IntKind.u8.wrap (Int.tmod (IntKind.u32.wrap (Int.tdiv (ix x15 (IntKind.i64.wrap (Int.tdiv i34 4))) (2 ^ (IntKind.i64.wrap (24 - (IntKind.i64.wrap ((Int.tmod i34 4) * 8)))).toNat : Int))) 256))))) hS46 hM46
      refine ⟨K42, (hS46.weak (fun c hlt hx => (.inl (hx)))), hM46, ?_⟩
      have hE46 := hE42.comp hS46 (fun c hx hlt => (by subst hx; exact (fun hlt => absurd hlt (Nat.not_lt.2 (Nat.le_trans hE16.size hge30))) hlt))
      refine WO_nil ?_
      refine WP_region ?_
      refine WL_pure (.int .i64 i34) (R_mv rfl) rfl rfl ?_
      refine WL_pure (.int .i64 (IntKind.i64.wrap (i34 + 1))) (R_add rfl rfl) rfl rfl ?_
      refine WL_pure (.int .i64 (IntKind.i64.wrap (i34 + 1))) (R_as rfl) rfl rfl ?_
      refine WL_nil ?_
      refine BackQ.mk ((IntKind.i64.wrap (i34 + 1)), (b34.set i34.toNat (toB (IntKind.u8.wrap (Int.tmod (IntKind.u32.wrap (Int.tdiv (ix x15 (IntKind.i64.wrap (Int.tdiv i34 4))) (2 ^ (IntKind.i64.wrap (24 - (IntKind.i64.wrap ((Int.tmod i34 4) * 8)))).toNat : Int))) 256))))) [(7, (.int .i64 (IntKind.i64.wrap (i34 + 1))))] ?_ ?_ ?_ ?_
      rotate_left
      · exact h.2
      · repeat (first | exact Off.lay0 rfl | refine Off.updO ?_ rfl _ | refine Off.updN ?_ _ | refine Off.lay ?_ rfl)
      · repeat (first | exact trivial | refine ⟨rfl, ?_⟩)
      exact ⟨K42, h.1, rfl, (((((Ext.refl _ _ _).comp hX35 (fun c hx hlt => (hx))).andN hS37).andN hS42).comp hS46 (fun c hx hlt => (hx))), hM46, (wrap_wf _ _), hB46⟩
    · have hd36 : ¬ (i34 < 32) := dec_f hc36
      have h := h.2 hd36
      refine WP_exit ?_
      refine WP_seq ?_
      refine WP_region ?_
      refine WL_L hM35 (S_ldB (Foc.id _) rfl ty23 hL34_31 (by first | rfl | simp | omega) (fun h => h)) rfl rfl ?_
      rintro v48 (hV48 : kd_a32_u8.V _ b34 _)
      have hR51 := (hR10.extN hS12)
      have hR52 := ((hR51.ext hX16 (fun hx => (hR17.box hR51) hx)).extN hS30)
      have hR53 := (hR52.ext hX35 (fun hx => (fun he => (ne_new hge30 hR33.lt) he.symm) hx))
      refine WL_eff rfl rfl (St_St (S_stB (Foc.id _) hM35 rfl rfl hV48 ty23 hR53 (by first | rfl | simp | omega)) ?_)
      rintro w50 (hB50 : Bx kd_a32_u8 _ _ b2 [] [] b34) hS50 hM50
      have hE50 := hE35.comp hS50 (fun c hx hlt => (by subst hx; exact (fun hlt => absurd hlt (Nat.not_lt.2 (Nat.le_trans hE0.size hge2))) hlt))
      refine WL_nil ?_
      refine WP_ret ?_
      refine endS_ret hR (resE_B rfl rfl ty23 hB50) ?_
      rintro v54 hV54
      exact ⟨K35, v54, b34, rfl, h, hE50, hM50, hV54⟩
theorem RSum_c {w0 : World} {K0 : Ghost} {a0_parts_v : Value} {a0_parts : (List (List UInt8))} (hM0 : Models w0 K0) (h_a0_parts : kd_l_l_u8.V K0 a0_parts a0_parts_v) (hp : a0_parts.flatten.length ≤ 70368744177664) : Calls Try.prog 50 #[a0_parts_v] w0 (fun e w' => ∃ (K' : Ghost) (r0 : Value), e = .returned r0 ∧ Ext NX w0 K0 w' K' ∧ Models w' K' ∧ kd_a32_u8.V K' (sha256 a0_parts) r0) := by
  refine (RSum_walk hM0 h_a0_parts (RSum_ok h_a0_parts.wf hp)).mono ?_
  rintro _ w' ⟨K', r0, o0, rfl, rfl, hF⟩
  exact ⟨K', r0, rfl, hF⟩
def RNumber_VC (a0_x : Int) (Q : (List UInt8) → Prop) : Prop :=
  ∃ (I3 : Int → (List UInt8) → Prop) (μ3 : Int → (List UInt8) → Nat), I3 a0_x ([] : List UInt8) ∧ ∀ (x3 : Int) (low3 : (List UInt8)), I3 x3 low3 → ((Kd.int .u64).wf x3) → (kd_l_u8.wf low3) → (((0 < x3) → ((low3.length + [(toB (IntKind.u8.wrap (Int.tmod x3 256)))].length) * 1 ≤ 140737488355328) ∧ (I3 (IntKind.u64.wrap (Int.tdiv x3 256)) (low3 ++ [(toB (IntKind.u8.wrap (Int.tmod x3 256)))]) ∧ μ3 (IntKind.u64.wrap (Int.tdiv x3 256)) (low3 ++ [(toB (IntKind.u8.wrap (Int.tmod x3 256)))]) < μ3 x3 low3)) ∧ ((¬ (0 < x3)) → ∃ (I19 : (List UInt8) → Int → Prop) (μ19 : (List UInt8) → Int → Nat), I19 [(toB (IntKind.u8.wrap (low3.length : Int)))] (low3.length : Int) ∧ ∀ (out19 : (List UInt8)) (i19 : Int), I19 out19 i19 → (kd_l_u8.wf out19) → ((Kd.int .i64).wf i19) → (((0 < i19) → (0 ≤ (IntKind.i64.wrap (i19 - 1)) ∧ (IntKind.i64.wrap (i19 - 1)) < (low3.length : Int)) ∧ (((out19.length + [(ix low3 (IntKind.i64.wrap (i19 - 1)))].length) * 1 ≤ 140737488355328) ∧ (I19 (out19 ++ [(ix low3 (IntKind.i64.wrap (i19 - 1)))]) (IntKind.i64.wrap (i19 - 1)) ∧ μ19 (out19 ++ [(ix low3 (IntKind.i64.wrap (i19 - 1)))]) (IntKind.i64.wrap (i19 - 1)) < μ19 out19 i19))) ∧ ((¬ (0 < i19)) → Q out19))))
theorem RNumber_ok {a0_x : Int} (w_0 : (Kd.int .u64).wf a0_x) : RNumber_VC a0_x (fun o0 => o0 = (numB a0_x.toNat)) := by
  obtain ⟨n, rfl⟩ := Int.eq_ofNat_of_zero_le w_0.1
  have hn : n < 18446744073709551616 := by have h : (n : Int) ≤ 18446744073709551615 := w_0.2; omega
  rw [Int.toNat_natCast]
  have w64 : ∀ a : Int, -1000 ≤ a → a ≤ 1000 → IntKind.i64.wrap a = a := fun a h1 h2 => wrap_id (wf64 (by omega) (by omega))
  unfold RNumber_VC
  refine ⟨fun x low => ∃ j : Nat, j ≤ 8 ∧ x = ((n / 2 ^ (8 * j) : Nat) : Int) ∧ low = (List.range j).map (fun i => UInt8.ofNat (n / 2 ^ (8 * i))) ∧ (j = 0 ∨ 0 < n / 2 ^ (8 * (j - 1))), fun x _ => x.toNat, ⟨0, by omega, by simp, rfl, .inl rfl⟩, ?_⟩
  rintro x low ⟨j, hj, rfl, rfl, hlow⟩ _ _
  have hdd : n / 2 ^ (8 * (j + 1)) = n / 2 ^ (8 * j) / 256 := by
    rw [Nat.div_div_eq_div_mul, show 8 * (j + 1) = 8 * j + 8 by omega, Nat.pow_add]
  refine ⟨fun hpos => ?_, fun hz => ?_⟩
  · have hj8 : j < 8 := by
      rcases Nat.lt_or_eq_of_le hj with h | h
      · exact h
      · subst h
        rw [Nat.div_eq_of_lt (by simpa using hn)] at hpos
        omega
    have hle : n / 2 ^ (8 * j) ≤ n := Nat.div_le_self _ _
    have e1 : IntKind.u64.wrap (Int.tdiv ((n / 2 ^ (8 * j) : Nat) : Int) 256) = ((n / 2 ^ (8 * (j + 1)) : Nat) : Int) := by
      rw [hdd]
      clear hdd hlow hpos
      generalize n / 2 ^ (8 * j) = A at *
      rw [show (256 : Int) = ((256 : Nat) : Int) from rfl, ← Int.ofNat_tdiv, wrap_id ⟨by show (0 : Int) ≤ _; omega, by show _ ≤ (18446744073709551615 : Int); omega⟩]
    have e2 : toB (IntKind.u8.wrap (Int.tmod ((n / 2 ^ (8 * j) : Nat) : Int) 256)) = UInt8.ofNat (n / 2 ^ (8 * j)) := by
      generalize n / 2 ^ (8 * j) = A
      rw [show (256 : Int) = ((256 : Nat) : Int) from rfl, ← Int.ofNat_tmod, wrap_id ⟨by show (0 : Int) ≤ _; omega, by show _ ≤ (255 : Int); omega⟩]
      unfold toB
      rw [Int.toNat_natCast]
      apply UInt8.toNat_inj.1
      simp
    rw [e1, e2]
    refine ⟨by simp; omega, ⟨j + 1, by omega, rfl, by rw [List.range_succ]; simp, .inr ?_⟩, ?_⟩
    · rw [show j + 1 - 1 = j by omega]
      clear hdd hlow e1 e2
      generalize n / 2 ^ (8 * j) = A at *
      omega
    · show ((n / 2 ^ (8 * (j + 1)) : Nat) : Int).toNat < ((n / 2 ^ (8 * j) : Nat) : Int).toNat
      rw [hdd]
      clear hdd hlow e1 e2
      generalize n / 2 ^ (8 * j) = A at *
      omega
  · have hz0 : n / 2 ^ (8 * j) = 0 := by
      revert hz
      generalize n / 2 ^ (8 * j) = A
      intro hz
      omega
    have hlt : n < 2 ^ (8 * j) := by
      rcases Nat.lt_or_ge n (2 ^ (8 * j)) with h | h
      · exact h
      · have := Nat.div_pos h (Nat.two_pow_pos (8 * j)); omega
    have hk : (blen n + 7) / 8 = j := by
      have h1 := blen_lt (8 * j) hlt
      rcases hlow with h | h
      · subst h; omega
      · have h2 : 2 ^ (8 * (j - 1)) ≤ n := by
          rcases Nat.lt_or_ge n (2 ^ (8 * (j - 1))) with hq | hq
          · rw [Nat.div_eq_of_lt hq] at h; omega
          · exact hq
        have h3 := Nat.lt_of_le_of_lt h2 (lt_blen n)
        have h4 : 8 * (j - 1) < blen n := (Nat.pow_lt_pow_iff_right (by omega)).1 h3
        rcases Nat.eq_zero_or_pos j with hj0 | hj0
        · subst hj0; omega
        · omega
    have hlen : ((List.range j).map (fun i => UInt8.ofNat (n / 2 ^ (8 * i)))).length = j := by simp
    have hix : ∀ i : Nat, i < j → ix ((List.range j).map (fun i => UInt8.ofNat (n / 2 ^ (8 * i)))) (i : Int) = UInt8.ofNat (n / 2 ^ (8 * i)) := fun i hi => by
      unfold ix
      simp [hi]
    have hn0 : numB n = toB (IntKind.u8.wrap (j : Int)) :: be n j := by
      unfold numB
      simp only [hk]
      congr 1
      rw [wrap_id ⟨by show (0 : Int) ≤ _; omega, by show _ ≤ (255 : Int); omega⟩]
      unfold toB
      rw [Int.toNat_natCast]
    rw [hlen, hn0]
    refine ⟨fun out i => ∃ m : Nat, i = (m : Int) ∧ m ≤ j ∧ out ++ be n m = toB (IntKind.u8.wrap (j : Int)) :: be n j, fun _ i => i.toNat, ⟨j, rfl, by omega, rfl⟩, ?_⟩
    rintro out i ⟨m, rfl, hm, hout⟩ _ _
    have hol := congrArg List.length hout
    simp only [List.length_append, List.length_cons, be_length] at hol
    refine ⟨fun hpos => ?_, fun h0 => ?_⟩
    · obtain ⟨m, rfl⟩ : ∃ m', m = m' + 1 := ⟨m - 1, by omega⟩
      have e : IntKind.i64.wrap (((m + 1 : Nat) : Int) - 1) = (m : Int) := by rw [w64 _ (by omega) (by omega)]; omega
      rw [e, hix m (by omega)]
      refine ⟨by omega, by simp only [List.length_cons, List.length_nil]; omega, ⟨m, rfl, by omega, ?_⟩, by show (m : Int).toNat < ((m + 1 : Nat) : Int).toNat; omega⟩
      rw [← hout]
      simp [be]
    · have : m = 0 := by omega
      subst this
      simpa [be] using hout

theorem RNumber_walk {w0 : World} {K0 : Ghost} {a0_x_v : Value} {a0_x : Int} {Q : (List UInt8) → Prop} (hM0 : Models w0 K0) (h_a0_x : (Kd.int .u64).V K0 a0_x a0_x_v) (h : RNumber_VC a0_x Q) : Calls Try.prog 86 #[a0_x_v] w0 (fun e w' => ∃ (K' : Ghost) (r0 : Value) (o0 : (List UInt8)), e = .returned r0 ∧ Q o0 ∧ Ext NX w0 K0 w' K' ∧ Models w' K' ∧ Own Kd.byte 5 w' K' o0 r0 ∧ (∀ g, ob r0 = some g → w0.heap.size ≤ g)) := by
  unfold RNumber_VC at h
  obtain rfl := int_form h_a0_x
  have hE0 : Ext NX w0 K0 w0 K0 := Ext.refl _ _ _
  refine calls_gen fun R hR => ?_
  refine calls_env (args := [(.int .u64 a0_x)]) Try.func86 rfl (Nat.le_of_ble_eq_true rfl) ?_
  refine WP_seq ?_
  refine WP_region ?_
  have hR1 : Own Kd.byte 5 w0 K0 ([] : List UInt8) (.slice none 0 0) := Own.nil
  refine WL_pure (.slice none 0 0) (R_as rfl) rfl rfl ?_
  refine WL_nil ?_
  refine WP_seq ?_
  refine WP_region ?_
  have hR2 : Own Kd.byte 5 w0 K0 ([] : List UInt8) (.slice none 0 0) := Own.nil
  refine WL_pure (.slice none 0 0) (R_as rfl) rfl rfl ?_
  refine WL_nil ?_
  refine WP_seq ?_
  refine WP_block ?_
  obtain ⟨I3, μ3, h0, h⟩ := h
  refine WP_loopE (ι := Int × (List UInt8)) [0, 3, 6, 7, 8, 9, 10, 11, 12, 13, 14, 15] (fun s l w => ∃ K u3, I3 s.1 s.2 ∧ l = [(0, (.int .u64 s.1)), (3, u3)] ∧ Ext (fun c => ob (.slice none 0 0) = some c) w0 K0 w K ∧ Models w K ∧ (Kd.int .u64).wf s.1 ∧ Own Kd.byte 5 w K s.2 u3 ∧ (∀ g, ob u3 = some g → ob (.slice none 0 0) = some g ∨ w0.heap.size ≤ g)) (fun s => μ3 s.1 s.2) (a0_x, ([] : List UInt8)) [(0, (.int .u64 a0_x)), (3, (.slice none 0 0))]
    ⟨K0, (.slice none 0 0), h0, rfl, Ext.refl _ _ _, hM0, (h_a0_x).wf, hR2, (fun g hg => .inr (nilS hg))⟩ (by repeat (first | exact trivial | refine ⟨rfl, ?_⟩)) ?_
  rintro ⟨x3, low3⟩ l σ3 w4 ⟨K4, u3_3, hI, rfl, hX4, hM4, hw3_0, hL3_u3, ho3_u3⟩
  dsimp only at hI hw3_0 hL3_u3 ho3_u3
  have hE4 := hE0.comp hX4 (fun c hx hlt => (fun g hg _ => nilS hg) c hx hlt)
  have hR5 := (hR1.ext hX4 (fun g hg hx => (fun g hg hx => (fun g hg _ => nilS hg) g hx hg) g hg hx))
  have h := h x3 low3 hI hw3_0 hL3_u3.wf
  refine WP_seq ?_
  refine WP_seq ?_
  refine WP_region ?_
  refine WL_pure (.int .u64 x3) (R_mv rfl) rfl rfl ?_
  refine WL_pure (.bool (decide (0 < x3))) (R_gtr rfl rfl) rfl rfl ?_
  refine WL_nil ?_
  refine WP_cond (decide (0 < x3)) rfl (fun hc6 => ?_) (fun hc6 => ?_)
  · have hd6 : 0 < x3 := dec_t hc6
    have h := h.1 hd6
    refine WP_skip ?_
    refine WP_block ?_
    refine WP_seq ?_
    refine WP_region ?_
    refine WL_pure u3_3 (R_mv rfl) rfl rfl ?_
    refine WL_pure (.int .u64 x3) (R_mv rfl) rfl rfl ?_
    refine WL_pure (.int .u64 (Int.tmod x3 256)) (R_rem rfl rfl (by decide)) rfl rfl ?_
    refine WL_pure (.int .u8 (IntKind.u8.wrap (Int.tmod x3 256))) (R_cvi rfl Try.underlying65 Try.underlying5) rfl rfl ?_
    refine WL_eff rfl rfl (St_S0 (S_bsl (k := Kd.byte) (l := [((toB (IntKind.u8.wrap (Int.tmod x3 256))), (.int .u8 (IntKind.u8.wrap (Int.tmod x3 256))))]) hM4 rfl (by intro p hp; simp only [List.mem_cons, List.not_mem_nil, or_false] at hp; subst hp; exact (byte_V (wrap_wf _ _))) rfl Try.underlying39 ty5b rfl rfl) ?_)
    rintro v7 w7 K7 (hO7 : Own Kd.byte 5 w7 K7 [(toB (IntKind.u8.wrap (Int.tmod x3 256)))] v7) hS7 hM7 hg7
    have hE7 := hE4.andN hS7
    have hR9 := (hL3_u3.extN hS7)
    obtain ⟨hp11, h⟩ := h
    refine WL_eff rfl rfl (St_S (S_app hM7 rfl hR9 rfl hO7.V Try.underlying39 ty5b rfl hp11) ?_)
    rintro v10 w10 K10 hO10 hS10 hM10 hob10
    have hE10 := hE7.comp hS10 (fun c hx hlt => (fun g hg hlt => absurd hlt (Nat.not_lt.2 ((fun g hg => (ho3_u3 g hg).elim (fun hx => (fun g hg => nilS hg) g hx) (fun hx => Nat.le_trans hE0.size hx)) g hg))) c hx hlt)
    have hR12 := (hR5.extN hS7)
    have hR13 := (hR12.ext hS10 (fun g hg hx => (fun g hg hx => (fun g hg hy => (ho3_u3 g hg).elim (fun hz => (fun g hg _ => nilS hg) g hz hy) (fun hz => absurd (hR1.lt _ hy) (Nat.not_lt.2 hz))) g hx hg) g hg hx))
    have hR14 := (hO7.ext hS10 (fun g hg hx => (fun g hg hx => absurd (hL3_u3.lt _ hx) (Nat.not_lt.2 (hg7 g hg))) g hg hx))
    have hf10 : ∀ g, ob v10 = some g → w0.heap.size ≤ g := fun g hg => by rcases hob10 with hq | hq <;> rw [hq] at hg; exact (fun g hg => (ho3_u3 g hg).elim (fun hx => (fun g hg => nilS hg) g hx) (fun hx => Nat.le_trans hE0.size hx)) g hg; cases hg; exact hE7.size
    have hs16 : ∀ g, ob v10 = some g → ¬ (ob v7 = some g) := fun g hg hx => by rcases hob10 with hq | hq <;> rw [hq] at hg; exact (fun g hg hx => (fun g hg hx => absurd (hL3_u3.lt _ hx) (Nat.not_lt.2 (hg7 g hg))) g hx hg) g hg hx; cases hg; exact absurd (hO7.lt _ hx) (Nat.not_lt.2 (Nat.le_refl _))
    refine WL_pure v10 (R_as rfl) rfl rfl ?_
    refine WL_nil ?_
    refine WP_region ?_
    refine WL_pure (.int .u64 x3) (R_mv rfl) rfl rfl ?_
    refine WL_pure (.int .u64 (IntKind.u64.wrap (Int.tdiv x3 256))) (R_quo rfl rfl (by decide)) rfl rfl ?_
    refine WL_pure (.int .u64 (IntKind.u64.wrap (Int.tdiv x3 256))) (R_as rfl) rfl rfl ?_
    refine WL_nil ?_
    refine BackQ.mk ((IntKind.u64.wrap (Int.tdiv x3 256)), (low3 ++ [(toB (IntKind.u8.wrap (Int.tmod x3 256)))])) [(0, (.int .u64 (IntKind.u64.wrap (Int.tdiv x3 256)))), (3, v10)] ?_ ?_ ?_ ?_
    rotate_left
    · exact h.2
    · repeat (first | exact Off.lay0 rfl | refine Off.updO ?_ rfl _ | refine Off.updN ?_ _ | refine Off.lay ?_ rfl)
    · repeat (first | exact trivial | refine ⟨rfl, ?_⟩)
    exact ⟨K10, v10, h.1, rfl, ((((Ext.refl _ _ _).comp hX4 (fun c hx hlt => (absurd hlt (Nat.not_lt.2 (nilS hx))))).andN hS7).comp hS10 (fun c hx hlt => (absurd hlt (Nat.not_lt.2 ((ho3_u3 c hx).elim (fun hz => (nilS hz)) (fun hz => (Nat.le_trans (Nat.le_refl _) hz))))))), hM10, (wrap_wf _ _), hO10, (fun g hg => .inr (by have hg : ob v10 = some g := hg; rcases hob10 with hq | hq <;> rw [hq] at hg; exact ((ho3_u3 g hg).elim (fun hz => (nilS hz)) (fun hz => (Nat.le_trans (Nat.le_refl _) hz))); cases hg; exact hE7.size))⟩
  · have hd6 : ¬ (0 < x3) := dec_f hc6
    have h := h.2 hd6
    refine WP_exit ?_
    refine WP_seq ?_
    refine WP_region ?_
    refine WL_pure u3_3 (R_mv rfl) rfl rfl ?_
    refine WL_pure (.int .i64 (low3.length : Int)) (R_len rfl hL3_u3.V Try.underlying39) rfl rfl ?_
    refine WL_pure (.int .u8 (IntKind.u8.wrap (low3.length : Int))) (R_cvi rfl Try.underlying3 Try.underlying5) rfl rfl ?_
    refine WL_eff rfl rfl (St_S0 (S_bsl (k := Kd.byte) (l := [((toB (IntKind.u8.wrap (low3.length : Int))), (.int .u8 (IntKind.u8.wrap (low3.length : Int))))]) hM4 rfl (by intro p hp; simp only [List.mem_cons, List.not_mem_nil, or_false] at hp; subst hp; exact (byte_V (wrap_wf _ _))) rfl Try.underlying39 ty5b rfl rfl) ?_)
    rintro v17 w17 K17 (hO17 : Own Kd.byte 5 w17 K17 [(toB (IntKind.u8.wrap (low3.length : Int)))] v17) hS17 hM17 hg17
    have hE17 := hE4.andN hS17
    refine WL_pure v17 (R_as rfl) rfl rfl ?_
    refine WL_nil ?_
    refine WP_seq ?_
    refine WP_seq ?_
    refine WP_region ?_
    refine WL_pure u3_3 (R_mv rfl) rfl rfl ?_
    refine WL_pure (.int .i64 (low3.length : Int)) (R_len rfl (hL3_u3.V.mono hS17.le) Try.underlying39) rfl rfl ?_
    refine WL_pure (.int .i64 (low3.length : Int)) (R_as rfl) rfl rfl ?_
    refine WL_nil ?_
    refine WP_block ?_
    obtain ⟨I19, μ19, h0, h⟩ := h
    refine WP_loopE (ι := (List UInt8) × Int) [4, 5, 22, 23, 24, 25, 26, 27, 28, 29, 30, 31, 32, 33] (fun s l w => ∃ K u4, I19 s.1 s.2 ∧ l = [(4, u4), (5, (.int .i64 s.2))] ∧ Ext (fun c => ob v17 = some c) w17 K17 w K ∧ Models w K ∧ (Kd.int .i64).wf s.2 ∧ Own Kd.byte 5 w K s.1 u4 ∧ (∀ g, ob u4 = some g → ob v17 = some g ∨ w17.heap.size ≤ g)) (fun s => μ19 s.1 s.2) ([(toB (IntKind.u8.wrap (low3.length : Int)))], (low3.length : Int)) [(4, v17), (5, (.int .i64 (low3.length : Int)))]
      ⟨K17, v17, h0, rfl, Ext.refl _ _ _, hM17, (len_wf ((hL3_u3).V).wf.1), hO17, (fun g hg => (.inl hg))⟩ (by repeat (first | exact trivial | refine ⟨rfl, ?_⟩)) ?_
    rintro ⟨out19, i19⟩ l σ19 w20 ⟨K20, u4_19, hI, rfl, hX20, hM20, hw19_5, hL19_u4, ho19_u4⟩
    dsimp only at hI hw19_5 hL19_u4 ho19_u4
    have hE20 := hE17.comp hX20 (fun c hx hlt => (fun g hg hlt => absurd hlt (Nat.not_lt.2 ((fun g hg => Nat.le_trans hE4.size (hg17 g hg)) g hg))) c hx hlt)
    have hR21 := (hR5.extN hS17)
    have hR22 := (hR21.ext hX20 (fun g hg hx => (fun g hg hx => (fun g hg hx => absurd (hR5.lt _ hx) (Nat.not_lt.2 (hg17 g hg))) g hx hg) g hg hx))
    have hR23 := (hL3_u3.extN hS17)
    have hR24 := (hR23.ext hX20 (fun g hg hx => (fun g hg hx => (fun g hg hx => absurd (hL3_u3.lt _ hx) (Nat.not_lt.2 (hg17 g hg))) g hx hg) g hg hx))
    have hR25 := (hR5.extN hS17)
    have hR26 := (hL3_u3.extN hS17)
    have h := h out19 i19 hI hL19_u4.wf hw19_5
    refine WP_seq ?_
    refine WP_seq ?_
    refine WP_region ?_
    refine WL_pure (.int .i64 i19) (R_mv rfl) rfl rfl ?_
    refine WL_pure (.bool (decide (0 < i19))) (R_gtr rfl rfl) rfl rfl ?_
    refine WL_nil ?_
    refine WP_cond (decide (0 < i19)) rfl (fun hc27 => ?_) (fun hc27 => ?_)
    · have hd27 : 0 < i19 := dec_t hc27
      have h := h.1 hd27
      refine WP_skip ?_
      refine WP_seq ?_
      refine WP_block ?_
      refine WP_region ?_
      refine WL_pure u4_19 (R_mv rfl) rfl rfl ?_
      refine WL_pure u3_3 (R_mv rfl) rfl rfl ?_
      refine WL_pure (.int .i64 i19) (R_mv rfl) rfl rfl ?_
      refine WL_pure (.int .i64 (IntKind.i64.wrap (i19 - 1))) (R_sub rfl rfl) rfl rfl ?_
      obtain ⟨hp29, h⟩ := h
      refine WL_P (S_ixs rfl hR24.V rfl Try.underlying39 ty5b hp29.1 hp29.2) rfl rfl ?_
      rintro b28 o28 hP28
      refine WL_L hM20 (S_ld rfl ty5b hP28) rfl rfl ?_
      rintro v31 (hV31 : Kd.byte.V _ (ix low3 (IntKind.i64.wrap (i19 - 1))) _)
      obtain rfl := byte_form hV31
      refine WL_eff rfl rfl (St_S0 (S_bsl (k := Kd.byte) (l := [((ix low3 (IntKind.i64.wrap (i19 - 1))), (.int .u8 (bI (ix low3 (IntKind.i64.wrap (i19 - 1))))))]) hM20 rfl (by intro p hp; simp only [List.mem_cons, List.not_mem_nil, or_false] at hp; subst hp; exact bI_V) rfl Try.underlying39 ty5b rfl rfl) ?_)
      rintro v32 w32 K32 (hO32 : Own Kd.byte 5 w32 K32 [(ix low3 (IntKind.i64.wrap (i19 - 1)))] v32) hS32 hM32 hg32
      have hE32 := hE20.andN hS32
      have hR34 := (hL19_u4.extN hS32)
      obtain ⟨hp36, h⟩ := h
      refine WL_eff rfl rfl (St_S (S_app hM32 rfl hR34 rfl hO32.V Try.underlying39 ty5b rfl hp36) ?_)
      rintro v35 w35 K35 hO35 hS35 hM35 hob35
      have hE35 := hE32.comp hS35 (fun c hx hlt => (fun g hg hlt => absurd hlt (Nat.not_lt.2 ((fun g hg => (ho19_u4 g hg).elim (fun hx => (fun g hg => Nat.le_trans hE4.size (hg17 g hg)) g hx) (fun hx => Nat.le_trans hE17.size hx)) g hg))) c hx hlt)
      have hR37 := (hR22.extN hS32)
      have hR38 := (hR37.ext hS35 (fun g hg hx => (fun g hg hx => (fun g hg hy => (ho19_u4 g hg).elim (fun hz => (fun g hg hx => absurd (hR5.lt _ hx) (Nat.not_lt.2 (hg17 g hg))) g hz hy) (fun hz => absurd (hR25.lt _ hy) (Nat.not_lt.2 hz))) g hx hg) g hg hx))
      have hR39 := (hR24.extN hS32)
      have hR40 := (hR39.ext hS35 (fun g hg hx => (fun g hg hx => (fun g hg hy => (ho19_u4 g hg).elim (fun hz => (fun g hg hx => absurd (hL3_u3.lt _ hx) (Nat.not_lt.2 (hg17 g hg))) g hz hy) (fun hz => absurd (hR26.lt _ hy) (Nat.not_lt.2 hz))) g hx hg) g hg hx))
      have hR41 := (hO32.ext hS35 (fun g hg hx => (fun g hg hx => absurd (hL19_u4.lt _ hx) (Nat.not_lt.2 (hg32 g hg))) g hg hx))
      have hf35 : ∀ g, ob v35 = some g → w0.heap.size ≤ g := fun g hg => by rcases hob35 with hq | hq <;> rw [hq] at hg; exact (fun g hg => (ho19_u4 g hg).elim (fun hx => (fun g hg => Nat.le_trans hE4.size (hg17 g hg)) g hx) (fun hx => Nat.le_trans hE17.size hx)) g hg; cases hg; exact hE32.size
      have hR43 := (hR24.extN hS32)
      have hs44 : ∀ g, ob v35 = some g → ¬ (ob u3_3 = some g) := fun g hg hx => by rcases hob35 with hq | hq <;> rw [hq] at hg; exact (fun g hg hy => (ho19_u4 g hg).elim (fun hz => (fun g hg hx => absurd (hL3_u3.lt _ hx) (Nat.not_lt.2 (hg17 g hg))) g hz hy) (fun hz => absurd (hR26.lt _ hy) (Nat.not_lt.2 hz))) g hg hx; cases hg; exact absurd (hR43.lt _ hx) (Nat.not_lt.2 (Nat.le_refl _))
      have hs45 : ∀ g, ob v35 = some g → ¬ (ob v32 = some g) := fun g hg hx => by rcases hob35 with hq | hq <;> rw [hq] at hg; exact (fun g hg hx => (fun g hg hx => absurd (hL19_u4.lt _ hx) (Nat.not_lt.2 (hg32 g hg))) g hx hg) g hg hx; cases hg; exact absurd (hO32.lt _ hx) (Nat.not_lt.2 (Nat.le_refl _))
      refine WL_pure v35 (R_as rfl) rfl rfl ?_
      refine WL_nil ?_
      refine WP_region ?_
      refine WL_pure (.int .i64 i19) (R_mv rfl) rfl rfl ?_
      refine WL_pure (.int .i64 (IntKind.i64.wrap (i19 - 1))) (R_sub rfl rfl) rfl rfl ?_
      refine WL_pure (.int .i64 (IntKind.i64.wrap (i19 - 1))) (R_as rfl) rfl rfl ?_
      refine WL_nil ?_
      refine BackQ.mk ((out19 ++ [(ix low3 (IntKind.i64.wrap (i19 - 1)))]), (IntKind.i64.wrap (i19 - 1))) [(4, v35), (5, (.int .i64 (IntKind.i64.wrap (i19 - 1))))] ?_ ?_ ?_ ?_
      rotate_left
      · exact h.2
      · repeat (first | exact Off.lay0 rfl | refine Off.updO ?_ rfl _ | refine Off.updN ?_ _ | refine Off.lay ?_ rfl)
      · repeat (first | exact trivial | refine ⟨rfl, ?_⟩)
      exact ⟨K35, v35, h.1, rfl, ((((Ext.refl _ _ _).comp hX20 (fun c hx hlt => (hx))).andN hS32).comp hS35 (fun c hx hlt => ((((ho19_u4 c hx).elim (fun hz => (.inl hz)) (fun hz => .inr (Nat.le_trans (Nat.le_refl _) hz))) : ob v17 = some c ∨ w17.heap.size ≤ c).elim (fun hx => (hx)) (fun hz => absurd hlt (Nat.not_lt.2 hz))))), hM35, (wrap_wf _ _), hO35, (fun g hg => (by have hg : ob v35 = some g := hg; rcases hob35 with hq | hq <;> rw [hq] at hg; exact ((ho19_u4 g hg).elim (fun hz => (.inl hz)) (fun hz => .inr (Nat.le_trans (Nat.le_refl _) hz))); cases hg; exact .inr (Nat.le_trans hX20.size hS32.size)))⟩
    · have hd27 : ¬ (0 < i19) := dec_f hc27
      have h := h.2 hd27
      refine WP_exit ?_
      refine WP_seq ?_
      refine WP_region ?_
      refine WL_pure u4_19 (R_mv rfl) rfl rfl ?_
      refine WL_pure u4_19 (R_as rfl) rfl rfl ?_
      refine WL_nil ?_
      refine WP_ret ?_
      exact endR_ret hR (v := u4_19) (resE_1 rfl rfl) ⟨K20, u4_19, out19, rfl, h, hE20, hM20, hL19_u4, (fun g hg => (ho19_u4 g hg).elim (fun hx => (fun g hg => Nat.le_trans hE4.size (hg17 g hg)) g hx) (fun hx => Nat.le_trans hE17.size hx))⟩
theorem RNumber_c {w0 : World} {K0 : Ghost} {a0_x_v : Value} {a0_x : Int} (hM0 : Models w0 K0) (h_a0_x : (Kd.int .u64).V K0 a0_x a0_x_v) : Calls Try.prog 86 #[a0_x_v] w0 (fun e w' => ∃ (K' : Ghost) (r0 : Value), e = .returned r0 ∧ Ext NX w0 K0 w' K' ∧ Models w' K' ∧ Own Kd.byte 5 w' K' (numB a0_x.toNat) r0 ∧ (∀ g, ob r0 = some g → w0.heap.size ≤ g)) := by
  refine (RNumber_walk hM0 h_a0_x (RNumber_ok h_a0_x.wf)).mono ?_
  rintro _ w' ⟨K', r0, o0, rfl, rfl, hF⟩
  exact ⟨K', r0, rfl, hF⟩
def RBlobs_VC (a0_b : (List UInt8)) (a1_l : (List (List UInt8))) (Q : (List UInt8) → Prop) : Prop :=
  ((([] : List UInt8).length + a0_b.length) * 1 ≤ 140737488355328) ∧ (∃ (I11 : (List UInt8) → Int → Prop) (μ11 : (List UInt8) → Int → Nat), I11 a0_b 0 ∧ ∀ (out11 : (List UInt8)) (i11 : Int), I11 out11 i11 → (kd_l_u8.wf out11) → ((Kd.int .i64).wf i11) → (((i11 < (a1_l.length : Int)) → (0 ≤ i11 ∧ i11 < (a1_l.length : Int)) ∧ ((kd_l_u8.wf (numB (IntKind.u64.wrap ((ix a1_l i11).length : Int)).toNat)) → (((out11.length + (numB (IntKind.u64.wrap ((ix a1_l i11).length : Int)).toNat).length) * 1 ≤ 140737488355328) ∧ ((0 ≤ i11 ∧ i11 < (a1_l.length : Int)) ∧ ((((out11 ++ (numB (IntKind.u64.wrap ((ix a1_l i11).length : Int)).toNat)).length + (ix a1_l i11).length) * 1 ≤ 140737488355328) ∧ (I11 ((out11 ++ (numB (IntKind.u64.wrap ((ix a1_l i11).length : Int)).toNat)) ++ (ix a1_l i11)) (i11 + 1) ∧ μ11 ((out11 ++ (numB (IntKind.u64.wrap ((ix a1_l i11).length : Int)).toNat)) ++ (ix a1_l i11)) (i11 + 1) < μ11 out11 i11)))))) ∧ ((¬ (i11 < (a1_l.length : Int))) → Q out11)))
theorem RBlobs_ok {a0_b : (List UInt8)} {a1_l : (List (List UInt8))} (w_0 : kd_l_u8.wf a0_b) (w_1 : kd_l_l_u8.wf a1_l) (hp : a0_b.length + blobRoom a1_l ≤ 140737488355328) : RBlobs_VC a0_b a1_l (fun o0 => o0 = (a0_b ++ blobAll a1_l)) := by
  have hw : ∀ x ∈ a1_l, x.length ≤ LM := fun x hx => (w_1.2 x hx).1
  unfold RBlobs_VC
  refine ⟨by simp only [List.length_nil]; omega, fun out i => ∃ j : Nat, i = (j : Int) ∧ j ≤ a1_l.length ∧ out = a0_b ++ blobAll (a1_l.take j), fun _ i => a1_l.length - i.toNat, ⟨0, rfl, by omega, by simp [blobAll]⟩, ?_⟩
  rintro out i ⟨j, rfl, hj, rfl⟩ _ _
  refine ⟨fun hlt => ?_, fun hge => ?_⟩
  · have h1 := blobAll_length (a1_l.take j) (fun y hy => by have := hw y (List.mem_of_mem_take hy); unfold LM at this; omega)
    have h2 := blobRoom_step hlt
    have h3 := hw _ (ix_mem (by omega) hlt)
    have h4 : IntKind.u64.wrap ((ix a1_l (j : Int)).length : Int) = ((ix a1_l (j : Int)).length : Int) := wrap_id ⟨by show (0 : Int) ≤ _; omega, by unfold LM at h3; show _ ≤ (18446744073709551615 : Int); omega⟩
    have h5 := numB_length (n := (ix a1_l (j : Int)).length) (by unfold LM at h3; omega)
    rw [h4, Int.toNat_natCast]
    refine ⟨⟨by omega, hlt⟩, fun _ => ⟨?_, ⟨by omega, hlt⟩, ?_, ⟨j + 1, by omega, by omega, ?_⟩, ?_⟩⟩
    · simp only [List.length_append]; omega
    · simp only [List.length_append]; omega
    · rw [take_step hlt]
      simp [blobAll]
    · show a1_l.length - ((j : Int) + 1).toNat < a1_l.length - (j : Int).toNat
      omega
  · have : j = a1_l.length := by omega
    subst this
    rw [List.take_length]

theorem RBlobs_walk {w0 : World} {K0 : Ghost} {a0_b_v : Value} {a0_b : (List UInt8)} {a1_l_v : Value} {a1_l : (List (List UInt8))} {Q : (List UInt8) → Prop} (hM0 : Models w0 K0) (h_a0_b : kd_l_u8.V K0 a0_b a0_b_v) (h_a1_l : kd_l_l_u8.V K0 a1_l a1_l_v) (h : RBlobs_VC a0_b a1_l Q) : Calls Try.prog 68 #[a0_b_v, a1_l_v] w0 (fun e w' => ∃ (K' : Ghost) (r0 : Value) (o0 : (List UInt8)), e = .returned r0 ∧ Q o0 ∧ Ext NX w0 K0 w' K' ∧ Models w' K' ∧ Own Kd.byte 5 w' K' o0 r0 ∧ (∀ g, ob r0 = some g → w0.heap.size ≤ g)) := by
  unfold RBlobs_VC at h
  have hE0 : Ext NX w0 K0 w0 K0 := Ext.refl _ _ _
  refine calls_gen fun R hR => ?_
  refine calls_env (args := [a0_b_v, a1_l_v]) Try.func68 rfl (Nat.le_of_ble_eq_true rfl) ?_
  refine WP_seq ?_
  refine WP_region ?_
  have hR3 : Own Kd.byte 5 w0 K0 ([] : List UInt8) (.slice none 0 0) := Own.nil
  refine WL_pure (.slice none 0 0) (R_as rfl) rfl rfl ?_
  refine WL_nil ?_
  refine WP_seq ?_
  refine WP_region ?_
  refine WL_eff rfl rfl (St_S0 (S_bsl (k := Kd.byte) (l := []) hM0 rfl (by intro p hp; cases hp) rfl Try.underlying39 ty5b rfl rfl) ?_)
  rintro v4 w4 K4 (hO4 : Own Kd.byte 5 w4 K4 ([] : List UInt8) v4) hS4 hM4 hg4
  have hE4 := hE0.andN hS4
  refine WL_pure a0_b_v (R_mv rfl) rfl rfl ?_
  obtain ⟨hp7, h⟩ := h
  refine WL_eff rfl rfl (St_S (S_app hM4 rfl hO4 rfl (h_a0_b.mono hS4.le) Try.underlying39 ty5b rfl hp7) ?_)
  rintro v6 w6 K6 hO6 hS6 hM6 hob6
  have hE6 := hE4.comp hS6 (fun c hx hlt => (fun g hg hlt => absurd hlt (Nat.not_lt.2 ((fun g hg => Nat.le_trans hE0.size (hg4 g hg)) g hg))) c hx hlt)
  have hR8 := (hR3.extN hS4)
  have hR9 := (hR8.ext hS6 (fun g hg hx => (fun g hg hx => (fun g hg hx => absurd (hR3.lt _ hx) (Nat.not_lt.2 (hg4 g hg))) g hx hg) g hg hx))
  rw [List.nil_append] at hO6
  have hf6 : ∀ g, ob v6 = some g → w0.heap.size ≤ g := fun g hg => by rcases hob6 with hq | hq <;> rw [hq] at hg; exact (fun g hg => Nat.le_trans hE0.size (hg4 g hg)) g hg; cases hg; exact hE4.size
  refine WL_pure v6 (R_as rfl) rfl rfl ?_
  refine WL_nil ?_
  refine WP_seq ?_
  refine WP_seq ?_
  refine WP_region ?_
  refine WL_pure (.int .i64 0) (R_as rfl) rfl rfl ?_
  refine WL_nil ?_
  refine WP_block ?_
  obtain ⟨I11, μ11, h0, h⟩ := h
  refine WP_loopE (ι := (List UInt8) × Int) [5, 6, 10, 11, 12, 13, 14, 15, 16, 17, 18, 19, 20, 21, 22, 23, 24, 25, 26, 27, 28, 29, 30] (fun s l w => ∃ K u5, I11 s.1 s.2 ∧ l = [(5, u5), (6, (.int .i64 s.2))] ∧ Ext (fun c => ob v6 = some c) w6 K6 w K ∧ Models w K ∧ (Kd.int .i64).wf s.2 ∧ Own Kd.byte 5 w K s.1 u5 ∧ (∀ g, ob u5 = some g → ob v6 = some g ∨ w6.heap.size ≤ g)) (fun s => μ11 s.1 s.2) (a0_b, 0) [(5, v6), (6, (.int .i64 0))]
    ⟨K6, v6, h0, rfl, Ext.refl _ _ _, hM6, (show (Kd.int .i64).wf 0 from by constructor <;> decide), hO6, (fun g hg => (.inl hg))⟩ (by repeat (first | exact trivial | refine ⟨rfl, ?_⟩)) ?_
  rintro ⟨out11, i11⟩ l σ11 w12 ⟨K12, u5_11, hI, rfl, hX12, hM12, hw11_6, hL11_u5, ho11_u5⟩
  dsimp only at hI hw11_6 hL11_u5 ho11_u5
  have hE12 := hE6.comp hX12 (fun c hx hlt => (fun g hg hlt => absurd hlt (Nat.not_lt.2 (hf6 g hg))) c hx hlt)
  have hR13 := (hR9.ext hX12 (fun g hg hx => (fun g hg hx => (fun g _ hx => nilS hx) g hx hg) g hg hx))
  have h := h out11 i11 hI hL11_u5.wf hw11_6
  refine WP_seq ?_
  refine WP_seq ?_
  refine WP_region ?_
  refine WL_pure (.int .i64 i11) (R_mv rfl) rfl rfl ?_
  refine WL_pure a1_l_v (R_mv rfl) rfl rfl ?_
  refine WL_pure (.int .i64 (a1_l.length : Int)) (R_len rfl (h_a1_l.mono (hS4.le.trans (hS6.le.trans hX12.le))) Try.underlying38) rfl rfl ?_
  refine WL_pure (.bool (decide (i11 < (a1_l.length : Int)))) (R_lss rfl rfl) rfl rfl ?_
  refine WL_nil ?_
  refine WP_cond (decide (i11 < (a1_l.length : Int))) rfl (fun hc14 => ?_) (fun hc14 => ?_)
  · have hd14 : i11 < (a1_l.length : Int) := dec_t hc14
    have h := h.1 hd14
    refine WP_skip ?_
    refine WP_seq ?_
    refine WP_block ?_
    refine WP_seq ?_
    refine WP_region ?_
    refine WL_pure u5_11 (R_mv rfl) rfl rfl ?_
    refine WL_pure a1_l_v (R_mv rfl) rfl rfl ?_
    refine WL_pure (.int .i64 i11) (R_mv rfl) rfl rfl ?_
    obtain ⟨hp16, h⟩ := h
    refine WL_P (S_ixs rfl (h_a1_l.mono (hS4.le.trans (hS6.le.trans hX12.le))) rfl Try.underlying38 ty39 hp16.1 hp16.2) rfl rfl ?_
    rintro b15 o15 hP15
    refine WL_L hM12 (S_ld rfl ty39 hP15) rfl rfl ?_
    rintro v18 (hV18 : kd_l_u8.V _ (ix a1_l i11) _)
    refine WL_pure (.int .i64 ((ix a1_l i11).length : Int)) (R_len rfl hV18 Try.underlying39) rfl rfl ?_
    refine WL_pure (.int .u64 (IntKind.u64.wrap ((ix a1_l i11).length : Int))) (R_cvi rfl Try.underlying3 Try.underlying65) rfl rfl ?_
    refine WL_eff rfl rfl (St_call (R_call Try.call86 rfl) ((RNumber_c hM12 (int_V (wrap_wf _ _))).mono ?_))
    rintro _ w20 ⟨K20, v20_0, rfl, hS20, hM20, hO20_0, hg20_0⟩
    refine ⟨v20_0, rfl, ?_⟩
    have hE20 := hE12.andN hS20
    have h := h hO20_0.wf
    have hR22 := (hL11_u5.extN hS20)
    obtain ⟨hp24, h⟩ := h
    refine WL_eff rfl rfl (St_S (S_app hM20 rfl hR22 rfl hO20_0.V Try.underlying39 ty5b rfl hp24) ?_)
    rintro v23 w23 K23 hO23 hS23 hM23 hob23
    have hE23 := hE20.comp hS23 (fun c hx hlt => (fun g hg hlt => absurd hlt (Nat.not_lt.2 ((fun g hg => (ho11_u5 g hg).elim (fun hx => hf6 g hx) (fun hx => Nat.le_trans hE6.size hx)) g hg))) c hx hlt)
    have hR25 := (hR13.extN hS20)
    have hR26 := (hR25.ext hS23 (fun g hg hx => (fun g hg hx => (fun g hg hy => (ho11_u5 g hg).elim (fun hz => (fun g _ hx => nilS hx) g hz hy) (fun hz => absurd (hR9.lt _ hy) (Nat.not_lt.2 hz))) g hx hg) g hg hx))
    have hR27 := (hO20_0.ext hS23 (fun g hg hx => (fun g hg hx => absurd (hL11_u5.lt _ hx) (Nat.not_lt.2 (hg20_0 g hg))) g hg hx))
    have hf23 : ∀ g, ob v23 = some g → w0.heap.size ≤ g := fun g hg => by rcases hob23 with hq | hq <;> rw [hq] at hg; exact (fun g hg => (ho11_u5 g hg).elim (fun hx => hf6 g hx) (fun hx => Nat.le_trans hE6.size hx)) g hg; cases hg; exact hE20.size
    have hs29 : ∀ g, ob v23 = some g → ¬ (ob v20_0 = some g) := fun g hg hx => by rcases hob23 with hq | hq <;> rw [hq] at hg; exact (fun g hg hx => (fun g hg hx => absurd (hL11_u5.lt _ hx) (Nat.not_lt.2 (hg20_0 g hg))) g hx hg) g hg hx; cases hg; exact absurd (hO20_0.lt _ hx) (Nat.not_lt.2 (Nat.le_refl _))
    refine WL_pure v23 (R_as rfl) rfl rfl ?_
    refine WL_nil ?_
    refine WP_region ?_
    refine WL_pure v23 (R_mv rfl) rfl rfl ?_
    refine WL_pure a1_l_v (R_mv rfl) rfl rfl ?_
    refine WL_pure (.int .i64 i11) (R_mv rfl) rfl rfl ?_
    obtain ⟨hp31, h⟩ := h
    refine WL_P (S_ixs rfl (h_a1_l.mono (hS4.le.trans (hS6.le.trans (hX12.le.trans (hS20.le.trans hS23.le))))) rfl Try.underlying38 ty39 hp31.1 hp31.2) rfl rfl ?_
    rintro b30 o30 hP30
    refine WL_L hM23 (S_ld rfl ty39 hP30) rfl rfl ?_
    rintro v33 (hV33 : kd_l_u8.V _ (ix a1_l i11) _)
    obtain ⟨hp36, h⟩ := h
    refine WL_eff rfl rfl (St_S (S_app hM23 rfl hO23 rfl hV33 Try.underlying39 ty5b rfl hp36) ?_)
    rintro v35 w35 K35 hO35 hS35 hM35 hob35
    have hE35 := hE23.comp hS35 (fun c hx hlt => (fun g hg hlt => absurd hlt (Nat.not_lt.2 (hf23 g hg))) c hx hlt)
    have hR37 := (hR26.ext hS35 (fun g hg hx => (fun g hg hx => (fun g _ hx => nilS hx) g hx hg) g hg hx))
    have hR38 := (hR27.ext hS35 (fun g hg hx => (fun g hg hx => hs29 g hx hg) g hg hx))
    have hf35 : ∀ g, ob v35 = some g → w0.heap.size ≤ g := fun g hg => by rcases hob35 with hq | hq <;> rw [hq] at hg; exact hf23 g hg; cases hg; exact hE23.size
    have hs40 : ∀ g, ob v35 = some g → ¬ (ob v20_0 = some g) := fun g hg hx => by rcases hob35 with hq | hq <;> rw [hq] at hg; exact hs29 g hg hx; cases hg; exact absurd (hR27.lt _ hx) (Nat.not_lt.2 (Nat.le_refl _))
    refine WL_pure v35 (R_as rfl) rfl rfl ?_
    refine WL_nil ?_
    refine WP_region ?_
    refine WL_pure (.int .i64 i11) (R_mv rfl) rfl rfl ?_
    refine WL_pure (.int .i64 (i11 + 1)) (R_inc rfl rfl hw11_6 hd14 (len_wf (h_a1_l).wf.1)) rfl rfl ?_
    refine WL_pure (.int .i64 (i11 + 1)) (R_as rfl) rfl rfl ?_
    refine WL_nil ?_
    refine BackQ.mk (((out11 ++ (numB (IntKind.u64.wrap ((ix a1_l i11).length : Int)).toNat)) ++ (ix a1_l i11)), (i11 + 1)) [(5, v35), (6, (.int .i64 (i11 + 1)))] ?_ ?_ ?_ ?_
    rotate_left
    · exact h.2
    · repeat (first | exact Off.lay0 rfl | refine Off.updO ?_ rfl _ | refine Off.updN ?_ _ | refine Off.lay ?_ rfl)
    · repeat (first | exact trivial | refine ⟨rfl, ?_⟩)
    exact ⟨K35, v35, h.1, rfl, (((((Ext.refl _ _ _).comp hX12 (fun c hx hlt => (hx))).andN hS20).comp hS23 (fun c hx hlt => ((((ho11_u5 c hx).elim (fun hz => (.inl hz)) (fun hz => .inr (Nat.le_trans (Nat.le_refl _) hz))) : ob v6 = some c ∨ w6.heap.size ≤ c).elim (fun hx => (hx)) (fun hz => absurd hlt (Nat.not_lt.2 hz))))).comp hS35 (fun c hx hlt => (((by have hg : ob v23 = some c := hx; rcases hob23 with hq | hq <;> rw [hq] at hg; exact ((ho11_u5 c hg).elim (fun hz => (.inl hz)) (fun hz => .inr (Nat.le_trans (Nat.le_refl _) hz))); cases hg; exact .inr (Nat.le_trans hX12.size hS20.size)) : ob v6 = some c ∨ w6.heap.size ≤ c).elim (fun hx => (hx)) (fun hz => absurd hlt (Nat.not_lt.2 hz))))), hM35, (inc_wf hw11_6 hd14 (len_wf (h_a1_l).wf.1)), hO35, (fun g hg => (by have hg : ob v35 = some g := hg; rcases hob35 with hq | hq <;> rw [hq] at hg; exact (by have hg : ob v23 = some g := hg; rcases hob23 with hq | hq <;> rw [hq] at hg; exact ((ho11_u5 g hg).elim (fun hz => (.inl hz)) (fun hz => .inr (Nat.le_trans (Nat.le_refl _) hz))); cases hg; exact .inr (Nat.le_trans hX12.size hS20.size)); cases hg; exact .inr (Nat.le_trans hX12.size (Nat.le_trans hS20.size hS23.size))))⟩
  · have hd14 : ¬ (i11 < (a1_l.length : Int)) := dec_f hc14
    have h := h.2 hd14
    refine WP_exit ?_
    refine WP_seq ?_
    refine WP_region ?_
    refine WL_pure u5_11 (R_mv rfl) rfl rfl ?_
    refine WL_pure u5_11 (R_as rfl) rfl rfl ?_
    refine WL_nil ?_
    refine WP_ret ?_
    exact endR_ret hR (v := u5_11) (resE_1 rfl rfl) ⟨K12, u5_11, out11, rfl, h, hE12, hM12, hL11_u5, (fun g hg => (ho11_u5 g hg).elim (fun hx => hf6 g hx) (fun hx => Nat.le_trans hE6.size hx))⟩
theorem RBlobs_c {w0 : World} {K0 : Ghost} {a0_b_v : Value} {a0_b : (List UInt8)} {a1_l_v : Value} {a1_l : (List (List UInt8))} (hM0 : Models w0 K0) (h_a0_b : kd_l_u8.V K0 a0_b a0_b_v) (h_a1_l : kd_l_l_u8.V K0 a1_l a1_l_v) (hp : a0_b.length + blobRoom a1_l ≤ 140737488355328) : Calls Try.prog 68 #[a0_b_v, a1_l_v] w0 (fun e w' => ∃ (K' : Ghost) (r0 : Value), e = .returned r0 ∧ Ext NX w0 K0 w' K' ∧ Models w' K' ∧ Own Kd.byte 5 w' K' (a0_b ++ blobAll a1_l) r0 ∧ (∀ g, ob r0 = some g → w0.heap.size ≤ g)) := by
  refine (RBlobs_walk hM0 h_a0_b h_a1_l (RBlobs_ok h_a0_b.wf h_a1_l.wf hp)).mono ?_
  rintro _ w' ⟨K', r0, o0, rfl, rfl, hF⟩
  exact ⟨K', r0, rfl, hF⟩
def RPreimage_VC (a0_kind : Int) (a1_parts : (List (List UInt8))) (Q : (List UInt8) → Prop) : Prop :=
  ([(toB (IntKind.u8.wrap a0_kind))].length + blobRoom a1_parts ≤ 140737488355328) ∧ ((kd_l_u8.wf ([(toB (IntKind.u8.wrap a0_kind))] ++ blobAll a1_parts)) → (Q ([(toB (IntKind.u8.wrap a0_kind))] ++ blobAll a1_parts)))
theorem RPreimage_ok {a0_kind : Int} {a1_parts : (List (List UInt8))} (w_0 : (Kd.int .i64).wf a0_kind) (w_1 : kd_l_l_u8.wf a1_parts) (hp : 1 + blobRoom a1_parts ≤ 140737488355328) : RPreimage_VC a0_kind a1_parts (fun o0 => o0 = (preimage a0_kind a1_parts)) := by
  unfold RPreimage_VC
  exact ⟨by simpa using hp, fun _ => rfl⟩

theorem RPreimage_walk {w0 : World} {K0 : Ghost} {a0_kind_v : Value} {a0_kind : Int} {a1_parts_v : Value} {a1_parts : (List (List UInt8))} {Q : (List UInt8) → Prop} (hM0 : Models w0 K0) (h_a0_kind : (Kd.int .i64).V K0 a0_kind a0_kind_v) (h_a1_parts : kd_l_l_u8.V K0 a1_parts a1_parts_v) (h : RPreimage_VC a0_kind a1_parts Q) : Calls Try.prog 45 #[a0_kind_v, a1_parts_v] w0 (fun e w' => ∃ (K' : Ghost) (r0 : Value) (o0 : (List UInt8)), e = .returned r0 ∧ Q o0 ∧ Ext NX w0 K0 w' K' ∧ Models w' K' ∧ Own Kd.byte 5 w' K' o0 r0 ∧ (∀ g, ob r0 = some g → w0.heap.size ≤ g)) := by
  unfold RPreimage_VC at h
  obtain rfl := int_form h_a0_kind
  have hE0 : Ext NX w0 K0 w0 K0 := Ext.refl _ _ _
  refine calls_gen fun R hR => ?_
  refine calls_env (args := [(.int .i64 a0_kind), a1_parts_v]) Try.func45 rfl (Nat.le_of_ble_eq_true rfl) ?_
  refine WP_seq ?_
  refine WP_region ?_
  have hR2 : Own Kd.byte 5 w0 K0 ([] : List UInt8) (.slice none 0 0) := Own.nil
  refine WL_pure (.slice none 0 0) (R_as rfl) rfl rfl ?_
  refine WL_nil ?_
  refine WP_seq ?_
  refine WP_region ?_
  refine WL_pure (.int .i64 a0_kind) (R_mv rfl) rfl rfl ?_
  refine WL_pure (.int .u8 (IntKind.u8.wrap a0_kind)) (R_cvi rfl Try.underlying3 Try.underlying5) rfl rfl ?_
  refine WL_eff rfl rfl (St_S0 (S_bsl (k := Kd.byte) (l := [((toB (IntKind.u8.wrap a0_kind)), (.int .u8 (IntKind.u8.wrap a0_kind)))]) hM0 rfl (by intro p hp; simp only [List.mem_cons, List.not_mem_nil, or_false] at hp; subst hp; exact (byte_V (wrap_wf _ _))) rfl Try.underlying39 ty5b rfl rfl) ?_)
  rintro v3 w3 K3 (hO3 : Own Kd.byte 5 w3 K3 [(toB (IntKind.u8.wrap a0_kind))] v3) hS3 hM3 hg3
  have hE3 := hE0.andN hS3
  refine WL_pure a1_parts_v (R_mv rfl) rfl rfl ?_
  have hR5 := (hR2.extN hS3)
  obtain ⟨hp7, h⟩ := h
  refine WL_eff rfl rfl (St_call (R_call Try.call68 rfl) ((RBlobs_c hM3 hO3.V (h_a1_parts.mono hS3.le) hp7).mono ?_))
  rintro _ w6 ⟨K6, v6_0, rfl, hS6, hM6, hO6_0, hg6_0⟩
  refine ⟨v6_0, rfl, ?_⟩
  have hE6 := hE3.andN hS6
  have h := h hO6_0.wf
  refine WL_pure v6_0 (R_as rfl) rfl rfl ?_
  refine WL_nil ?_
  refine WP_ret ?_
  exact endR_ret hR (v := v6_0) (resE_1 rfl rfl) ⟨K6, v6_0, ([(toB (IntKind.u8.wrap a0_kind))] ++ blobAll a1_parts), rfl, h, hE6, hM6, hO6_0, (fun g hg => Nat.le_trans hE3.size (hg6_0 g hg))⟩
theorem RPreimage_c {w0 : World} {K0 : Ghost} {a0_kind_v : Value} {a0_kind : Int} {a1_parts_v : Value} {a1_parts : (List (List UInt8))} (hM0 : Models w0 K0) (h_a0_kind : (Kd.int .i64).V K0 a0_kind a0_kind_v) (h_a1_parts : kd_l_l_u8.V K0 a1_parts a1_parts_v) (hp : 1 + blobRoom a1_parts ≤ 140737488355328) : Calls Try.prog 45 #[a0_kind_v, a1_parts_v] w0 (fun e w' => ∃ (K' : Ghost) (r0 : Value), e = .returned r0 ∧ Ext NX w0 K0 w' K' ∧ Models w' K' ∧ Own Kd.byte 5 w' K' (preimage a0_kind a1_parts) r0 ∧ (∀ g, ob r0 = some g → w0.heap.size ≤ g)) := by
  refine (RPreimage_walk hM0 h_a0_kind h_a1_parts (RPreimage_ok h_a0_kind.wf h_a1_parts.wf hp)).mono ?_
  rintro _ w' ⟨K', r0, o0, rfl, rfl, hF⟩
  exact ⟨K', r0, rfl, hF⟩
def ROf_VC (a0_kind : Int) (a1_parts : (List (List UInt8))) (Q : (List UInt8) → Prop) : Prop :=
  (1 + blobRoom a1_parts ≤ 140737488355328) ∧ ((kd_l_u8.wf (preimage a0_kind a1_parts)) → (([(preimage a0_kind a1_parts)].flatten.length ≤ 70368744177664) ∧ ((kd_a32_u8.wf (sha256 [(preimage a0_kind a1_parts)])) → (Q (sha256 [(preimage a0_kind a1_parts)])))))
theorem ROf_ok {a0_kind : Int} {a1_parts : (List (List UInt8))} (w_0 : (Kd.int .i64).wf a0_kind) (w_1 : kd_l_l_u8.wf a1_parts) (hp : 1 + blobRoom a1_parts ≤ 70368744177664) : ROf_VC a0_kind a1_parts (fun o0 => o0 = (sealOf a0_kind a1_parts)) := by
  have hl := preimage_len a0_kind (l := a1_parts) (by omega)
  unfold ROf_VC
  exact ⟨by omega, fun _ => ⟨by simp; omega, fun _ => rfl⟩⟩

theorem ROf_walk {w0 : World} {K0 : Ghost} {a0_kind_v : Value} {a0_kind : Int} {a1_parts_v : Value} {a1_parts : (List (List UInt8))} {Q : (List UInt8) → Prop} (hM0 : Models w0 K0) (h_a0_kind : (Kd.int .i64).V K0 a0_kind a0_kind_v) (h_a1_parts : kd_l_l_u8.V K0 a1_parts a1_parts_v) (h : ROf_VC a0_kind a1_parts Q) : Calls Try.prog 22 #[a0_kind_v, a1_parts_v] w0 (fun e w' => ∃ (K' : Ghost) (r0 : Value) (o0 : (List UInt8)), e = .returned r0 ∧ Q o0 ∧ Ext NX w0 K0 w' K' ∧ Models w' K' ∧ kd_a32_u8.V K' o0 r0) := by
  unfold ROf_VC at h
  obtain rfl := int_form h_a0_kind
  have hE0 : Ext NX w0 K0 w0 K0 := Ext.refl _ _ _
  refine calls_gen fun R hR => ?_
  refine calls_env (args := [(.int .i64 a0_kind), a1_parts_v]) Try.func22 rfl (Nat.le_of_ble_eq_true rfl) ?_
  refine WP_seq ?_
  refine WP_region ?_
  refine WL_eff rfl rfl (St_B (S_alloc hM0 ty23) ?_)
  rintro b2 w2 (hB2 : Bx kd_a32_u8 _ _ _ _ _ (List.replicate 32 0)) hS2 hM2 hge2
  have hE2 := hE0.andN hS2
  refine WL_nil ?_
  refine WP_seq ?_
  refine WP_region ?_
  refine WL_pure (.int .i64 a0_kind) (R_mv rfl) rfl rfl ?_
  refine WL_pure a1_parts_v (R_mv rfl) rfl rfl ?_
  obtain ⟨hp5, h⟩ := h
  refine WL_eff rfl rfl (St_call (R_call Try.call45 rfl) ((RPreimage_c hM2 (int_V (h_a0_kind).wf) (h_a1_parts.mono hS2.le) hp5).mono ?_))
  rintro _ w4 ⟨K4, v4_0, rfl, hS4, hM4, hO4_0, hg4_0⟩
  refine ⟨v4_0, rfl, ?_⟩
  have hE4 := hE2.andN hS4
  have h := h hO4_0.wf
  refine WL_eff rfl rfl (St_S0 (S_bsl (k := kd_l_u8) (l := [((preimage a0_kind a1_parts), v4_0)]) hM4 rfl (by intro p hp; simp only [List.mem_cons, List.not_mem_nil, or_false] at hp; subst hp; exact hO4_0.V) rfl Try.underlying38 ty39 rfl rfl) ?_)
  rintro v7 w7 K7 (hO7 : Own kd_l_u8 39 w7 K7 [(preimage a0_kind a1_parts)] v7) hS7 hM7 hg7
  have hE7 := hE4.andN hS7
  obtain ⟨hp10, h⟩ := h
  refine WL_eff rfl rfl (St_call (R_call Try.call50 rfl) ((RSum_c hM7 hO7.V hp10).mono ?_))
  rintro _ w9 ⟨K9, v9_0, rfl, hS9, hM9, hV9_0⟩
  refine ⟨v9_0, rfl, ?_⟩
  have hE9 := hE7.andN hS9
  have h := h hV9_0.wf
  have hR13 := (((hB2.extN hS4).extN hS7).extN hS9)
  refine WL_eff rfl rfl (St_St (S_stB (Foc.id _) hM9 rfl rfl hV9_0 ty23 hR13 (by first | rfl | simp | omega)) ?_)
  rintro w12 (hB12 : Bx kd_a32_u8 _ _ b2 [] [] (sha256 [(preimage a0_kind a1_parts)])) hS12 hM12
  have hE12 := hE9.comp hS12 (fun c hx hlt => (by subst hx; exact (fun hlt => absurd hlt (Nat.not_lt.2 (Nat.le_trans hE0.size hge2))) hlt))
  refine WL_nil ?_
  refine WP_ret ?_
  refine endS_ret hR (resE_B rfl rfl ty23 hB12) ?_
  rintro v14 hV14
  exact ⟨K9, v14, (sha256 [(preimage a0_kind a1_parts)]), rfl, h, hE12, hM12, hV14⟩
theorem ROf_c {w0 : World} {K0 : Ghost} {a0_kind_v : Value} {a0_kind : Int} {a1_parts_v : Value} {a1_parts : (List (List UInt8))} (hM0 : Models w0 K0) (h_a0_kind : (Kd.int .i64).V K0 a0_kind a0_kind_v) (h_a1_parts : kd_l_l_u8.V K0 a1_parts a1_parts_v) (hp : 1 + blobRoom a1_parts ≤ 70368744177664) : Calls Try.prog 22 #[a0_kind_v, a1_parts_v] w0 (fun e w' => ∃ (K' : Ghost) (r0 : Value), e = .returned r0 ∧ Ext NX w0 K0 w' K' ∧ Models w' K' ∧ kd_a32_u8.V K' (sealOf a0_kind a1_parts) r0) := by
  refine (ROf_walk hM0 h_a0_kind h_a1_parts (ROf_ok h_a0_kind.wf h_a1_parts.wf hp)).mono ?_
  rintro _ w' ⟨K', r0, o0, rfl, rfl, hF⟩
  exact ⟨K', r0, rfl, hF⟩
end Go.Proofs.Ytfbhiilolpamaaa
