/- Each function that stands here: what its call must answer for (_VC), that it does (_ok), the walk through its code (_walk), its contract (_c). -/
import Derived.Test.YtfbhiilolpamaaaS6
import Derived.Test.YtfbhiilolpamaaaChecked
set_option linter.unusedVariables false
set_option maxRecDepth 100000
set_option maxHeartbeats 2000000
namespace Go.Proofs.Ytfbhiilolpamaaa
open Go Go.RowKit Go.Inc
def HWrite_VC (a0_h : ((List Int) × (Int × (List UInt8)))) (a1_parts : (List (List UInt8))) (Q : ((List Int) × (Int × (List UInt8))) → Prop) : Prop :=
  (([a0_h.2.2].length + a1_parts.length) * 24 ≤ 140737488355328) ∧ ((([a0_h.2.2] ++ a1_parts).flatten.length ≤ 140737488355328) ∧ ((kd_l_u8.wf (([a0_h.2.2] ++ a1_parts).flatten)) → (∃ (I17 : ((List Int) × (Int × (List UInt8))) → Prop) (μ17 : ((List Int) × (Int × (List UInt8))) → Nat), I17 (a0_h.1, a0_h.2.1, ([a0_h.2.2] ++ a1_parts).flatten) ∧ ∀ (b17 : ((List Int) × (Int × (List UInt8)))), I17 b17 → (kd_Ssha_Hash.wf b17) → (((64 ≤ (b17.2.2.length : Int)) → ((b17.2.1 = 0) → (kd_a8_u32.wf shaH) → ((0 ≤ (64 : Int) ∧ (64 : Int) ≤ (b17.2.2.length : Int)) ∧ (((b17.2.2.take (64 : Int).toNat).length = 64) ∧ ((0 ≤ (64 : Int) ∧ (64 : Int) ≤ (b17.2.2.length : Int)) ∧ (I17 ((takeW shaH (b17.2.2.take (64 : Int).toNat)), (IntKind.u64.wrap (b17.2.1 + 1)), (b17.2.2.drop (64 : Int).toNat)) ∧ μ17 ((takeW shaH (b17.2.2.take (64 : Int).toNat)), (IntKind.u64.wrap (b17.2.1 + 1)), (b17.2.2.drop (64 : Int).toNat)) < μ17 b17))))) ∧ ((¬ (b17.2.1 = 0)) → (0 ≤ (64 : Int) ∧ (64 : Int) ≤ (b17.2.2.length : Int)) ∧ (((b17.2.2.take (64 : Int).toNat).length = 64) ∧ ((0 ≤ (64 : Int) ∧ (64 : Int) ≤ (b17.2.2.length : Int)) ∧ (I17 ((takeW b17.1 (b17.2.2.take (64 : Int).toNat)), (IntKind.u64.wrap (b17.2.1 + 1)), (b17.2.2.drop (64 : Int).toNat)) ∧ μ17 ((takeW b17.1 (b17.2.2.take (64 : Int).toNat)), (IntKind.u64.wrap (b17.2.1 + 1)), (b17.2.2.drop (64 : Int).toNat)) < μ17 b17))))) ∧ ((¬ (64 ≤ (b17.2.2.length : Int))) → Q b17)))))
theorem HWrite_ok {a0_h : ((List Int) × (Int × (List UInt8)))} {a1_parts : (List (List UInt8))} (w_0 : kd_Ssha_Hash.wf a0_h) (w_1 : kd_l_l_u8.wf a1_parts) (hp : (1 + a1_parts.length) * 24 ≤ 140737488355328 ∧ (a0_h.2.2 ++ a1_parts.flatten).length ≤ 140737488355328) : HWrite_VC a0_h a1_parts (fun o0 => o0 = (hWrite a0_h a1_parts)) := by
  obtain ⟨h1, h2⟩ := hp
  unfold HWrite_VC
  refine ⟨by simp only [List.length_cons, List.length_nil]; omega, by simpa using h2, fun _ => ⟨fun b => eat b.1 b.2.1 b.2.2 = hWrite a0_h a1_parts, fun b => b.2.2.length, by simp [hWrite], ?_⟩⟩
  rintro ⟨s, n, r⟩ hI _
  refine ⟨fun h64 => ?_, fun h64 => ?_⟩
  · have hl : 64 ≤ r.length := by
      have h : (64 : Int) ≤ (r.length : Int) := h64
      omega
    have ht : (r.take 64).length = 64 := by rw [List.length_take]; omega
    have hd : (r.drop 64).length < r.length := by rw [List.length_drop]; omega
    dsimp only at hI ⊢
    rw [eat, if_pos hl] at hI
    refine ⟨fun h0 _ => ⟨⟨by omega, by omega⟩, ht, ⟨by omega, by omega⟩, ?_, hd⟩, fun h0 => ⟨⟨by omega, by omega⟩, ht, ⟨by omega, by omega⟩, ?_, hd⟩⟩
    · rw [if_pos h0] at hI
      exact hI
    · rw [if_neg h0] at hI
      exact hI
  · have hl : ¬ (64 ≤ r.length) := fun h => h64 (by show (64 : Int) ≤ (r.length : Int); omega)
    dsimp only at hI ⊢
    rw [eat, if_neg hl] at hI
    exact hI

theorem HWrite_walk {w0 : World} {K0 : Ghost} {a0_h_b : Nat} {a0_h_pre a0_h_post : List Value} {a0_h : ((List Int) × (Int × (List UInt8)))} {a1_parts_v : Value} {a1_parts : (List (List UInt8))} {Q : ((List Int) × (Int × (List UInt8))) → Prop} (hM0 : Models w0 K0) (h_a0_h_B : Bx kd_Ssha_Hash w0 K0 a0_h_b a0_h_pre a0_h_post a0_h) (h_a1_parts : kd_l_l_u8.V K0 a1_parts a1_parts_v) (h : HWrite_VC a0_h a1_parts Q) : Calls Try.prog 71 #[(.pointer (some ⟨a0_h_b, a0_h_pre.length, none⟩)), a1_parts_v] w0 (fun e w' => ∃ (K' : Ghost) (o0 : ((List Int) × (Int × (List UInt8)))), e = .returned (.tuple #[]) ∧ Q o0 ∧ Ext (fun c => c = a0_h_b) w0 K0 w' K' ∧ Models w' K' ∧ Bx kd_Ssha_Hash w' K' a0_h_b a0_h_pre a0_h_post o0) := by
  unfold HWrite_VC at h
  have hE0 : Ext (fun c => c = a0_h_b) w0 K0 w0 K0 := Ext.refl _ _ _
  refine calls_gen fun R hR => ?_
  refine calls_env (args := [(.pointer (some ⟨a0_h_b, a0_h_pre.length, none⟩)), a1_parts_v]) Try.func71 rfl (Nat.le_of_ble_eq_true rfl) ?_
  refine WP_seq ?_
  refine WP_seq ?_
  refine WP_region ?_
  refine WL_pure (.pointer (some ⟨a0_h_b, a0_h_pre.length, none⟩)) (R_mv rfl) rfl rfl ?_
  refine WL_pure (.bool false) (R_peq rfl rfl Try.underlying120) rfl rfl ?_
  refine WL_nil ?_
  refine WP_cond false rfl (fun hc => by cases hc) (fun _ => ?_)
  refine WP_skip ?_
  refine WP_seq ?_
  refine WP_region ?_
  refine WL_pure (.pointer (some ⟨a0_h_b, a0_h_pre.length, none⟩)) (R_mv rfl) rfl rfl ?_
  refine WL_pure (.pointer (some ⟨a0_h_b, a0_h_pre.length, none⟩)) (R_mv rfl) rfl rfl ?_
  refine WL_pure (.pointer (some ⟨a0_h_b, a0_h_pre.length, none⟩)) (R_nilck rfl) rfl rfl ?_
  refine WL_pure (.pointer (some ⟨a0_h_b, a0_h_pre.length + 9, none⟩)) (R_fa rfl Try.underlying148 rfl rfl ty39 rfl) rfl rfl ?_
  refine WL_L hM0 (S_ldB (Foc.trans (Foc.snd kd_a8_u32 (Kd.pr (Kd.int .u64) kd_l_u8)) (Foc.snd (Kd.int .u64) kd_l_u8)) rfl ty39 h_a0_h_B (by first | rfl | simp | omega) (fun h => h)) rfl rfl ?_
  rintro v3 (hV3 : kd_l_u8.V _ a0_h.2.2 _)
  refine WL_eff rfl rfl (St_S0 (S_bsl (k := kd_l_u8) (l := [(a0_h.2.2, v3)]) hM0 rfl (by intro p hp; simp only [List.mem_cons, List.not_mem_nil, or_false] at hp; subst hp; exact hV3) rfl Try.underlying38 ty39 rfl rfl) ?_)
  rintro v5 w5 K5 (hO5 : Own kd_l_u8 39 w5 K5 [a0_h.2.2] v5) hS5 hM5 hg5
  have hE5 := hE0.andN hS5
  refine WL_pure a1_parts_v (R_mv rfl) rfl rfl ?_
  obtain ⟨hp8, h⟩ := h
  refine WL_eff rfl rfl (St_S (S_app hM5 rfl hO5 rfl (h_a1_parts.mono hS5.le) Try.underlying38 ty39 rfl hp8) ?_)
  rintro v7 w7 K7 hO7 hS7 hM7 hob7
  have hE7 := hE5.comp hS7 (fun c hx hlt => (fun g hg hlt => absurd hlt (Nat.not_lt.2 ((fun g hg => Nat.le_trans hE0.size (hg5 g hg)) g hg))) c hx hlt)
  have hf7 : ∀ g, ob v7 = some g → w0.heap.size ≤ g := fun g hg => by rcases hob7 with hq | hq <;> rw [hq] at hg; exact (fun g hg => Nat.le_trans hE0.size (hg5 g hg)) g hg; cases hg; exact hE5.size
  have hR10 := (h_a0_h_B.extN hS5)
  have hR11 := (hR10.ext hS7 (fun hx => (hO5.box hR10) hx))
  obtain ⟨hp13, h⟩ := h
  refine WL_eff rfl rfl (St_call (R_call Try.call91 rfl) ((Concat_c hM7 hO7.V hp13).mono ?_))
  rintro _ w12 ⟨K12, v12_0, rfl, hS12, hM12, hO12_0, hg12_0⟩
  refine ⟨v12_0, rfl, ?_⟩
  have hE12 := hE7.andN hS12
  have h := h hO12_0.wf
  refine WL_pure (.pointer (some ⟨a0_h_b, a0_h_pre.length, none⟩)) (R_nilck rfl) rfl rfl ?_
  refine WL_pure (.pointer (some ⟨a0_h_b, a0_h_pre.length + 9, none⟩)) (R_fa rfl Try.underlying148 rfl rfl ty39 rfl) rfl rfl ?_
  have hR16 := (hR11.extN hS12)
  refine WL_eff rfl rfl (St_St (S_stB (Foc.trans (Foc.snd kd_a8_u32 (Kd.pr (Kd.int .u64) kd_l_u8)) (Foc.snd (Kd.int .u64) kd_l_u8)) hM12 rfl rfl hO12_0.V ty39 hR16 (by first | rfl | simp | omega)) ?_)
  rintro w15 (hB15 : Bx kd_Ssha_Hash _ _ a0_h_b a0_h_pre a0_h_post (a0_h.1, a0_h.2.1, ([a0_h.2.2] ++ a1_parts).flatten)) hS15 hM15
  have hE15 := hE12.comp hS15 (fun c hx hlt => (by subst hx; exact (fun _ => rfl) hlt))
  refine WL_nil ?_
  refine WP_block ?_
  obtain ⟨I17, μ17, h0, h⟩ := h
  refine WP_loopE (ι := ((List Int) × (Int × (List UInt8)))) [17, 18, 19, 20, 21, 22, 23, 24, 25, 26, 27, 28, 29, 30, 31, 32, 33, 34, 35, 36, 37, 38, 39, 40, 41, 42, 43, 44, 45, 46, 47, 48, 49, 50, 51, 52, 53, 54, 55] (fun s l w => ∃ K, I17 s ∧ l = [] ∧ Ext (fun c => c = a0_h_b) w15 K12 w K ∧ Models w K ∧ Bx kd_Ssha_Hash w K a0_h_b a0_h_pre a0_h_post s) (fun s => μ17 s) ((a0_h.1, a0_h.2.1, ([a0_h.2.2] ++ a1_parts).flatten)) []
    ⟨K12, h0, rfl, Ext.refl _ _ _, hM15, hB15⟩ (by repeat (first | exact trivial | refine ⟨rfl, ?_⟩)) ?_
  rintro b17 l σ17 w18 ⟨K18, hI, rfl, hX18, hM18, hL17_1⟩
  have hE18 := hE15.comp hX18 (fun c hx hlt => (by subst hx; exact (fun _ => rfl) hlt))
  have h := h b17 hI hL17_1.wf
  refine WP_seq ?_
  refine WP_seq ?_
  refine WP_region ?_
  refine WL_pure (.pointer (some ⟨a0_h_b, a0_h_pre.length, none⟩)) (R_mv rfl) rfl rfl ?_
  refine WL_pure (.pointer (some ⟨a0_h_b, a0_h_pre.length, none⟩)) (R_nilck rfl) rfl rfl ?_
  refine WL_pure (.pointer (some ⟨a0_h_b, a0_h_pre.length + 9, none⟩)) (R_fa rfl Try.underlying148 rfl rfl ty39 rfl) rfl rfl ?_
  refine WL_L hM18 (S_ldB (Foc.trans (Foc.snd kd_a8_u32 (Kd.pr (Kd.int .u64) kd_l_u8)) (Foc.snd (Kd.int .u64) kd_l_u8)) rfl ty39 hL17_1 (by first | rfl | simp | omega) (fun h => h)) rfl rfl ?_
  rintro v19 (hV19 : kd_l_u8.V _ b17.2.2 _)
  refine WL_pure (.int .i64 (b17.2.2.length : Int)) (R_len rfl hV19 Try.underlying39) rfl rfl ?_
  refine WL_pure (.bool (decide (64 ≤ (b17.2.2.length : Int)))) (R_geq rfl rfl) rfl rfl ?_
  refine WL_nil ?_
  refine WP_cond (decide (64 ≤ (b17.2.2.length : Int))) rfl (fun hc21 => ?_) (fun hc21 => ?_)
  · have hd21 : 64 ≤ (b17.2.2.length : Int) := dec_t hc21
    have h := h.1 hd21
    refine WP_skip ?_
    refine WP_seq ?_
    refine WP_block ?_
    refine WP_seq ?_
    refine WP_seq ?_
    refine WP_region ?_
    refine WL_pure (.pointer (some ⟨a0_h_b, a0_h_pre.length, none⟩)) (R_mv rfl) rfl rfl ?_
    refine WL_pure (.pointer (some ⟨a0_h_b, a0_h_pre.length, none⟩)) (R_nilck rfl) rfl rfl ?_
    refine WL_pure (.pointer (some ⟨a0_h_b, a0_h_pre.length + 8, none⟩)) (R_fa rfl Try.underlying148 rfl rfl ty65 rfl) rfl rfl ?_
    refine WL_L hM18 (S_ldB (Foc.trans (Foc.snd kd_a8_u32 (Kd.pr (Kd.int .u64) kd_l_u8)) (Foc.fst (Kd.int .u64) kd_l_u8)) rfl ty65 hL17_1 (by first | rfl | simp | omega) (fun h => h)) rfl rfl ?_
    rintro v22 (hV22 : (Kd.int .u64).V _ b17.2.1 _)
    obtain rfl := int_form hV22
    refine WL_pure (.bool (decide (b17.2.1 = 0))) (R_eql rfl rfl) rfl rfl ?_
    refine WL_nil ?_
    refine WP_cond (decide (b17.2.1 = 0)) rfl (fun hc23 => ?_) (fun hc23 => ?_)
    · have hd23 : b17.2.1 = 0 := dec_t hc23
      have h := h.1 hd23
      refine WP_region ?_
      refine WL_pure (.pointer (some ⟨a0_h_b, a0_h_pre.length, none⟩)) (R_mv rfl) rfl rfl ?_
      refine WL_eff rfl rfl (St_call (R_call Try.call92 rfl) ((first_c hM18 ).mono ?_))
      rintro _ w24 ⟨K24, v24_0, rfl, hS24, hM24, hV24_0⟩
      refine ⟨v24_0, rfl, ?_⟩
      have hE24 := hE18.andN hS24
      have h := h hV24_0.wf
      refine WL_pure (.pointer (some ⟨a0_h_b, a0_h_pre.length, none⟩)) (R_nilck rfl) rfl rfl ?_
      refine WL_pure (.pointer (some ⟨a0_h_b, a0_h_pre.length + 0, none⟩)) (R_fa rfl Try.underlying148 rfl rfl ty146 rfl) rfl rfl ?_
      have hR27 := (hL17_1.extN hS24)
      refine WL_eff rfl rfl (St_St (S_stB (Foc.fst kd_a8_u32 (Kd.pr (Kd.int .u64) kd_l_u8)) hM24 rfl rfl hV24_0 ty146 hR27 (by first | rfl | simp | omega)) ?_)
      rintro w26 (hB26 : Bx kd_Ssha_Hash _ _ a0_h_b a0_h_pre a0_h_post (shaH, b17.2.1, b17.2.2)) hS26 hM26
      have hE26 := hE24.comp hS26 (fun c hx hlt => (by subst hx; exact (fun _ => rfl) hlt))
      refine WL_nil ?_
      refine WP_seq ?_
      refine WP_ordD (K := K24) (fun c => c = a0_h_b ∨ w26.heap.size ≤ c) [.o 0 2, .o 1 2, .o 2 2, .o 3 2, .o 4 2, .o 5 2, .o 6 2, .o 7 2, .o 8 1] (by kernel_rfl) (by kernel_rfl) hM26 ?_
      rintro w28 hS28 hM28
      have hE28 := hE26.andN hS28
      refine WO_pure (.pointer (some ⟨a0_h_b, a0_h_pre.length, none⟩)) rfl l0 hM28 (fun _ => R_mv rfl) rfl (gN rfl) rfl ?_
      refine WO_pure (.pointer (some ⟨a0_h_b, a0_h_pre.length, none⟩)) rfl l0 hM28 (fun _ => R_nilck rfl) rfl (gN rfl) rfl ?_
      refine WO_pure (.pointer (some ⟨a0_h_b, a0_h_pre.length + 0, none⟩)) rfl l0 hM28 (fun _ => R_fa rfl Try.underlying148 rfl rfl ty146 rfl) rfl (gN rfl) rfl ?_
      refine WO_pure (.pointer (some ⟨a0_h_b, a0_h_pre.length, none⟩)) rfl l0 hM28 (fun _ => R_mv rfl) rfl (gN rfl) rfl ?_
      refine WO_pure (.pointer (some ⟨a0_h_b, a0_h_pre.length, none⟩)) rfl l0 hM28 (fun _ => R_nilck rfl) rfl (gN rfl) rfl ?_
      refine WO_pure (.pointer (some ⟨a0_h_b, a0_h_pre.length + 9, none⟩)) rfl l0 hM28 (fun _ => R_fa rfl Try.underlying148 rfl rfl ty39 rfl) rfl (gN rfl) rfl ?_
      have hR30 := (hB26.extN hS28)
      refine WO_L0 hM28 (S_ldB (Foc.trans (Foc.snd kd_a8_u32 (Kd.pr (Kd.int .u64) kd_l_u8)) (Foc.snd (Kd.int .u64) kd_l_u8)) rfl ty39 hR30 (by first | rfl | simp | omega) (fun h => h)) rfl (gN rfl) rfl ?_
      rintro v29 (hV29 : kd_l_u8.V _ b17.2.2 _)
      obtain ⟨hp33, h⟩ := h
      refine WO_V rfl l0 hM28 (S_slH rfl hV29 Try.underlying39 ty5b rfl hp33.1 hp33.2) rfl (gN rfl) rfl ?_
      rintro v32 (hV32 : kd_l_u8.V _ (b17.2.2.take (64 : Int).toNat) _)
      have hR35 := (hO7.extN hS12)
      have hR36 := (hR35.ext hS15 (fun g hg hx => (fun g hg hx => hR35.box hR16 (hg.trans (congrArg some hx))) g hg hx))
      have hR37 := ((hR36.ext hX18 (fun g hg hx => (fun g hg hx => hR36.box hB15 (hg.trans (congrArg some hx))) g hg hx)).extN hS24)
      have hR38 := ((hR37.ext hS26 (fun g hg hx => (fun g hg hx => hR37.box hR27 (hg.trans (congrArg some hx))) g hg hx)).extN hS28)
      have hR39 := (hO12_0.ext hS15 (fun g hg hx => (fun g hg hx => hO12_0.box hR16 (hg.trans (congrArg some hx))) g hg hx))
      have hR40 := ((hR39.ext hX18 (fun g hg hx => (fun g hg hx => hR39.box hB15 (hg.trans (congrArg some hx))) g hg hx)).extN hS24)
      have hR41 := ((hR40.ext hS26 (fun g hg hx => (fun g hg hx => hR40.box hR27 (hg.trans (congrArg some hx))) g hg hx)).extN hS28)
      obtain ⟨p43, q43, hl43, hB43, hback43⟩ := Bx.sub (Foc.fst kd_a8_u32 (Kd.pr (Kd.int .u64) kd_l_u8)) hR30
      obtain ⟨hp44, h⟩ := h
      refine WO_eff rfl (gN rfl) rfl (St_call (R_call Try.call93 (mapC (show (Value.pointer (some ⟨a0_h_b, a0_h_pre.length + 0, none⟩)) = .pointer (some ⟨a0_h_b, ((a0_h_pre : List Value) ++ p43).length, none⟩) from by rw [List.length_append, hl43]; first | done | simp) (mapC rfl mapN))) ((take_c hM28 hB43 hV32 hp44).mono ?_))
      rintro _ w42 ⟨K42, rfl, hS42, hM42, hB42_m0⟩
      refine ⟨(.tuple #[]), rfl, ?_⟩
      refine ⟨K42, (hS42.weak (fun c hlt hx => (.inl (hx)))), hM42, ?_⟩
      have hE42 := hE28.comp hS42 (fun c hx hlt => (by subst hx; exact (fun _ => rfl) hlt))
      have hB42_w : Bx kd_Ssha_Hash w42 K42 a0_h_b a0_h_pre a0_h_post ((takeW shaH (b17.2.2.take (64 : Int).toNat)), b17.2.1, b17.2.2) := hback43 hS42.le hB42_m0
      refine WO_nil ?_
      refine WP_region ?_
      refine WL_pure (.pointer (some ⟨a0_h_b, a0_h_pre.length, none⟩)) (R_mv rfl) rfl rfl ?_
      refine WL_pure (.pointer (some ⟨a0_h_b, a0_h_pre.length, none⟩)) (R_nilck rfl) rfl rfl ?_
      refine WL_pure (.pointer (some ⟨a0_h_b, a0_h_pre.length + 8, none⟩)) (R_fa rfl Try.underlying148 rfl rfl ty65 rfl) rfl rfl ?_
      refine WL_L hM42 (S_ldB (Foc.trans (Foc.snd kd_a8_u32 (Kd.pr (Kd.int .u64) kd_l_u8)) (Foc.fst (Kd.int .u64) kd_l_u8)) rfl ty65 hB42_w (by first | rfl | simp | omega) (fun h => h)) rfl rfl ?_
      rintro v45 (hV45 : (Kd.int .u64).V _ b17.2.1 _)
      obtain rfl := int_form hV45
      refine WL_pure (.int .u64 (IntKind.u64.wrap (b17.2.1 + 1))) (R_add rfl rfl) rfl rfl ?_
      refine WL_pure (.pointer (some ⟨a0_h_b, a0_h_pre.length, none⟩)) (R_nilck rfl) rfl rfl ?_
      refine WL_pure (.pointer (some ⟨a0_h_b, a0_h_pre.length + 8, none⟩)) (R_fa rfl Try.underlying148 rfl rfl ty65 rfl) rfl rfl ?_
      refine WL_eff rfl rfl (St_St (S_stB (Foc.trans (Foc.snd kd_a8_u32 (Kd.pr (Kd.int .u64) kd_l_u8)) (Foc.fst (Kd.int .u64) kd_l_u8)) hM42 rfl rfl (int_V (wrap_wf _ _)) ty65 hB42_w (by first | rfl | simp | omega)) ?_)
      rintro w46 (hB46 : Bx kd_Ssha_Hash _ _ a0_h_b a0_h_pre a0_h_post ((takeW shaH (b17.2.2.take (64 : Int).toNat)), (IntKind.u64.wrap (b17.2.1 + 1)), b17.2.2)) hS46 hM46
      have hE46 := hE42.comp hS46 (fun c hx hlt => (by subst hx; exact (fun _ => rfl) hlt))
      refine WL_nil ?_
      refine WP_region ?_
      refine WL_pure (.pointer (some ⟨a0_h_b, a0_h_pre.length, none⟩)) (R_mv rfl) rfl rfl ?_
      refine WL_pure (.pointer (some ⟨a0_h_b, a0_h_pre.length, none⟩)) (R_mv rfl) rfl rfl ?_
      refine WL_pure (.pointer (some ⟨a0_h_b, a0_h_pre.length, none⟩)) (R_nilck rfl) rfl rfl ?_
      refine WL_pure (.pointer (some ⟨a0_h_b, a0_h_pre.length + 9, none⟩)) (R_fa rfl Try.underlying148 rfl rfl ty39 rfl) rfl rfl ?_
      refine WL_L hM46 (S_ldB (Foc.trans (Foc.snd kd_a8_u32 (Kd.pr (Kd.int .u64) kd_l_u8)) (Foc.snd (Kd.int .u64) kd_l_u8)) rfl ty39 hB46 (by first | rfl | simp | omega) (fun h => h)) rfl rfl ?_
      rintro v47 (hV47 : kd_l_u8.V _ b17.2.2 _)
      obtain ⟨hp50, h⟩ := h
      refine WL_V (S_slL rfl hV47 Try.underlying39 ty5b rfl hp50.1 hp50.2) rfl rfl ?_
      rintro v49 (hV49 : kd_l_u8.V _ (b17.2.2.drop (64 : Int).toNat) _)
      refine WL_pure (.pointer (some ⟨a0_h_b, a0_h_pre.length, none⟩)) (R_nilck rfl) rfl rfl ?_
      refine WL_pure (.pointer (some ⟨a0_h_b, a0_h_pre.length + 9, none⟩)) (R_fa rfl Try.underlying148 rfl rfl ty39 rfl) rfl rfl ?_
      refine WL_eff rfl rfl (St_St (S_stB (Foc.trans (Foc.snd kd_a8_u32 (Kd.pr (Kd.int .u64) kd_l_u8)) (Foc.snd (Kd.int .u64) kd_l_u8)) hM46 rfl rfl hV49 ty39 hB46 (by first | rfl | simp | omega)) ?_)
      rintro w52 (hB52 : Bx kd_Ssha_Hash _ _ a0_h_b a0_h_pre a0_h_post ((takeW shaH (b17.2.2.take (64 : Int).toNat)), (IntKind.u64.wrap (b17.2.1 + 1)), (b17.2.2.drop (64 : Int).toNat))) hS52 hM52
      have hE52 := hE46.comp hS52 (fun c hx hlt => (by subst hx; exact (fun _ => rfl) hlt))
      refine WL_nil ?_
      refine BackQ.mk (((takeW shaH (b17.2.2.take (64 : Int).toNat)), (IntKind.u64.wrap (b17.2.1 + 1)), (b17.2.2.drop (64 : Int).toNat))) [] ?_ ?_ ?_ ?_
      rotate_left
      · exact h.2
      · repeat (first | exact Off.lay0 rfl | refine Off.updO ?_ rfl _ | refine Off.updN ?_ _ | refine Off.lay ?_ rfl)
      · repeat (first | exact trivial | refine ⟨rfl, ?_⟩)
      exact ⟨K42, h.1, rfl, ((((((((Ext.refl _ _ _).comp hX18 (fun c hx hlt => (hx))).andN hS24).comp hS26 (fun c hx hlt => (hx))).andN hS28).comp hS42 (fun c hx hlt => (hx))).comp hS46 (fun c hx hlt => (hx))).comp hS52 (fun c hx hlt => (hx))), hM52, hB52⟩
    · have hd23 : ¬ (b17.2.1 = 0) := dec_f hc23
      have h := h.2 hd23
      refine WP_skip ?_
      refine WP_seq ?_
      refine WP_ordD (K := K18) (fun c => c = a0_h_b ∨ w18.heap.size ≤ c) [.o 0 2, .o 1 2, .o 2 2, .o 3 2, .o 4 2, .o 5 2, .o 6 2, .o 7 2, .o 8 1] (by kernel_rfl) (by kernel_rfl) hM18 ?_
      rintro w53 hS53 hM53
      have hE53 := hE18.andN hS53
      refine WO_pure (.pointer (some ⟨a0_h_b, a0_h_pre.length, none⟩)) rfl l0 hM53 (fun _ => R_mv rfl) rfl (gN rfl) rfl ?_
      refine WO_pure (.pointer (some ⟨a0_h_b, a0_h_pre.length, none⟩)) rfl l0 hM53 (fun _ => R_nilck rfl) rfl (gN rfl) rfl ?_
      refine WO_pure (.pointer (some ⟨a0_h_b, a0_h_pre.length + 0, none⟩)) rfl l0 hM53 (fun _ => R_fa rfl Try.underlying148 rfl rfl ty146 rfl) rfl (gN rfl) rfl ?_
      refine WO_pure (.pointer (some ⟨a0_h_b, a0_h_pre.length, none⟩)) rfl l0 hM53 (fun _ => R_mv rfl) rfl (gN rfl) rfl ?_
      refine WO_pure (.pointer (some ⟨a0_h_b, a0_h_pre.length, none⟩)) rfl l0 hM53 (fun _ => R_nilck rfl) rfl (gN rfl) rfl ?_
      refine WO_pure (.pointer (some ⟨a0_h_b, a0_h_pre.length + 9, none⟩)) rfl l0 hM53 (fun _ => R_fa rfl Try.underlying148 rfl rfl ty39 rfl) rfl (gN rfl) rfl ?_
      have hR55 := (hL17_1.extN hS53)
      refine WO_L0 hM53 (S_ldB (Foc.trans (Foc.snd kd_a8_u32 (Kd.pr (Kd.int .u64) kd_l_u8)) (Foc.snd (Kd.int .u64) kd_l_u8)) rfl ty39 hR55 (by first | rfl | simp | omega) (fun h => h)) rfl (gN rfl) rfl ?_
      rintro v54 (hV54 : kd_l_u8.V _ b17.2.2 _)
      obtain ⟨hp58, h⟩ := h
      refine WO_V rfl l0 hM53 (S_slH rfl hV54 Try.underlying39 ty5b rfl hp58.1 hp58.2) rfl (gN rfl) rfl ?_
      rintro v57 (hV57 : kd_l_u8.V _ (b17.2.2.take (64 : Int).toNat) _)
      have hR60 := (hO7.extN hS12)
      have hR61 := (hR60.ext hS15 (fun g hg hx => (fun g hg hx => hR60.box hR16 (hg.trans (congrArg some hx))) g hg hx))
      have hR62 := ((hR61.ext hX18 (fun g hg hx => (fun g hg hx => hR61.box hB15 (hg.trans (congrArg some hx))) g hg hx)).extN hS53)
      have hR63 := (hO12_0.ext hS15 (fun g hg hx => (fun g hg hx => hO12_0.box hR16 (hg.trans (congrArg some hx))) g hg hx))
      have hR64 := ((hR63.ext hX18 (fun g hg hx => (fun g hg hx => hR63.box hB15 (hg.trans (congrArg some hx))) g hg hx)).extN hS53)
      obtain ⟨p66, q66, hl66, hB66, hback66⟩ := Bx.sub (Foc.fst kd_a8_u32 (Kd.pr (Kd.int .u64) kd_l_u8)) hR55
      obtain ⟨hp67, h⟩ := h
      refine WO_eff rfl (gN rfl) rfl (St_call (R_call Try.call93 (mapC (show (Value.pointer (some ⟨a0_h_b, a0_h_pre.length + 0, none⟩)) = .pointer (some ⟨a0_h_b, ((a0_h_pre : List Value) ++ p66).length, none⟩) from by rw [List.length_append, hl66]; first | done | simp) (mapC rfl mapN))) ((take_c hM53 hB66 hV57 hp67).mono ?_))
      rintro _ w65 ⟨K65, rfl, hS65, hM65, hB65_m0⟩
      refine ⟨(.tuple #[]), rfl, ?_⟩
      refine ⟨K65, (hS65.weak (fun c hlt hx => (.inl (hx)))), hM65, ?_⟩
      have hE65 := hE53.comp hS65 (fun c hx hlt => (by subst hx; exact (fun _ => rfl) hlt))
      have hB65_w : Bx kd_Ssha_Hash w65 K65 a0_h_b a0_h_pre a0_h_post ((takeW b17.1 (b17.2.2.take (64 : Int).toNat)), b17.2.1, b17.2.2) := hback66 hS65.le hB65_m0
      refine WO_nil ?_
      refine WP_region ?_
      refine WL_pure (.pointer (some ⟨a0_h_b, a0_h_pre.length, none⟩)) (R_mv rfl) rfl rfl ?_
      refine WL_pure (.pointer (some ⟨a0_h_b, a0_h_pre.length, none⟩)) (R_nilck rfl) rfl rfl ?_
      refine WL_pure (.pointer (some ⟨a0_h_b, a0_h_pre.length + 8, none⟩)) (R_fa rfl Try.underlying148 rfl rfl ty65 rfl) rfl rfl ?_
      refine WL_L hM65 (S_ldB (Foc.trans (Foc.snd kd_a8_u32 (Kd.pr (Kd.int .u64) kd_l_u8)) (Foc.fst (Kd.int .u64) kd_l_u8)) rfl ty65 hB65_w (by first | rfl | simp | omega) (fun h => h)) rfl rfl ?_
      rintro v68 (hV68 : (Kd.int .u64).V _ b17.2.1 _)
      obtain rfl := int_form hV68
      refine WL_pure (.int .u64 (IntKind.u64.wrap (b17.2.1 + 1))) (R_add rfl rfl) rfl rfl ?_
      refine WL_pure (.pointer (some ⟨a0_h_b, a0_h_pre.length, none⟩)) (R_nilck rfl) rfl rfl ?_
      refine WL_pure (.pointer (some ⟨a0_h_b, a0_h_pre.length + 8, none⟩)) (R_fa rfl Try.underlying148 rfl rfl ty65 rfl) rfl rfl ?_
      refine WL_eff rfl rfl (St_St (S_stB (Foc.trans (Foc.snd kd_a8_u32 (Kd.pr (Kd.int .u64) kd_l_u8)) (Foc.fst (Kd.int .u64) kd_l_u8)) hM65 rfl rfl (int_V (wrap_wf _ _)) ty65 hB65_w (by first | rfl | simp | omega)) ?_)
      rintro w69 (hB69 : Bx kd_Ssha_Hash _ _ a0_h_b a0_h_pre a0_h_post ((takeW b17.1 (b17.2.2.take (64 : Int).toNat)), (IntKind.u64.wrap (b17.2.1 + 1)), b17.2.2)) hS69 hM69
      have hE69 := hE65.comp hS69 (fun c hx hlt => (by subst hx; exact (fun _ => rfl) hlt))
      refine WL_nil ?_
      refine WP_region ?_
      refine WL_pure (.pointer (some ⟨a0_h_b, a0_h_pre.length, none⟩)) (R_mv rfl) rfl rfl ?_
      refine WL_pure (.pointer (some ⟨a0_h_b, a0_h_pre.length, none⟩)) (R_mv rfl) rfl rfl ?_
      refine WL_pure (.pointer (some ⟨a0_h_b, a0_h_pre.length, none⟩)) (R_nilck rfl) rfl rfl ?_
      refine WL_pure (.pointer (some ⟨a0_h_b, a0_h_pre.length + 9, none⟩)) (R_fa rfl Try.underlying148 rfl rfl ty39 rfl) rfl rfl ?_
      refine WL_L hM69 (S_ldB (Foc.trans (Foc.snd kd_a8_u32 (Kd.pr (Kd.int .u64) kd_l_u8)) (Foc.snd (Kd.int .u64) kd_l_u8)) rfl ty39 hB69 (by first | rfl | simp | omega) (fun h => h)) rfl rfl ?_
      rintro v70 (hV70 : kd_l_u8.V _ b17.2.2 _)
      obtain ⟨hp73, h⟩ := h
      refine WL_V (S_slL rfl hV70 Try.underlying39 ty5b rfl hp73.1 hp73.2) rfl rfl ?_
      rintro v72 (hV72 : kd_l_u8.V _ (b17.2.2.drop (64 : Int).toNat) _)
      refine WL_pure (.pointer (some ⟨a0_h_b, a0_h_pre.length, none⟩)) (R_nilck rfl) rfl rfl ?_
      refine WL_pure (.pointer (some ⟨a0_h_b, a0_h_pre.length + 9, none⟩)) (R_fa rfl Try.underlying148 rfl rfl ty39 rfl) rfl rfl ?_
      refine WL_eff rfl rfl (St_St (S_stB (Foc.trans (Foc.snd kd_a8_u32 (Kd.pr (Kd.int .u64) kd_l_u8)) (Foc.snd (Kd.int .u64) kd_l_u8)) hM69 rfl rfl hV72 ty39 hB69 (by first | rfl | simp | omega)) ?_)
      rintro w75 (hB75 : Bx kd_Ssha_Hash _ _ a0_h_b a0_h_pre a0_h_post ((takeW b17.1 (b17.2.2.take (64 : Int).toNat)), (IntKind.u64.wrap (b17.2.1 + 1)), (b17.2.2.drop (64 : Int).toNat))) hS75 hM75
      have hE75 := hE69.comp hS75 (fun c hx hlt => (by subst hx; exact (fun _ => rfl) hlt))
      refine WL_nil ?_
      refine BackQ.mk (((takeW b17.1 (b17.2.2.take (64 : Int).toNat)), (IntKind.u64.wrap (b17.2.1 + 1)), (b17.2.2.drop (64 : Int).toNat))) [] ?_ ?_ ?_ ?_
      rotate_left
      · exact h.2
      · repeat (first | exact Off.lay0 rfl | refine Off.updO ?_ rfl _ | refine Off.updN ?_ _ | refine Off.lay ?_ rfl)
      · repeat (first | exact trivial | refine ⟨rfl, ?_⟩)
      exact ⟨K65, h.1, rfl, ((((((Ext.refl _ _ _).comp hX18 (fun c hx hlt => (hx))).andN hS53).comp hS65 (fun c hx hlt => (hx))).comp hS69 (fun c hx hlt => (hx))).comp hS75 (fun c hx hlt => (hx))), hM75, hB75⟩
  · have hd21 : ¬ (64 ≤ (b17.2.2.length : Int)) := dec_f hc21
    have h := h.2 hd21
    refine WP_exit ?_
    exact endR_nrm hR (v := (.tuple #[])) (resE_0 rfl) ⟨K18, b17, rfl, h, hE18, hM18, hL17_1⟩
theorem HWrite_c {w0 : World} {K0 : Ghost} {a0_h_b : Nat} {a0_h_pre a0_h_post : List Value} {a0_h : ((List Int) × (Int × (List UInt8)))} {a1_parts_v : Value} {a1_parts : (List (List UInt8))} (hM0 : Models w0 K0) (h_a0_h_B : Bx kd_Ssha_Hash w0 K0 a0_h_b a0_h_pre a0_h_post a0_h) (h_a1_parts : kd_l_l_u8.V K0 a1_parts a1_parts_v) (hp : (1 + a1_parts.length) * 24 ≤ 140737488355328 ∧ (a0_h.2.2 ++ a1_parts.flatten).length ≤ 140737488355328) : Calls Try.prog 71 #[(.pointer (some ⟨a0_h_b, a0_h_pre.length, none⟩)), a1_parts_v] w0 (fun e w' => ∃ (K' : Ghost), e = .returned (.tuple #[]) ∧ Ext (fun c => c = a0_h_b) w0 K0 w' K' ∧ Models w' K' ∧ Bx kd_Ssha_Hash w' K' a0_h_b a0_h_pre a0_h_post (hWrite a0_h a1_parts)) := by
  refine (HWrite_walk hM0 h_a0_h_B h_a1_parts (HWrite_ok h_a0_h_B.wf h_a1_parts.wf hp)).mono ?_
  rintro _ w' ⟨K', o0, rfl, rfl, hF⟩
  exact ⟨K', rfl, hF⟩
def HSum_VC (a0_h : ((List Int) × (Int × (List UInt8)))) (Q : (List UInt8) → Prop) : Prop :=
  (a0_h.2.2.length ≤ 140737488355328) ∧ (((Kd.int .u64).wf (hLen a0_h)) → ((0 ≤ (Int.tmod (IntKind.i64.wrap (119 - (a0_h.2.2.length : Int))) 64) ∧ (Int.tmod (IntKind.i64.wrap (119 - (a0_h.2.2.length : Int))) 64) ≤ (Int.tmod (IntKind.i64.wrap (119 - (a0_h.2.2.length : Int))) 64) ∧ 1 * (Int.tmod (IntKind.i64.wrap (119 - (a0_h.2.2.length : Int))) 64) ≤ 281474976710656 ∧ (Int.tmod (IntKind.i64.wrap (119 - (a0_h.2.2.length : Int))) 64) ≤ 281474976710656) ∧ ((kd_l_u8.wf (be (IntKind.u64.wrap (8 * (hLen a0_h))).toNat 8)) → (((1 + [[(toB 128)], (List.replicate (Int.tmod (IntKind.i64.wrap (119 - (a0_h.2.2.length : Int))) 64).toNat 0), (be (IntKind.u64.wrap (8 * (hLen a0_h))).toNat 8)].length) * 24 ≤ 140737488355328 ∧ (a0_h.2.2 ++ [[(toB 128)], (List.replicate (Int.tmod (IntKind.i64.wrap (119 - (a0_h.2.2.length : Int))) 64).toNat 0), (be (IntKind.u64.wrap (8 * (hLen a0_h))).toNat 8)].flatten).length ≤ 140737488355328) ∧ (∃ (I113 : Int → (List UInt8) → Prop) (μ113 : Int → (List UInt8) → Nat), I113 0 (List.replicate 32 0) ∧ ∀ (i113 : Int) (b113 : (List UInt8)), I113 i113 b113 → ((Kd.int .i64).wf i113) → (kd_a32_u8.wf b113) → (((i113 < 8) → (0 ≤ i113 ∧ i113 < 8) ∧ ((0 ≤ (IntKind.i64.wrap (4 * i113)) ∧ (IntKind.i64.wrap (4 * i113)) ≤ (32 : Int) ∧ (32 : Int) ≤ (32 : Int) ∧ (IntKind.i64.wrap (4 * i113)) < (32 : Int)) ∧ ((kd_l_u8.wf (be (ix ((hWrite a0_h [[(toB 128)], (List.replicate (Int.tmod (IntKind.i64.wrap (119 - (a0_h.2.2.length : Int))) 64).toNat 0), (be (IntKind.u64.wrap (8 * (hLen a0_h))).toNat 8)]).1) i113).toNat 8)) → ((0 ≤ (4 : Int) ∧ (4 : Int) ≤ ((be (ix ((hWrite a0_h [[(toB 128)], (List.replicate (Int.tmod (IntKind.i64.wrap (119 - (a0_h.2.2.length : Int))) 64).toNat 0), (be (IntKind.u64.wrap (8 * (hLen a0_h))).toNat 8)]).1) i113).toNat 8).length : Int)) ∧ (I113 (IntKind.i64.wrap (i113 + 1)) (b113.take (IntKind.i64.wrap (4 * i113)).toNat ++ ((be (ix ((hWrite a0_h [[(toB 128)], (List.replicate (Int.tmod (IntKind.i64.wrap (119 - (a0_h.2.2.length : Int))) 64).toNat 0), (be (IntKind.u64.wrap (8 * (hLen a0_h))).toNat 8)]).1) i113).toNat 8).drop (4 : Int).toNat).take (32 - (IntKind.i64.wrap (4 * i113)).toNat) ++ b113.drop ((IntKind.i64.wrap (4 * i113)).toNat + min ((be (ix ((hWrite a0_h [[(toB 128)], (List.replicate (Int.tmod (IntKind.i64.wrap (119 - (a0_h.2.2.length : Int))) 64).toNat 0), (be (IntKind.u64.wrap (8 * (hLen a0_h))).toNat 8)]).1) i113).toNat 8).drop (4 : Int).toNat).length (32 - (IntKind.i64.wrap (4 * i113)).toNat))) ∧ μ113 (IntKind.i64.wrap (i113 + 1)) (b113.take (IntKind.i64.wrap (4 * i113)).toNat ++ ((be (ix ((hWrite a0_h [[(toB 128)], (List.replicate (Int.tmod (IntKind.i64.wrap (119 - (a0_h.2.2.length : Int))) 64).toNat 0), (be (IntKind.u64.wrap (8 * (hLen a0_h))).toNat 8)]).1) i113).toNat 8).drop (4 : Int).toNat).take (32 - (IntKind.i64.wrap (4 * i113)).toNat) ++ b113.drop ((IntKind.i64.wrap (4 * i113)).toNat + min ((be (ix ((hWrite a0_h [[(toB 128)], (List.replicate (Int.tmod (IntKind.i64.wrap (119 - (a0_h.2.2.length : Int))) 64).toNat 0), (be (IntKind.u64.wrap (8 * (hLen a0_h))).toNat 8)]).1) i113).toNat 8).drop (4 : Int).toNat).length (32 - (IntKind.i64.wrap (4 * i113)).toNat))) < μ113 i113 b113))))) ∧ ((¬ (i113 < 8)) → Q b113)))))))
theorem HSum_ok {a0_h : ((List Int) × (Int × (List UInt8)))} (w_0 : kd_Ssha_Hash.wf a0_h) (hp : a0_h.2.2.length < 64) : HSum_VC a0_h (fun o0 => o0 = (hSum a0_h)) := by
  have wr : ∀ a : Int, -1000 ≤ a → a ≤ 1000 → IntKind.i64.wrap a = a := fun a h1 h2 => wrap_id (wf64 (by omega) (by omega))
  have hk : Int.tmod (IntKind.i64.wrap (119 - (a0_h.2.2.length : Int))) 64 = ((119 - (a0_h.2.2.length : Int)) % 64) := by
    rw [wr _ (by omega) (by omega), Int.tmod_eq_emod_of_nonneg (by omega)]
  have hsum : ∀ n, (sumN (hWrite a0_h (padOf a0_h)).1 n).length = 32 := by
    intro n
    induction n with
    | zero => simp [sumN]
    | succ n ih =>
      simp only [sumN, List.length_append, List.length_take, List.length_drop, ih, be_length]
      omega
  unfold HSum_VC
  refine ⟨by omega, fun _ => ⟨by rw [hk]; refine ⟨?_, ?_, ?_, ?_⟩ <;> omega, fun _ => ⟨⟨by simp, ?_⟩, ?_⟩⟩⟩
  · rw [hk]
    simp [be_length]
    omega
  · refine ⟨fun i b => ∃ n : Nat, i = (n : Int) ∧ n ≤ 8 ∧ b = sumN (hWrite a0_h (padOf a0_h)).1 n, fun i _ => 8 - i.toNat, ⟨0, rfl, by omega, rfl⟩, ?_⟩
    rintro i b ⟨n, rfl, hn, rfl⟩ _ _
    refine ⟨fun hlt => ?_, fun hge => ?_⟩
    · rw [wr (4 * (n : Int)) (by omega) (by omega), wr ((n : Int) + 1) (by omega) (by omega)]
      have e4 : (4 * (n : Int)).toNat = 4 * n := by omega
      rw [e4]
      refine ⟨⟨by omega, hlt⟩, ⟨by omega, by omega, by omega, by omega⟩, fun _ => ⟨⟨by omega, by rw [be_length]; omega⟩, ⟨n + 1, by omega, by omega, rfl⟩, ?_⟩⟩
      show 8 - ((n : Int) + 1).toNat < 8 - (n : Int).toNat
      omega
    · have : n = 8 := by omega
      subst this
      rfl

theorem HSum_walk {w0 : World} {K0 : Ghost} {a0_h_b : Nat} {a0_h_pre a0_h_post : List Value} {a0_h : ((List Int) × (Int × (List UInt8)))} {Q : (List UInt8) → Prop} (hM0 : Models w0 K0) (h_a0_h_B : Bx kd_Ssha_Hash w0 K0 a0_h_b a0_h_pre a0_h_post a0_h) (h : HSum_VC a0_h Q) : Calls Try.prog 72 #[(.pointer (some ⟨a0_h_b, a0_h_pre.length, none⟩))] w0 (fun e w' => ∃ (K' : Ghost) (r0 : Value) (o0 : (List UInt8)), e = .returned r0 ∧ Q o0 ∧ Ext NX w0 K0 w' K' ∧ Models w' K' ∧ kd_a32_u8.V K' o0 r0) := by
  unfold HSum_VC at h
  have hE0 : Ext NX w0 K0 w0 K0 := Ext.refl _ _ _
  refine calls_gen fun R hR => ?_
  refine calls_env (args := [(.pointer (some ⟨a0_h_b, a0_h_pre.length, none⟩))]) Try.func72 rfl (Nat.le_of_ble_eq_true rfl) ?_
  refine WP_seq ?_
  refine WP_region ?_
  refine WL_eff rfl rfl (St_B (S_alloc hM0 ty23) ?_)
  rintro b2 w2 (hB2 : Bx kd_a32_u8 _ _ _ _ _ (List.replicate 32 0)) hS2 hM2 hge2
  have hE2 := hE0.andN hS2
  refine WL_nil ?_
  refine WP_seq ?_
  refine WP_region ?_
  have hR4 := (h_a0_h_B.extN hS2)
  refine WL_eff rfl rfl (St_call (R_call Try.call70 rfl) ((New_c hM2 ).mono ?_))
  rintro _ w5 ⟨K5, b5_0, rfl, hS5, hM5, hB5_0, hge5_0⟩
  refine ⟨(.pointer (some ⟨b5_0, 0, none⟩)), rfl, ?_⟩
  have hE5 := hE2.andN hS5
  refine WL_pure (.pointer (some ⟨b5_0, 0, none⟩)) (R_as rfl) rfl rfl ?_
  refine WL_nil ?_
  refine WP_seq ?_
  refine WP_seq ?_
  refine WP_region ?_
  refine WL_pure (.pointer (some ⟨a0_h_b, a0_h_pre.length, none⟩)) (R_mv rfl) rfl rfl ?_
  refine WL_pure (.bool true) (R_pne rfl rfl Try.underlying120) rfl rfl ?_
  refine WL_nil ?_
  refine WP_cond true rfl (fun _ => ?_) (fun hc => by cases hc)
  refine WP_region ?_
  refine WL_pure (.pointer (some ⟨a0_h_b, a0_h_pre.length, none⟩)) (R_mv rfl) rfl rfl ?_
  have hR7 := (hR4.extN hS5)
  have hR8 := (hB2.extN hS5)
  obtain ⟨hp10, h⟩ := h
  refine WL_eff rfl rfl (St_call (R_call Try.call94 rfl) ((HCopy_c hM5 hR7 hp10).mono ?_))
  rintro _ w9 ⟨K9, b9_0, rfl, hS9, hM9, hB9_0, hge9_0⟩
  refine ⟨(.pointer (some ⟨b9_0, 0, none⟩)), rfl, ?_⟩
  have hE9 := hE5.andN hS9
  refine WL_pure (.pointer (some ⟨b9_0, 0, none⟩)) (R_as rfl) rfl rfl ?_
  refine WL_nil ?_
  refine WP_seq ?_
  refine WP_region ?_
  refine WL_pure (.pointer (some ⟨b9_0, 0, none⟩)) (R_mv rfl) rfl rfl ?_
  have hR12 := (hR7.extN hS9)
  have hR13 := (hR8.extN hS9)
  have hR14 := (hB5_0.extN hS9)
  refine WL_eff rfl rfl (St_call (R_call Try.call95 rfl) ((HLen_c hM9 hB9_0).mono ?_))
  rintro _ w15 ⟨K15, v15_0, rfl, hS15, hM15, hV15_0⟩
  refine ⟨v15_0, rfl, ?_⟩
  have hE15 := hE9.andN hS15
  obtain rfl := int_form hV15_0
  have h := h hV15_0.wf
  refine WL_pure (.int .u64 (hLen a0_h)) (R_as rfl) rfl rfl ?_
  refine WL_nil ?_
  refine WP_seq ?_
  have hR16 := (hB9_0.extN hS15)
  refine WP_ordD (K := K15) (fun c => c = b9_0 ∨ w15.heap.size ≤ c) [.o 0 2, .o 2 2, .o 3 2, .o 4 2, .o 5 2, .o 6 2, .o 7 2, .o 8 2, .o 10 2, .o 11 2, .par [1, 9, 12] (.alt 1 0 (.alt 9 0 (.one 12 0 .fin) (.alt 12 0 (.one 9 0 .fin) .fin)) (.alt 9 0 (.alt 1 0 (.one 12 0 .fin) (.alt 12 0 (.one 1 0 .fin) .fin)) (.alt 12 0 (.alt 1 0 (.one 9 0 .fin) (.alt 9 0 (.one 1 0 .fin) .fin)) .fin))), .o 13 0, .o 14 1] (by kernel_rfl) (by kernel_rfl) hM15 ?_
  rintro w17 hS17 hM17
  have hE17 := hE15.andN hS17
  refine WO_pure (.pointer (some ⟨b9_0, 0, none⟩)) rfl l0 hM17 (fun _ => R_mv rfl) rfl (gN rfl) rfl ?_
  refine WO_pure (.pointer (some ⟨b9_0, 0, none⟩)) rfl l0 hM17 (fun _ => R_mv rfl) rfl (gN rfl) rfl ?_
  refine WO_pure (.pointer (some ⟨b9_0, 0, none⟩)) rfl l0 hM17 (fun _ => R_nilck rfl) rfl (gN rfl) rfl ?_
  refine WO_pure (.pointer (some ⟨b9_0, 0 + 9, none⟩)) rfl l0 hM17 (fun _ => R_fa rfl Try.underlying148 rfl rfl ty39 rfl) rfl (gN rfl) rfl ?_
  have hR19 := (hR16.extN hS17)
  refine WO_L0 hM17 (S_ldB (Foc.trans (Foc.snd kd_a8_u32 (Kd.pr (Kd.int .u64) kd_l_u8)) (Foc.snd (Kd.int .u64) kd_l_u8)) rfl ty39 hR19 (by first | rfl | simp | omega) (fun h => h)) rfl (gN rfl) rfl ?_
  rintro v18 (hV18 : kd_l_u8.V _ a0_h.2.2 _)
  refine WO_pure (.int .i64 (a0_h.2.2.length : Int)) rfl l0 hM17 (fun _ => R_len rfl hV18 Try.underlying39) rfl (gN rfl) rfl ?_
  refine WO_pure (.int .i64 (IntKind.i64.wrap (119 - (a0_h.2.2.length : Int)))) rfl l0 hM17 (fun _ => R_sub rfl rfl) rfl (gN rfl) rfl ?_
  refine WO_pure (.int .i64 (Int.tmod (IntKind.i64.wrap (119 - (a0_h.2.2.length : Int))) 64)) rfl l0 hM17 (fun _ => R_rem rfl rfl (by decide)) rfl (gN rfl) rfl ?_
  refine WO_pure (.int .u64 (hLen a0_h)) rfl l0 hM17 (fun _ => R_mv rfl) rfl (gN rfl) rfl ?_
  refine WO_pure (.int .u64 (IntKind.u64.wrap (8 * (hLen a0_h)))) rfl l0 hM17 (fun _ => R_mul rfl rfl) rfl (gN rfl) rfl ?_
  obtain ⟨hp22, h⟩ := h
  refine WO_par (al := true) [16, 24, 27] (fun c => c = b9_0 ∨ w15.heap.size ≤ c) (fun l w K => ∃ u16 u24 u27, l = [(16, u16), (24, u24), (27, u27)] ∧ Ext NX w17 K15 w K ∧ Models w K ∧ Own Kd.byte 5 w K [(toB 128)] u16 ∧ (∀ g, ob u16 = some g → w17.heap.size ≤ g) ∧ Own Kd.byte 5 w K (List.replicate (Int.tmod (IntKind.i64.wrap (119 - (a0_h.2.2.length : Int))) 64).toNat 0) u24 ∧ (∀ g, ob u24 = some g → w17.heap.size ≤ g) ∧ Own Kd.byte 5 w K (be (IntKind.u64.wrap (8 * (hLen a0_h))).toNat 8) u27 ∧ (∀ g, ob u27 = some g → w17.heap.size ≤ g) ∧ (∀ g, ob u16 = some g → ¬ (ob u24 = some g)) ∧ (∀ g, ob u16 = some g → ¬ (ob u27 = some g)) ∧ (∀ g, ob u24 = some g → ¬ (ob u27 = some g))) ?_ ?_
  · skip
    refine WT_altC ?_ ?_
    · skip
      refine WO_eff0 rfl (gN rfl) rfl (St_S0 (S_bsl (k := Kd.byte) (l := [((toB 128), (.int .u8 128))]) hM17 rfl (by intro p hp; simp only [List.mem_cons, List.not_mem_nil, or_false] at hp; subst hp; exact (byte_V (show (Kd.int .u8).wf 128 from by constructor <;> decide))) rfl Try.underlying39 ty5b rfl rfl) ?_)
      rintro v23 w23 K23 (hO23 : Own Kd.byte 5 w23 K23 [(toB 128)] v23) hS23 hM23 hg23
      refine ⟨K23, hS23, hM23, ?_⟩
      have hE23 := hE17.andN hS23
      refine WT_altC ?_ ?_
      · skip
        refine WO_eff0 rfl (gN rfl) rfl (St_S0 (S_mk (k := Kd.byte) hM23 rfl rfl Try.underlying39 ty5b rfl hp22.1 hp22.2.1 hp22.2.2.1 hp22.2.2.2) ?_)
        rintro v25 w25 K25 (hO25 : Own Kd.byte 5 w25 K25 (List.replicate (Int.tmod (IntKind.i64.wrap (119 - (a0_h.2.2.length : Int))) 64).toNat 0) v25) hS25 hM25 hg25
        refine ⟨K25, hS25, hM25, ?_⟩
        have hE25 := hE23.andN hS25
        have hR27 := ((((hR12.extN hS15).extN hS17).extN hS23).extN hS25)
        have hR28 := ((((hR13.extN hS15).extN hS17).extN hS23).extN hS25)
        have hR29 := ((((hR14.extN hS15).extN hS17).extN hS23).extN hS25)
        have hR30 := ((hR19.extN hS23).extN hS25)
        have hR31 := (hO23.extN hS25)
        refine WO_eff0 rfl (gN rfl) rfl (St_call (R_call Try.call96 rfl) ((high_c hM25 (int_V (wrap_wf _ _))).mono ?_))
        rintro _ w32 ⟨K32, v32_0, rfl, hS32, hM32, hO32_0, hg32_0⟩
        refine ⟨v32_0, rfl, ?_⟩
        refine ⟨K32, hS32, hM32, ?_⟩
        have hE32 := hE25.andN hS32
        have hR34 := (hR31.extN hS32)
        have hR35 := (hO25.extN hS32)
        exact WT_end [(16, v23), (24, v25), (27, v32_0)] K32 rfl ⟨v23, v25, v32_0, rfl, ((((Ext.refl _ _ _).andN hS23).andN hS25).andN hS32), hM32, hR34, (fun g hg => (hg23 g hg)), hR35, (fun g hg => (Nat.le_trans hS23.size (hg25 g hg))), hO32_0, (fun g hg => (Nat.le_trans (Nat.le_trans hS23.size hS25.size) (hg32_0 g hg))), (fun g hg hx => (fun g hg hx => absurd (hO23.lt _ hx) (Nat.not_lt.2 (hg25 g hg))) g hx hg), (fun g hg hx => (fun g hg hx => absurd (hR31.lt _ hx) (Nat.not_lt.2 (hg32_0 g hg))) g hx hg), (fun g hg hx => (fun g hg hx => absurd (hO25.lt _ hx) (Nat.not_lt.2 (hg32_0 g hg))) g hx hg)⟩ (by repeat (first | exact Off.refl _ _ | refine Off.updO ?_ rfl _ | refine Off.updN ?_ _ | refine Off.lay ?_ rfl)) (by repeat (first | exact trivial | refine ⟨rfl, ?_⟩))
      refine WT_altL ?_
      have hR36 := (((hR12.extN hS15).extN hS17).extN hS23)
      have hR37 := (((hR13.extN hS15).extN hS17).extN hS23)
      have hR38 := (((hR14.extN hS15).extN hS17).extN hS23)
      have hR39 := (hR19.extN hS23)
      refine WO_eff0 rfl (gN rfl) rfl (St_call (R_call Try.call96 rfl) ((high_c hM23 (int_V (wrap_wf _ _))).mono ?_))
      rintro _ w40 ⟨K40, v40_0, rfl, hS40, hM40, hO40_0, hg40_0⟩
      refine ⟨v40_0, rfl, ?_⟩
      refine ⟨K40, hS40, hM40, ?_⟩
      have hE40 := hE23.andN hS40
      refine WO_eff0 rfl (gN rfl) rfl (St_S0 (S_mk (k := Kd.byte) hM40 rfl rfl Try.underlying39 ty5b rfl hp22.1 hp22.2.1 hp22.2.2.1 hp22.2.2.2) ?_)
      rintro v42 w42 K42 (hO42 : Own Kd.byte 5 w42 K42 (List.replicate (Int.tmod (IntKind.i64.wrap (119 - (a0_h.2.2.length : Int))) 64).toNat 0) v42) hS42 hM42 hg42
      refine ⟨K42, hS42, hM42, ?_⟩
      have hE42 := hE40.andN hS42
      have hR44 := (hO23.extN hS40)
      have hR45 := ((hO23.extN hS40).extN hS42)
      have hR46 := (hO40_0.extN hS42)
      exact WT_end [(16, v23), (24, v42), (27, v40_0)] K42 rfl ⟨v23, v42, v40_0, rfl, ((((Ext.refl _ _ _).andN hS23).andN hS40).andN hS42), hM42, hR45, (fun g hg => (hg23 g hg)), hO42, (fun g hg => (Nat.le_trans (Nat.le_trans hS23.size hS40.size) (hg42 g hg))), hR46, (fun g hg => (Nat.le_trans hS23.size (hg40_0 g hg))), (fun g hg hx => (fun g hg hx => absurd (hR44.lt _ hx) (Nat.not_lt.2 (hg42 g hg))) g hx hg), (fun g hg hx => (fun g hg hx => absurd (hO23.lt _ hx) (Nat.not_lt.2 (hg40_0 g hg))) g hx hg), (fun g hg hx => absurd (hO40_0.lt _ hx) (Nat.not_lt.2 (hg42 g hg)))⟩ (by repeat (first | exact Off.refl _ _ | refine Off.updO ?_ rfl _ | refine Off.updN ?_ _ | refine Off.lay ?_ rfl)) (by repeat (first | exact trivial | refine ⟨rfl, ?_⟩))
    refine WT_altC ?_ ?_
    · skip
      refine WO_eff0 rfl (gN rfl) rfl (St_S0 (S_mk (k := Kd.byte) hM17 rfl rfl Try.underlying39 ty5b rfl hp22.1 hp22.2.1 hp22.2.2.1 hp22.2.2.2) ?_)
      rintro v47 w47 K47 (hO47 : Own Kd.byte 5 w47 K47 (List.replicate (Int.tmod (IntKind.i64.wrap (119 - (a0_h.2.2.length : Int))) 64).toNat 0) v47) hS47 hM47 hg47
      refine ⟨K47, hS47, hM47, ?_⟩
      have hE47 := hE17.andN hS47
      refine WT_altC ?_ ?_
      · skip
        refine WO_eff0 rfl (gN rfl) rfl (St_S0 (S_bsl (k := Kd.byte) (l := [((toB 128), (.int .u8 128))]) hM47 rfl (by intro p hp; simp only [List.mem_cons, List.not_mem_nil, or_false] at hp; subst hp; exact (byte_V (show (Kd.int .u8).wf 128 from by constructor <;> decide))) rfl Try.underlying39 ty5b rfl rfl) ?_)
        rintro v49 w49 K49 (hO49 : Own Kd.byte 5 w49 K49 [(toB 128)] v49) hS49 hM49 hg49
        refine ⟨K49, hS49, hM49, ?_⟩
        have hE49 := hE47.andN hS49
        have hR51 := ((((hR12.extN hS15).extN hS17).extN hS47).extN hS49)
        have hR52 := ((((hR13.extN hS15).extN hS17).extN hS47).extN hS49)
        have hR53 := ((((hR14.extN hS15).extN hS17).extN hS47).extN hS49)
        have hR54 := ((hR19.extN hS47).extN hS49)
        have hR55 := (hO47.extN hS49)
        refine WO_eff0 rfl (gN rfl) rfl (St_call (R_call Try.call96 rfl) ((high_c hM49 (int_V (wrap_wf _ _))).mono ?_))
        rintro _ w56 ⟨K56, v56_0, rfl, hS56, hM56, hO56_0, hg56_0⟩
        refine ⟨v56_0, rfl, ?_⟩
        refine ⟨K56, hS56, hM56, ?_⟩
        have hE56 := hE49.andN hS56
        have hR58 := (hO49.extN hS56)
        have hR59 := (hR55.extN hS56)
        exact WT_end [(16, v49), (24, v47), (27, v56_0)] K56 rfl ⟨v49, v47, v56_0, rfl, ((((Ext.refl _ _ _).andN hS47).andN hS49).andN hS56), hM56, hR58, (fun g hg => (Nat.le_trans hS47.size (hg49 g hg))), hR59, (fun g hg => (hg47 g hg)), hO56_0, (fun g hg => (Nat.le_trans (Nat.le_trans hS47.size hS49.size) (hg56_0 g hg))), (fun g hg hx => absurd (hO47.lt _ hx) (Nat.not_lt.2 (hg49 g hg))), (fun g hg hx => (fun g hg hx => absurd (hO49.lt _ hx) (Nat.not_lt.2 (hg56_0 g hg))) g hx hg), (fun g hg hx => (fun g hg hx => absurd (hR55.lt _ hx) (Nat.not_lt.2 (hg56_0 g hg))) g hx hg)⟩ (by repeat (first | exact Off.refl _ _ | refine Off.updO ?_ rfl _ | refine Off.updN ?_ _ | refine Off.lay ?_ rfl)) (by repeat (first | exact trivial | refine ⟨rfl, ?_⟩))
      refine WT_altL ?_
      have hR60 := (((hR12.extN hS15).extN hS17).extN hS47)
      have hR61 := (((hR13.extN hS15).extN hS17).extN hS47)
      have hR62 := (((hR14.extN hS15).extN hS17).extN hS47)
      have hR63 := (hR19.extN hS47)
      refine WO_eff0 rfl (gN rfl) rfl (St_call (R_call Try.call96 rfl) ((high_c hM47 (int_V (wrap_wf _ _))).mono ?_))
      rintro _ w64 ⟨K64, v64_0, rfl, hS64, hM64, hO64_0, hg64_0⟩
      refine ⟨v64_0, rfl, ?_⟩
      refine ⟨K64, hS64, hM64, ?_⟩
      have hE64 := hE47.andN hS64
      refine WO_eff0 rfl (gN rfl) rfl (St_S0 (S_bsl (k := Kd.byte) (l := [((toB 128), (.int .u8 128))]) hM64 rfl (by intro p hp; simp only [List.mem_cons, List.not_mem_nil, or_false] at hp; subst hp; exact (byte_V (show (Kd.int .u8).wf 128 from by constructor <;> decide))) rfl Try.underlying39 ty5b rfl rfl) ?_)
      rintro v66 w66 K66 (hO66 : Own Kd.byte 5 w66 K66 [(toB 128)] v66) hS66 hM66 hg66
      refine ⟨K66, hS66, hM66, ?_⟩
      have hE66 := hE64.andN hS66
      have hR68 := (hO47.extN hS64)
      have hR69 := ((hO47.extN hS64).extN hS66)
      have hR70 := (hO64_0.extN hS66)
      exact WT_end [(16, v66), (24, v47), (27, v64_0)] K66 rfl ⟨v66, v47, v64_0, rfl, ((((Ext.refl _ _ _).andN hS47).andN hS64).andN hS66), hM66, hO66, (fun g hg => (Nat.le_trans (Nat.le_trans hS47.size hS64.size) (hg66 g hg))), hR69, (fun g hg => (hg47 g hg)), hR70, (fun g hg => (Nat.le_trans hS47.size (hg64_0 g hg))), (fun g hg hx => absurd (hR68.lt _ hx) (Nat.not_lt.2 (hg66 g hg))), (fun g hg hx => absurd (hO64_0.lt _ hx) (Nat.not_lt.2 (hg66 g hg))), (fun g hg hx => (fun g hg hx => absurd (hO47.lt _ hx) (Nat.not_lt.2 (hg64_0 g hg))) g hx hg)⟩ (by repeat (first | exact Off.refl _ _ | refine Off.updO ?_ rfl _ | refine Off.updN ?_ _ | refine Off.lay ?_ rfl)) (by repeat (first | exact trivial | refine ⟨rfl, ?_⟩))
    refine WT_altL ?_
    have hR71 := ((hR12.extN hS15).extN hS17)
    have hR72 := ((hR13.extN hS15).extN hS17)
    have hR73 := ((hR14.extN hS15).extN hS17)
    refine WO_eff0 rfl (gN rfl) rfl (St_call (R_call Try.call96 rfl) ((high_c hM17 (int_V (wrap_wf _ _))).mono ?_))
    rintro _ w74 ⟨K74, v74_0, rfl, hS74, hM74, hO74_0, hg74_0⟩
    refine ⟨v74_0, rfl, ?_⟩
    refine ⟨K74, hS74, hM74, ?_⟩
    have hE74 := hE17.andN hS74
    refine WT_altC ?_ ?_
    · skip
      refine WO_eff0 rfl (gN rfl) rfl (St_S0 (S_bsl (k := Kd.byte) (l := [((toB 128), (.int .u8 128))]) hM74 rfl (by intro p hp; simp only [List.mem_cons, List.not_mem_nil, or_false] at hp; subst hp; exact (byte_V (show (Kd.int .u8).wf 128 from by constructor <;> decide))) rfl Try.underlying39 ty5b rfl rfl) ?_)
      rintro v76 w76 K76 (hO76 : Own Kd.byte 5 w76 K76 [(toB 128)] v76) hS76 hM76 hg76
      refine ⟨K76, hS76, hM76, ?_⟩
      have hE76 := hE74.andN hS76
      refine WO_eff0 rfl (gN rfl) rfl (St_S0 (S_mk (k := Kd.byte) hM76 rfl rfl Try.underlying39 ty5b rfl hp22.1 hp22.2.1 hp22.2.2.1 hp22.2.2.2) ?_)
      rintro v78 w78 K78 (hO78 : Own Kd.byte 5 w78 K78 (List.replicate (Int.tmod (IntKind.i64.wrap (119 - (a0_h.2.2.length : Int))) 64).toNat 0) v78) hS78 hM78 hg78
      refine ⟨K78, hS78, hM78, ?_⟩
      have hE78 := hE76.andN hS78
      have hR80 := (hO74_0.extN hS76)
      have hR81 := (hO76.extN hS78)
      have hR82 := ((hO74_0.extN hS76).extN hS78)
      exact WT_end [(16, v76), (24, v78), (27, v74_0)] K78 rfl ⟨v76, v78, v74_0, rfl, ((((Ext.refl _ _ _).andN hS74).andN hS76).andN hS78), hM78, hR81, (fun g hg => (Nat.le_trans hS74.size (hg76 g hg))), hO78, (fun g hg => (Nat.le_trans (Nat.le_trans hS74.size hS76.size) (hg78 g hg))), hR82, (fun g hg => (hg74_0 g hg)), (fun g hg hx => (fun g hg hx => absurd (hO76.lt _ hx) (Nat.not_lt.2 (hg78 g hg))) g hx hg), (fun g hg hx => absurd (hO74_0.lt _ hx) (Nat.not_lt.2 (hg76 g hg))), (fun g hg hx => absurd (hR80.lt _ hx) (Nat.not_lt.2 (hg78 g hg)))⟩ (by repeat (first | exact Off.refl _ _ | refine Off.updO ?_ rfl _ | refine Off.updN ?_ _ | refine Off.lay ?_ rfl)) (by repeat (first | exact trivial | refine ⟨rfl, ?_⟩))
    refine WT_altL ?_
    refine WO_eff0 rfl (gN rfl) rfl (St_S0 (S_mk (k := Kd.byte) hM74 rfl rfl Try.underlying39 ty5b rfl hp22.1 hp22.2.1 hp22.2.2.1 hp22.2.2.2) ?_)
    rintro v83 w83 K83 (hO83 : Own Kd.byte 5 w83 K83 (List.replicate (Int.tmod (IntKind.i64.wrap (119 - (a0_h.2.2.length : Int))) 64).toNat 0) v83) hS83 hM83 hg83
    refine ⟨K83, hS83, hM83, ?_⟩
    have hE83 := hE74.andN hS83
    refine WO_eff0 rfl (gN rfl) rfl (St_S0 (S_bsl (k := Kd.byte) (l := [((toB 128), (.int .u8 128))]) hM83 rfl (by intro p hp; simp only [List.mem_cons, List.not_mem_nil, or_false] at hp; subst hp; exact (byte_V (show (Kd.int .u8).wf 128 from by constructor <;> decide))) rfl Try.underlying39 ty5b rfl rfl) ?_)
    rintro v85 w85 K85 (hO85 : Own Kd.byte 5 w85 K85 [(toB 128)] v85) hS85 hM85 hg85
    refine ⟨K85, hS85, hM85, ?_⟩
    have hE85 := hE83.andN hS85
    have hR87 := (hO74_0.extN hS83)
    have hR88 := (hO83.extN hS85)
    have hR89 := ((hO74_0.extN hS83).extN hS85)
    exact WT_end [(16, v85), (24, v83), (27, v74_0)] K85 rfl ⟨v85, v83, v74_0, rfl, ((((Ext.refl _ _ _).andN hS74).andN hS83).andN hS85), hM85, hO85, (fun g hg => (Nat.le_trans (Nat.le_trans hS74.size hS83.size) (hg85 g hg))), hR88, (fun g hg => (Nat.le_trans hS74.size (hg83 g hg))), hR89, (fun g hg => (hg74_0 g hg)), (fun g hg hx => absurd (hO83.lt _ hx) (Nat.not_lt.2 (hg85 g hg))), (fun g hg hx => absurd (hR87.lt _ hx) (Nat.not_lt.2 (hg85 g hg))), (fun g hg hx => absurd (hO74_0.lt _ hx) (Nat.not_lt.2 (hg83 g hg)))⟩ (by repeat (first | exact Off.refl _ _ | refine Off.updO ?_ rfl _ | refine Off.updN ?_ _ | refine Off.lay ?_ rfl)) (by repeat (first | exact trivial | refine ⟨rfl, ?_⟩))
  rintro l σ21 w90 K90 ⟨u16_21, u24_21, u27_21, rfl, hX90, hM90, hL21_u16, ho21_u16, hL21_u24, ho21_u24, hL21_u27, ho21_u27, hs21_u16_u24, hs21_u16_u27, hs21_u24_u27⟩
  have hE90 := hE17.andN hX90
  have h := h hL21_u27.wf
  refine WO_eff0 rfl (gN rfl) rfl (St_S0 (S_bsl (k := kd_l_u8) (l := [([(toB 128)], u16_21), ((List.replicate (Int.tmod (IntKind.i64.wrap (119 - (a0_h.2.2.length : Int))) 64).toNat 0), u24_21), ((be (IntKind.u64.wrap (8 * (hLen a0_h))).toNat 8), u27_21)]) hM90 rfl (by intro p hp; simp only [List.mem_cons, List.not_mem_nil, or_false] at hp; rcases hp with rfl | rfl | rfl; exact hL21_u16.V; exact hL21_u24.V; exact hL21_u27.V) rfl Try.underlying38 ty39 rfl rfl) ?_)
  rintro v94 w94 K94 (hO94 : Own kd_l_u8 39 w94 K94 [[(toB 128)], (List.replicate (Int.tmod (IntKind.i64.wrap (119 - (a0_h.2.2.length : Int))) 64).toNat 0), (be (IntKind.u64.wrap (8 * (hLen a0_h))).toNat 8)] v94) hS94 hM94 hg94
  refine ⟨K94, hS94, hM94, ?_⟩
  have hE94 := hE90.andN hS94
  have hR96 := ((((hR12.extN hS15).extN hS17).extN hX90).extN hS94)
  have hR97 := ((((hR13.extN hS15).extN hS17).extN hX90).extN hS94)
  have hR98 := ((((hR14.extN hS15).extN hS17).extN hX90).extN hS94)
  have hR99 := ((hR19.extN hX90).extN hS94)
  have hR100 := (hL21_u16.extN hS94)
  have hR101 := (hL21_u24.extN hS94)
  have hR102 := (hL21_u27.extN hS94)
  obtain ⟨hp104, h⟩ := h
  refine WO_eff rfl (gN rfl) rfl (St_call (R_call Try.call71 rfl) ((HWrite_c hM94 hR99 hO94.V hp104).mono ?_))
  rintro _ w103 ⟨K103, rfl, hS103, hM103, hB103_m0⟩
  refine ⟨(.tuple #[]), rfl, ?_⟩
  refine ⟨K103, (hS103.weak (fun c hlt hx => (.inl (hx)))), hM103, ?_⟩
  have hE103 := hE94.comp hS103 (fun c hx hlt => (by subst hx; exact (fun hlt => absurd hlt (Nat.not_lt.2 (Nat.le_trans hE5.size hge9_0))) hlt))
  refine WO_nil ?_
  refine WP_seq ?_
  refine WP_region ?_
  refine WL_eff rfl rfl (St_B (S_alloc hM103 ty23) ?_)
  rintro b105 w105 (hB105 : Bx kd_a32_u8 _ _ _ _ _ (List.replicate 32 0)) hS105 hM105 hge105
  have hE105 := hE103.andN hS105
  have hR107 := (hR96.ext hS103 (fun hx => (fun he => (ne_new hge9_0 hR7.lt) he.symm) hx))
  have hR108 := (hR97.ext hS103 (fun hx => (fun he => (ne_new hge9_0 hR8.lt) he.symm) hx))
  have hR109 := (hR98.ext hS103 (fun hx => (fun he => (ne_new hge9_0 hB5_0.lt) he.symm) hx))
  refine WL_nil ?_
  refine WP_seq ?_
  refine WP_seq ?_
  refine WP_region ?_
  refine WL_pure (.pointer (some ⟨b9_0, 0, none⟩)) (R_mv rfl) rfl rfl ?_
  refine WL_pure (.pointer (some ⟨b9_0, 0, none⟩)) (R_nilck rfl) rfl rfl ?_
  refine WL_pure (.pointer (some ⟨b9_0, 0 + 0, none⟩)) (R_fa rfl Try.underlying148 rfl rfl ty146 rfl) rfl rfl ?_
  have hR111 := (hB103_m0.extN hS105)
  refine WL_L hM105 (S_ldB (Foc.fst kd_a8_u32 (Kd.pr (Kd.int .u64) kd_l_u8)) rfl ty146 hR111 (by first | rfl | simp | omega) (fun h => h)) rfl rfl ?_
  rintro v110 (hV110 : kd_a8_u32.V _ ((hWrite a0_h [[(toB 128)], (List.replicate (Int.tmod (IntKind.i64.wrap (119 - (a0_h.2.2.length : Int))) 64).toNat 0), (be (IntKind.u64.wrap (8 * (hLen a0_h))).toNat 8)]).1) _)
  refine WL_pure (.int .i64 0) (R_mv rfl) rfl rfl ?_
  refine WL_nil ?_
  refine WP_block ?_
  obtain ⟨I113, μ113, h0, h⟩ := h
  refine WP_loopE (ι := Int × (List UInt8)) [6, 7, 34, 35, 36, 37, 38, 39, 40, 41, 42, 43, 44, 45, 46] (fun s l w => ∃ K, I113 s.1 s.2 ∧ l = [(34, (.int .i64 s.1))] ∧ Ext (fun c => c = b105) w105 K103 w K ∧ Models w K ∧ (Kd.int .i64).wf s.1 ∧ Bx kd_a32_u8 w K b105 [] [] s.2) (fun s => μ113 s.1 s.2) (0, (List.replicate 32 0)) [(34, (.int .i64 0))]
    ⟨K103, h0, rfl, Ext.refl _ _ _, hM105, (show (Kd.int .i64).wf 0 from by constructor <;> decide), hB105⟩ (by repeat (first | exact trivial | refine ⟨rfl, ?_⟩)) ?_
  rintro ⟨i113, b113⟩ l σ113 w114 ⟨K114, hI, rfl, hX114, hM114, hw113_34, hL113_106⟩
  dsimp only at hI hw113_34 hL113_106
  have hE114 := hE105.comp hX114 (fun c hx hlt => (by subst hx; exact (fun hlt => absurd hlt (Nat.not_lt.2 (Nat.le_trans hE103.size hge105))) hlt))
  have h := h i113 b113 hI hw113_34 hL113_106.wf
  refine WP_seq ?_
  refine WP_region ?_
  refine WL_pure (.bool (decide (i113 < 8))) (R_lss rfl rfl) rfl rfl ?_
  refine WL_nil ?_
  refine WP_seq ?_
  refine WP_cond (decide (i113 < 8)) rfl (fun hc115 => ?_) (fun hc115 => ?_)
  · have hd115 : i113 < 8 := dec_t hc115
    have h := h.1 hd115
    refine WP_skip ?_
    refine WP_seq ?_
    refine WP_block ?_
    refine WP_seq ?_
    refine WP_region ?_
    refine WL_pure (.int .i64 i113) (R_mv rfl) rfl rfl ?_
    obtain ⟨hp117, h⟩ := h
    refine WL_V (S_ixv rfl (hV110.mono hX114.le) rfl Try.underlying146 ty123 hp117.1 hp117.2) rfl rfl ?_
    rintro v116 (hV116 : (Kd.int .u32).V _ (ix ((hWrite a0_h [[(toB 128)], (List.replicate (Int.tmod (IntKind.i64.wrap (119 - (a0_h.2.2.length : Int))) 64).toNat 0), (be (IntKind.u64.wrap (8 * (hLen a0_h))).toNat 8)]).1) i113) _)
    obtain rfl := int_form hV116
    refine WL_pure (.int .i64 i113) (R_as rfl) rfl rfl ?_
    refine WL_pure (.int .u32 (ix ((hWrite a0_h [[(toB 128)], (List.replicate (Int.tmod (IntKind.i64.wrap (119 - (a0_h.2.2.length : Int))) 64).toNat 0), (be (IntKind.u64.wrap (8 * (hLen a0_h))).toNat 8)]).1) i113)) (R_as rfl) rfl rfl ?_
    refine WL_nil ?_
    refine WP_ordD (K := K114) (fun c => c = b105 ∨ w114.heap.size ≤ c) [.o 0 2, .o 1 2, .o 2 2, .o 3 2, .o 4 2, .o 5 0, .o 6 2, .o 7 1] (by kernel_rfl) (by kernel_rfl) hM114 ?_
    rintro w118 hS118 hM118
    have hE118 := hE114.andN hS118
    refine WO_pure (.int .i64 i113) rfl l0 hM118 (fun _ => R_mv rfl) rfl (gN rfl) rfl ?_
    refine WO_pure (.int .i64 (IntKind.i64.wrap (4 * i113))) rfl l0 hM118 (fun _ => R_mul rfl rfl) rfl (gN rfl) rfl ?_
    obtain ⟨hp120, h⟩ := h
    refine WO_pure (.slice (some ⟨b105, 0 + (IntKind.i64.wrap (4 * i113)).toNat * Kd.byte.sz, none⟩) (32 - (IntKind.i64.wrap (4 * i113)).toNat) (32 - (IntKind.i64.wrap (4 * i113)).toNat)) rfl l0 hM118 (fun _ => S_sla rfl Try.underlying23 ty5b (LowIs.yes rfl) HighIs.no hp120.1 hp120.2.1 hp120.2.2.1 hp120.2.2.2) rfl (gN rfl) rfl ?_
    refine WO_pure (.int .u32 (ix ((hWrite a0_h [[(toB 128)], (List.replicate (Int.tmod (IntKind.i64.wrap (119 - (a0_h.2.2.length : Int))) 64).toNat 0), (be (IntKind.u64.wrap (8 * (hLen a0_h))).toNat 8)]).1) i113)) rfl l0 hM118 (fun _ => R_mv rfl) rfl (gN rfl) rfl ?_
    refine WO_pure (.int .u64 (ix ((hWrite a0_h [[(toB 128)], (List.replicate (Int.tmod (IntKind.i64.wrap (119 - (a0_h.2.2.length : Int))) 64).toNat 0), (be (IntKind.u64.wrap (8 * (hLen a0_h))).toNat 8)]).1) i113)) rfl l0 hM118 (fun _ => R_cvn rfl Try.underlying123 Try.underlying65 (hV116).wf (by decide) (by decide)) rfl (gN rfl) rfl ?_
    have hR121 := ((hR96.ext hS103 (fun hx => (fun he => (ne_new hge9_0 hR7.lt) he.symm) hx)).extN hS105)
    have hR122 := ((hR121.ext hX114 (fun hx => (fun he => (ne_new hge105 hR107.lt) he.symm) hx)).extN hS118)
    have hR123 := ((hR97.ext hS103 (fun hx => (fun he => (ne_new hge9_0 hR8.lt) he.symm) hx)).extN hS105)
    have hR124 := ((hR123.ext hX114 (fun hx => (fun he => (ne_new hge105 hR108.lt) he.symm) hx)).extN hS118)
    have hR125 := ((hR98.ext hS103 (fun hx => (fun he => (ne_new hge9_0 hB5_0.lt) he.symm) hx)).extN hS105)
    have hR126 := ((hR125.ext hX114 (fun hx => (fun he => (ne_new hge105 hR109.lt) he.symm) hx)).extN hS118)
    have hR127 := ((hR111.ext hX114 (fun hx => (fun he => (ne_new hge105 hB103_m0.lt) he.symm) hx)).extN hS118)
    have hR128 := ((hR100.ext hS103 (fun g hg hx => (fun g hg hx => hR100.box hR99 (hg.trans (congrArg some hx))) g hg hx)).extN hS105)
    have hR129 := ((hR128.ext hX114 (fun g hg hx => (fun g hg hx => hR128.box hB105 (hg.trans (congrArg some hx))) g hg hx)).extN hS118)
    have hR130 := ((hR101.ext hS103 (fun g hg hx => (fun g hg hx => hR101.box hR99 (hg.trans (congrArg some hx))) g hg hx)).extN hS105)
    have hR131 := ((hR130.ext hX114 (fun g hg hx => (fun g hg hx => hR130.box hB105 (hg.trans (congrArg some hx))) g hg hx)).extN hS118)
    have hR132 := ((hR102.ext hS103 (fun g hg hx => (fun g hg hx => hR102.box hR99 (hg.trans (congrArg some hx))) g hg hx)).extN hS105)
    have hR133 := ((hR132.ext hX114 (fun g hg hx => (fun g hg hx => hR132.box hB105 (hg.trans (congrArg some hx))) g hg hx)).extN hS118)
    have hR134 := ((hO94.ext hS103 (fun g hg hx => (fun g hg hx => hO94.box hR99 (hg.trans (congrArg some hx))) g hg hx)).extN hS105)
    have hR135 := ((hR134.ext hX114 (fun g hg hx => (fun g hg hx => hR134.box hB105 (hg.trans (congrArg some hx))) g hg hx)).extN hS118)
    have hR136 := (hL113_106.extN hS118)
    refine WO_eff0 rfl (gN rfl) rfl (St_call (R_call Try.call96 rfl) ((high_c hM118 (int_V (wf_sub (hV116).wf (by decide) (by decide)))).mono ?_))
    rintro _ w137 ⟨K137, v137_0, rfl, hS137, hM137, hO137_0, hg137_0⟩
    refine ⟨v137_0, rfl, ?_⟩
    refine ⟨K137, hS137, hM137, ?_⟩
    have hE137 := hE118.andN hS137
    have h := h hO137_0.wf
    obtain ⟨hp140, h⟩ := h
    refine WO_V rfl l0 hM137 (S_slL rfl hO137_0.V Try.underlying39 ty5b rfl hp140.1 hp140.2) rfl (gN rfl) rfl ?_
    rintro v139 (hV139 : kd_l_u8.V _ ((be (ix ((hWrite a0_h [[(toB 128)], (List.replicate (Int.tmod (IntKind.i64.wrap (119 - (a0_h.2.2.length : Int))) 64).toNat 0), (be (IntKind.u64.wrap (8 * (hLen a0_h))).toNat 8)]).1) i113).toNat 8).drop (4 : Int).toNat) _)
    have hR143 := (hR136.extN hS137)
    refine WO_eff rfl (gN rfl) rfl (St_St1 (S_copyB (i := (IntKind.i64.wrap (4 * i113)).toNat) hM137 rfl rfl (Cells.ofV hM137 hV139) Try.underlying39 ty5b hR143 (by first | rfl | simp) (by omega)) ?_)
    rintro w142 (hB142 : Bx kd_a32_u8 _ _ b105 [] [] (b113.take (IntKind.i64.wrap (4 * i113)).toNat ++ ((be (ix ((hWrite a0_h [[(toB 128)], (List.replicate (Int.tmod (IntKind.i64.wrap (119 - (a0_h.2.2.length : Int))) 64).toNat 0), (be (IntKind.u64.wrap (8 * (hLen a0_h))).toNat 8)]).1) i113).toNat 8).drop (4 : Int).toNat).take (32 - (IntKind.i64.wrap (4 * i113)).toNat) ++ b113.drop ((IntKind.i64.wrap (4 * i113)).toNat + min ((be (ix ((hWrite a0_h [[(toB 128)], (List.replicate (Int.tmod (IntKind.i64.wrap (119 - (a0_h.2.2.length : Int))) 64).toNat 0), (be (IntKind.u64.wrap (8 * (hLen a0_h))).toNat 8)]).1) i113).toNat 8).drop (4 : Int).toNat).length (32 - (IntKind.i64.wrap (4 * i113)).toNat)))) hS142 hM142
    refine ⟨K137, (hS142.weak (fun c hlt hx => (.inl (hx)))), hM142, ?_⟩
    have hE142 := hE137.comp hS142 (fun c hx hlt => (by subst hx; exact (fun hlt => absurd hlt (Nat.not_lt.2 (Nat.le_trans hE103.size hge105))) hlt))
    refine WO_nil ?_
    refine WP_region ?_
    refine WL_pure (.int .i64 (IntKind.i64.wrap (i113 + 1))) (R_add rfl rfl) rfl rfl ?_
    refine WL_pure (.int .i64 (IntKind.i64.wrap (i113 + 1))) (R_mv rfl) rfl rfl ?_
    refine WL_nil ?_
    refine BackQ.mk ((IntKind.i64.wrap (i113 + 1)), (b113.take (IntKind.i64.wrap (4 * i113)).toNat ++ ((be (ix ((hWrite a0_h [[(toB 128)], (List.replicate (Int.tmod (IntKind.i64.wrap (119 - (a0_h.2.2.length : Int))) 64).toNat 0), (be (IntKind.u64.wrap (8 * (hLen a0_h))).toNat 8)]).1) i113).toNat 8).drop (4 : Int).toNat).take (32 - (IntKind.i64.wrap (4 * i113)).toNat) ++ b113.drop ((IntKind.i64.wrap (4 * i113)).toNat + min ((be (ix ((hWrite a0_h [[(toB 128)], (List.replicate (Int.tmod (IntKind.i64.wrap (119 - (a0_h.2.2.length : Int))) 64).toNat 0), (be (IntKind.u64.wrap (8 * (hLen a0_h))).toNat 8)]).1) i113).toNat 8).drop (4 : Int).toNat).length (32 - (IntKind.i64.wrap (4 * i113)).toNat)))) [(34, (.int .i64 (IntKind.i64.wrap (i113 + 1))))] ?_ ?_ ?_ ?_
    rotate_left
    · exact h.2
    · repeat (first | exact Off.lay0 rfl | refine Off.updO ?_ rfl _ | refine Off.updN ?_ _ | refine Off.lay ?_ rfl)
    · repeat (first | exact trivial | refine ⟨rfl, ?_⟩)
    exact ⟨K137, h.1, rfl, (((((Ext.refl _ _ _).comp hX114 (fun c hx hlt => (hx))).andN hS118).andN hS137).comp hS142 (fun c hx hlt => (hx))), hM142, (wrap_wf _ _), hB142⟩
  · have hd115 : ¬ (i113 < 8) := dec_f hc115
    have h := h.2 hd115
    refine WP_exit ?_
    refine WP_seq ?_
    refine WP_region ?_
    refine WL_L hM114 (S_ldB (Foc.id _) rfl ty23 hL113_106 (by first | rfl | simp | omega) (fun h => h)) rfl rfl ?_
    rintro v144 (hV144 : kd_a32_u8.V _ b113 _)
    have hR147 := ((hR97.ext hS103 (fun hx => (fun he => (ne_new hge9_0 hR8.lt) he.symm) hx)).extN hS105)
    have hR148 := (hR147.ext hX114 (fun hx => (fun he => (ne_new hge105 hR108.lt) he.symm) hx))
    refine WL_eff rfl rfl (St_St (S_stB (Foc.id _) hM114 rfl rfl hV144 ty23 hR148 (by first | rfl | simp | omega)) ?_)
    rintro w146 (hB146 : Bx kd_a32_u8 _ _ b2 [] [] b113) hS146 hM146
    have hE146 := hE114.comp hS146 (fun c hx hlt => (by subst hx; exact (fun hlt => absurd hlt (Nat.not_lt.2 (Nat.le_trans hE0.size hge2))) hlt))
    refine WL_nil ?_
    refine WP_ret ?_
    refine endS_ret hR (resE_B rfl rfl ty23 hB146) ?_
    rintro v149 hV149
    exact ⟨K114, v149, b113, rfl, h, hE146, hM146, hV149⟩
theorem HSum_c {w0 : World} {K0 : Ghost} {a0_h_b : Nat} {a0_h_pre a0_h_post : List Value} {a0_h : ((List Int) × (Int × (List UInt8)))} (hM0 : Models w0 K0) (h_a0_h_B : Bx kd_Ssha_Hash w0 K0 a0_h_b a0_h_pre a0_h_post a0_h) (hp : a0_h.2.2.length < 64) : Calls Try.prog 72 #[(.pointer (some ⟨a0_h_b, a0_h_pre.length, none⟩))] w0 (fun e w' => ∃ (K' : Ghost) (r0 : Value), e = .returned r0 ∧ Ext NX w0 K0 w' K' ∧ Models w' K' ∧ kd_a32_u8.V K' (hSum a0_h) r0) := by
  refine (HSum_walk hM0 h_a0_h_B (HSum_ok h_a0_h_B.wf hp)).mono ?_
  rintro _ w' ⟨K', r0, o0, rfl, rfl, hF⟩
  exact ⟨K', r0, rfl, hF⟩
abbrev BookR := BookE 90
def ShaSum_VC (a0_parts : (List (List UInt8))) (Q : (List UInt8) → Prop) : Prop :=
  ((1 + a0_parts.length) * 24 ≤ 140737488355328 ∧ ((kd_Ssha_Hash.z).2.2 ++ a0_parts.flatten).length ≤ 140737488355328) ∧ (((hWrite (kd_Ssha_Hash.z) a0_parts).2.2.length < 64) ∧ ((kd_a32_u8.wf (hSum (hWrite (kd_Ssha_Hash.z) a0_parts))) → (Q (hSum (hWrite (kd_Ssha_Hash.z) a0_parts)))))
theorem ShaSum_ok {a0_parts : (List (List UInt8))} (w_0 : kd_l_l_u8.wf a0_parts) (hp : (1 + a0_parts.length) * 24 ≤ 140737488355328 ∧ a0_parts.flatten.length ≤ 140737488355328) : ShaSum_VC a0_parts (fun o0 => o0 = (sha256 a0_parts)) := by
  unfold ShaSum_VC
  exact ⟨⟨hp.1, hp.2⟩, eat_rest _ _ _, fun _ => rfl⟩

theorem ShaSum_walk {w0 : World} {K0 : Ghost} {a0_parts_v : Value} {a0_parts : (List (List UInt8))} {Q : (List UInt8) → Prop} (hM0 : Models w0 K0) (h_a0_parts : kd_l_l_u8.V K0 a0_parts a0_parts_v) (h : ShaSum_VC a0_parts Q) : Calls Try.prog 49 #[a0_parts_v] w0 (fun e w' => ∃ (K' : Ghost) (r0 : Value) (o0 : (List UInt8)), e = .returned r0 ∧ Q o0 ∧ Ext NX w0 K0 w' K' ∧ Models w' K' ∧ kd_a32_u8.V K' o0 r0) := by
  unfold ShaSum_VC at h
  have hE0 : Ext NX w0 K0 w0 K0 := Ext.refl _ _ _
  refine calls_gen fun R hR => ?_
  refine calls_env (args := [a0_parts_v]) Try.func49 rfl (Nat.le_of_ble_eq_true rfl) ?_
  refine WP_seq ?_
  refine WP_region ?_
  refine WL_eff rfl rfl (St_B (S_alloc hM0 ty23) ?_)
  rintro b2 w2 (hB2 : Bx kd_a32_u8 _ _ _ _ _ (List.replicate 32 0)) hS2 hM2 hge2
  have hE2 := hE0.andN hS2
  refine WL_nil ?_
  refine WP_seq ?_
  refine WP_region ?_
  refine WL_eff rfl rfl (St_call (R_call Try.call70 rfl) ((New_c hM2 ).mono ?_))
  rintro _ w4 ⟨K4, b4_0, rfl, hS4, hM4, hB4_0, hge4_0⟩
  refine ⟨(.pointer (some ⟨b4_0, 0, none⟩)), rfl, ?_⟩
  have hE4 := hE2.andN hS4
  refine WL_pure (.pointer (some ⟨b4_0, 0, none⟩)) (R_as rfl) rfl rfl ?_
  refine WL_nil ?_
  refine WP_seq ?_
  refine WP_region ?_
  refine WL_pure (.pointer (some ⟨b4_0, 0, none⟩)) (R_mv rfl) rfl rfl ?_
  refine WL_pure a0_parts_v (R_mv rfl) rfl rfl ?_
  have hR6 := (hB2.extN hS4)
  obtain ⟨hp8, h⟩ := h
  refine WL_eff rfl rfl (St_call (R_call Try.call71 rfl) ((HWrite_c hM4 hB4_0 (h_a0_parts.mono (hS2.le.trans hS4.le)) hp8).mono ?_))
  rintro _ w7 ⟨K7, rfl, hS7, hM7, hB7_m0⟩
  refine ⟨(.tuple #[]), rfl, ?_⟩
  have hE7 := hE4.comp hS7 (fun c hx hlt => (by subst hx; exact (fun hlt => absurd hlt (Nat.not_lt.2 (Nat.le_trans hE2.size hge4_0))) hlt))
  refine WL_nil ?_
  refine WP_seq ?_
  refine WP_region ?_
  refine WL_pure (.pointer (some ⟨b4_0, 0, none⟩)) (R_mv rfl) rfl rfl ?_
  have hR9 := (hR6.ext hS7 (fun hx => (fun he => (ne_new hge4_0 hB2.lt) he.symm) hx))
  obtain ⟨hp11, h⟩ := h
  refine WL_eff rfl rfl (St_call (R_call Try.call72 rfl) ((HSum_c hM7 hB7_m0 hp11).mono ?_))
  rintro _ w10 ⟨K10, v10_0, rfl, hS10, hM10, hV10_0⟩
  refine ⟨v10_0, rfl, ?_⟩
  have hE10 := hE7.andN hS10
  have h := h hV10_0.wf
  have hR14 := (hR9.extN hS10)
  refine WL_eff rfl rfl (St_St (S_stB (Foc.id _) hM10 rfl rfl hV10_0 ty23 hR14 (by first | rfl | simp | omega)) ?_)
  rintro w13 (hB13 : Bx kd_a32_u8 _ _ b2 [] [] (hSum (hWrite (kd_Ssha_Hash.z) a0_parts))) hS13 hM13
  have hE13 := hE10.comp hS13 (fun c hx hlt => (by subst hx; exact (fun hlt => absurd hlt (Nat.not_lt.2 (Nat.le_trans hE0.size hge2))) hlt))
  refine WL_nil ?_
  refine WP_ret ?_
  refine endS_ret hR (resE_B rfl rfl ty23 hB13) ?_
  rintro v15 hV15
  exact ⟨K10, v15, (hSum (hWrite (kd_Ssha_Hash.z) a0_parts)), rfl, h, hE13, hM13, hV15⟩
theorem ShaSum_c {w0 : World} {K0 : Ghost} {a0_parts_v : Value} {a0_parts : (List (List UInt8))} (hM0 : Models w0 K0) (h_a0_parts : kd_l_l_u8.V K0 a0_parts a0_parts_v) (hp : (1 + a0_parts.length) * 24 ≤ 140737488355328 ∧ a0_parts.flatten.length ≤ 140737488355328) : Calls Try.prog 49 #[a0_parts_v] w0 (fun e w' => ∃ (K' : Ghost) (r0 : Value), e = .returned r0 ∧ Ext NX w0 K0 w' K' ∧ Models w' K' ∧ kd_a32_u8.V K' (sha256 a0_parts) r0) := by
  refine (ShaSum_walk hM0 h_a0_parts (ShaSum_ok h_a0_parts.wf hp)).mono ?_
  rintro _ w' ⟨K', r0, o0, rfl, rfl, hF⟩
  exact ⟨K', r0, rfl, hF⟩
end Go.Proofs.Ytfbhiilolpamaaa
