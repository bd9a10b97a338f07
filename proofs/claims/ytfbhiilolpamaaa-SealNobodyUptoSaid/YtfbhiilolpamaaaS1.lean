/- Each function that stands here: what its call must answer for (_VC), that it does (_ok), the walk through its code (_walk), its contract (_c). -/
import Derived.Test.YtfbhiilolpamaaaP6
import Derived.Test.YtfbhiilolpamaaaChecked
set_option linter.unusedVariables false
set_option maxRecDepth 100000
set_option maxHeartbeats 2000000
namespace Go.Proofs.Ytfbhiilolpamaaa
open Go Go.RowKit Go.Inc
abbrev kd_l_u8 : Kd (List UInt8) := (Kd.sl Kd.byte)
theorem ty5b : TyOk Try.prog 5 Kd.byte 1 := ⟨⟨Try.t5, _, Try.type5, rfl, rfl, rfl, rfl, rfl⟩, ⟨_, Try.underlying5, rfl⟩⟩
def Clone_VC (a0_s : (List UInt8)) (Q : (List UInt8) → Prop) : Prop :=
  ∀ (r3 : Bool), (r3 = true → a0_s = []) → (((r3 = true) → Q ([] : List UInt8)) ∧ ((r3 = false) → ((([] : List UInt8).length + a0_s.length) * 1 ≤ 140737488355328) ∧ (Q a0_s)))
theorem Clone_ok {a0_s : (List UInt8)} (w_0 : kd_l_u8.wf a0_s) (hp : a0_s.length ≤ 140737488355328) : Clone_VC a0_s (fun o0 => o0 = a0_s) := by
  unfold Clone_VC
  intro r hr
  refine ⟨fun h => ?_, fun _ => ⟨?_, rfl⟩⟩
  · rw [hr h]
  · simpa using hp

theorem Clone_walk {w0 : World} {K0 : Ghost} {a0_s_v : Value} {a0_s : (List UInt8)} {Q : (List UInt8) → Prop} (hM0 : Models w0 K0) (h_a0_s : kd_l_u8.V K0 a0_s a0_s_v) (h : Clone_VC a0_s Q) : Calls Try.prog 46 #[a0_s_v] w0 (fun e w' => ∃ (K' : Ghost) (r0 : Value) (o0 : (List UInt8)), e = .returned r0 ∧ Q o0 ∧ Ext NX w0 K0 w' K' ∧ Models w' K' ∧ Own Kd.byte 5 w' K' o0 r0 ∧ (∀ g, ob r0 = some g → w0.heap.size ≤ g)) := by
  unfold Clone_VC at h
  have hE0 : Ext NX w0 K0 w0 K0 := Ext.refl _ _ _
  refine calls_gen fun R hR => ?_
  refine calls_env (args := [a0_s_v]) Try.func46 rfl (Nat.le_of_ble_eq_true rfl) ?_
  refine WP_seq ?_
  refine WP_region ?_
  have hR2 : Own Kd.byte 5 w0 K0 ([] : List UInt8) (.slice none 0 0) := Own.nil
  refine WL_pure (.slice none 0 0) (R_as rfl) rfl rfl ?_
  refine WL_nil ?_
  refine WP_seq ?_
  refine WP_seq ?_
  refine WP_region ?_
  refine WL_pure a0_s_v (R_mv rfl) rfl rfl ?_
  refine WL_bq (S_slnil rfl h_a0_s rfl Try.underlying39) rfl rfl ?_
  rintro r3 hn3
  have h := h r3 hn3
  refine WL_nil ?_
  refine WP_cond r3 rfl (fun hc4 => ?_) (fun hc4 => ?_)
  · have hd4 : r3 = true := hc4
    have h := h.1 hd4
    refine WP_seq ?_
    refine WP_region ?_
    have hR5 : Own Kd.byte 5 w0 K0 ([] : List UInt8) (.slice none 0 0) := Own.nil
    refine WL_pure (.slice none 0 0) (R_as rfl) rfl rfl ?_
    refine WL_nil ?_
    refine WP_ret ?_
    exact endR_ret hR (v := (.slice none 0 0)) (resE_1 rfl rfl) ⟨K0, (.slice none 0 0), ([] : List UInt8), rfl, h, hE0, hM0, hR5, (fun g hg => nilS hg)⟩
  · have hd4 : r3 = false := hc4
    have h := h.2 hd4
    refine WP_skip ?_
    refine WP_seq ?_
    refine WP_region ?_
    refine WL_eff rfl rfl (St_S0 (S_bsl (k := Kd.byte) (l := []) hM0 rfl (by intro p hp; cases hp) rfl Try.underlying39 ty5b rfl rfl) ?_)
    rintro v6 w6 K6 (hO6 : Own Kd.byte 5 w6 K6 ([] : List UInt8) v6) hS6 hM6 hg6
    have hE6 := hE0.andN hS6
    refine WL_pure a0_s_v (R_mv rfl) rfl rfl ?_
    obtain ⟨hp9, h⟩ := h
    refine WL_eff rfl rfl (St_S (S_app hM6 rfl hO6 rfl (h_a0_s.mono hS6.le) Try.underlying39 ty5b rfl hp9) ?_)
    rintro v8 w8 K8 hO8 hS8 hM8 hob8
    have hE8 := hE6.comp hS8 (fun c hx hlt => (fun g hg hlt => absurd hlt (Nat.not_lt.2 ((fun g hg => Nat.le_trans hE0.size (hg6 g hg)) g hg))) c hx hlt)
    have hR10 := (hR2.extN hS6)
    have hR11 := (hR10.ext hS8 (fun g hg hx => (fun g hg hx => (fun g hg hx => absurd (hR2.lt _ hx) (Nat.not_lt.2 (hg6 g hg))) g hx hg) g hg hx))
    rw [List.nil_append] at hO8
    have hf8 : ∀ g, ob v8 = some g → w0.heap.size ≤ g := fun g hg => by rcases hob8 with hq | hq <;> rw [hq] at hg; exact (fun g hg => Nat.le_trans hE0.size (hg6 g hg)) g hg; cases hg; exact hE6.size
    refine WL_pure v8 (R_as rfl) rfl rfl ?_
    refine WL_nil ?_
    refine WP_ret ?_
    exact endR_ret hR (v := v8) (resE_1 rfl rfl) ⟨K8, v8, a0_s, rfl, h, hE8, hM8, hO8, hf8⟩
theorem Clone_c {w0 : World} {K0 : Ghost} {a0_s_v : Value} {a0_s : (List UInt8)} (hM0 : Models w0 K0) (h_a0_s : kd_l_u8.V K0 a0_s a0_s_v) (hp : a0_s.length ≤ 140737488355328) : Calls Try.prog 46 #[a0_s_v] w0 (fun e w' => ∃ (K' : Ghost) (r0 : Value), e = .returned r0 ∧ Ext NX w0 K0 w' K' ∧ Models w' K' ∧ Own Kd.byte 5 w' K' a0_s r0 ∧ (∀ g, ob r0 = some g → w0.heap.size ≤ g)) := by
  refine (Clone_walk hM0 h_a0_s (Clone_ok h_a0_s.wf hp)).mono ?_
  rintro _ w' ⟨K', r0, o0, rfl, rfl, hF⟩
  exact ⟨K', r0, rfl, hF⟩
def Equal_VC (a0_a : (List UInt8)) (a1_b : (List UInt8)) (Q : Bool → Prop) : Prop :=
  Q (decide (a0_a = a1_b))
theorem Equal_ok {a0_a : (List UInt8)} {a1_b : (List UInt8)} (w_0 : kd_l_u8.wf a0_a) (w_1 : kd_l_u8.wf a1_b) : Equal_VC a0_a a1_b (fun o0 => o0 = decide (a0_a = a1_b)) := by
  exact rfl

theorem Equal_walk {w0 : World} {K0 : Ghost} {a0_a_v : Value} {a0_a : (List UInt8)} {a1_b_v : Value} {a1_b : (List UInt8)} {Q : Bool → Prop} (hM0 : Models w0 K0) (h_a0_a : kd_l_u8.V K0 a0_a a0_a_v) (h_a1_b : kd_l_u8.V K0 a1_b a1_b_v) (h : Equal_VC a0_a a1_b Q) : Calls Try.prog 48 #[a0_a_v, a1_b_v] w0 (fun e w' => ∃ (K' : Ghost) (r0 : Value) (o0 : Bool), e = .returned r0 ∧ Q o0 ∧ Ext NX w0 K0 w' K' ∧ Models w' K' ∧ Kd.bool.V K' o0 r0) := by
  unfold Equal_VC at h
  have hE0 : Ext NX w0 K0 w0 K0 := Ext.refl _ _ _
  refine calls_gen fun R hR => ?_
  refine calls_env (args := [a0_a_v, a1_b_v]) Try.func48 rfl (Nat.le_of_ble_eq_true rfl) ?_
  refine WP_seq ?_
  refine WP_region ?_
  refine WL_pure (.bool false) (R_as rfl) rfl rfl ?_
  refine WL_nil ?_
  refine WP_seq ?_
  refine WP_region ?_
  refine WL_pure a0_a_v (R_mv rfl) rfl rfl ?_
  refine WL_held hM0 (S_b2s rfl h_a0_a Try.underlying39 Try.underlying9 Try.underlying5) rfl rfl ?_
  refine WL_pure a1_b_v (R_mv rfl) rfl rfl ?_
  refine WL_held hM0 (S_b2s rfl h_a1_b Try.underlying39 Try.underlying9 Try.underlying5) rfl rfl ?_
  refine WL_pure (.bool (decide (a0_a = a1_b))) (R_seql rfl rfl Try.underlying9) rfl rfl ?_
  refine WL_pure (.bool (decide (a0_a = a1_b))) (R_as rfl) rfl rfl ?_
  refine WL_nil ?_
  refine WP_ret ?_
  exact endR_ret hR (v := (.bool (decide (a0_a = a1_b)))) (resE_1 rfl rfl) ⟨K0, (.bool (decide (a0_a = a1_b))), (decide (a0_a = a1_b)), rfl, h, hE0, hM0, bool_V⟩
theorem Equal_c {w0 : World} {K0 : Ghost} {a0_a_v : Value} {a0_a : (List UInt8)} {a1_b_v : Value} {a1_b : (List UInt8)} (hM0 : Models w0 K0) (h_a0_a : kd_l_u8.V K0 a0_a a0_a_v) (h_a1_b : kd_l_u8.V K0 a1_b a1_b_v) : Calls Try.prog 48 #[a0_a_v, a1_b_v] w0 (fun e w' => ∃ (K' : Ghost) (r0 : Value), e = .returned r0 ∧ Ext NX w0 K0 w' K' ∧ Models w' K' ∧ Kd.bool.V K' (decide (a0_a = a1_b)) r0) := by
  refine (Equal_walk hM0 h_a0_a h_a1_b (Equal_ok h_a0_a.wf h_a1_b.wf)).mono ?_
  rintro _ w' ⟨K', r0, o0, rfl, rfl, hF⟩
  exact ⟨K', r0, rfl, hF⟩
abbrev kd_a8_u32 : Kd (List Int) := (Kd.arr 8 (Kd.int .u32))
abbrev kd_Ssha_Hash : Kd ((List Int) × (Int × (List UInt8))) := (Kd.pr kd_a8_u32 (Kd.pr (Kd.int .u64) kd_l_u8))
theorem ty148 : TyOk Try.prog 148 kd_Ssha_Hash 64 := ⟨⟨Try.t148, _, Try.type148, rfl, rfl, rfl, rfl, rfl⟩, ⟨_, Try.underlying148, rfl⟩⟩
theorem fs148 {fs : Array Field} (h : Try.prog.underlying 148 = some (.struct fs)) : ∀ f ∈ fs.toList, ∃ i, Try.prog.info? f.type = some i := by
  have h2 := (Try.underlying148).symm.trans h
  cases h2
  intro f hf
  simp only [List.mem_cons, List.not_mem_nil, or_false] at hf
  rcases hf with rfl | rfl | rfl
  · exact ⟨_, Try.type146⟩
  · exact ⟨_, Try.type65⟩
  · exact ⟨_, Try.type39⟩
def New_VC  (Q : ((List Int) × (Int × (List UInt8))) → Prop) : Prop :=
  Q ((List.replicate 8 (0 : Int)), 0, ([] : List UInt8))
theorem New_ok  : New_VC  (fun o0 => o0 = (kd_Ssha_Hash.z)) := by
  exact rfl

theorem New_walk {w0 : World} {K0 : Ghost}  {Q : ((List Int) × (Int × (List UInt8))) → Prop} (hM0 : Models w0 K0)  (h : New_VC  Q) : Calls Try.prog 70 #[] w0 (fun e w' => ∃ (K' : Ghost) (r0 : Nat) (o0 : ((List Int) × (Int × (List UInt8)))), e = .returned (.pointer (some ⟨r0, 0, none⟩)) ∧ Q o0 ∧ Ext NX w0 K0 w' K' ∧ Models w' K' ∧ Bx kd_Ssha_Hash w' K' r0 [] [] o0 ∧ w0.heap.size ≤ r0) := by
  unfold New_VC at h
  have hE0 : Ext NX w0 K0 w0 K0 := Ext.refl _ _ _
  refine calls_gen fun R hR => ?_
  refine calls_env (args := []) Try.func70 rfl (Nat.le_of_ble_eq_true rfl) ?_
  refine WP_seq ?_
  refine WP_region ?_
  refine WL_pure (.pointer none) (R_as rfl) rfl rfl ?_
  refine WL_nil ?_
  refine WP_seq ?_
  refine WP_region ?_
  refine WL_V (S_bld (K := K0) (vs := []) (Z := ((List.replicate 8 (0 : Int)), 0, ([] : List UInt8))) ty148 rfl Try.underlying148 (fs148 Try.underlying148) rfl Parts.nil) rfl rfl ?_
  rintro v1 (hV1 : kd_Ssha_Hash.V _ ((List.replicate 8 (0 : Int)), 0, ([] : List UInt8)) _)
  refine WL_eff rfl rfl (St_B (S_box hM0 rfl hV1) ?_)
  rintro b3 w3 (hB3 : Bx kd_Ssha_Hash _ _ _ _ _ ((List.replicate 8 (0 : Int)), 0, ([] : List UInt8))) hS3 hM3 hge3
  have hE3 := hE0.andN hS3
  refine WL_pure (.pointer (some ⟨b3, 0, none⟩)) (R_as rfl) rfl rfl ?_
  refine WL_nil ?_
  refine WP_ret ?_
  exact endR_ret hR (v := (.pointer (some ⟨b3, 0, none⟩))) (resE_1 rfl rfl) ⟨K0, b3, ((List.replicate 8 (0 : Int)), 0, ([] : List UInt8)), rfl, h, hE3, hM3, hB3, (Nat.le_trans hE0.size hge3)⟩
theorem New_c {w0 : World} {K0 : Ghost}  (hM0 : Models w0 K0)  : Calls Try.prog 70 #[] w0 (fun e w' => ∃ (K' : Ghost) (r0 : Nat), e = .returned (.pointer (some ⟨r0, 0, none⟩)) ∧ Ext NX w0 K0 w' K' ∧ Models w' K' ∧ Bx kd_Ssha_Hash w' K' r0 [] [] (kd_Ssha_Hash.z) ∧ w0.heap.size ≤ r0) := by
  refine (New_walk hM0  (New_ok)).mono ?_
  rintro _ w' ⟨K', r0, o0, rfl, rfl, hF⟩
  exact ⟨K', r0, rfl, hF⟩
def strc256_52136 : List UInt8 := [0, 1, 2, 2, 3, 3, 3, 3, 4, 4, 4, 4, 4, 4, 4, 4, 5, 5, 5, 5, 5, 5, 5, 5, 5, 5, 5, 5, 5, 5, 5, 5, 6, 6, 6, 6, 6, 6, 6, 6, 6, 6, 6, 6, 6, 6, 6, 6, 6, 6, 6, 6, 6, 6, 6, 6, 6, 6, 6, 6, 6, 6, 6, 6, 7, 7, 7, 7, 7, 7, 7, 7, 7, 7, 7, 7, 7, 7, 7, 7, 7, 7, 7, 7, 7, 7, 7, 7, 7, 7, 7, 7, 7, 7, 7, 7, 7, 7, 7, 7, 7, 7, 7, 7, 7, 7, 7, 7, 7, 7, 7, 7, 7, 7, 7, 7, 7, 7, 7, 7, 7, 7, 7, 7, 7, 7, 7, 7, 8, 8, 8, 8, 8, 8, 8, 8, 8, 8, 8, 8, 8, 8, 8, 8, 8, 8, 8, 8, 8, 8, 8, 8, 8, 8, 8, 8, 8, 8, 8, 8, 8, 8, 8, 8, 8, 8, 8, 8, 8, 8, 8, 8, 8, 8, 8, 8, 8, 8, 8, 8, 8, 8, 8, 8, 8, 8, 8, 8, 8, 8, 8, 8, 8, 8, 8, 8, 8, 8, 8, 8, 8, 8, 8, 8, 8, 8, 8, 8, 8, 8, 8, 8, 8, 8, 8, 8, 8, 8, 8, 8, 8, 8, 8, 8, 8, 8, 8, 8, 8, 8, 8, 8, 8, 8, 8, 8, 8, 8, 8, 8, 8, 8, 8, 8, 8, 8, 8, 8, 8, 8, 8, 8, 8, 8, 8, 8]
def Len64_VC (a0_x : Int) (Q : Int → Prop) : Prop :=
  ((4294967296 ≤ a0_x) → ((65536 ≤ (shr .u64 a0_x 32)) → ((256 ≤ (shr .u64 (shr .u64 a0_x 32) 16)) → (0 ≤ (IntKind.u8.wrap (shr .u64 (shr .u64 (shr .u64 a0_x 32) 16) 8)) ∧ (IntKind.u8.wrap (shr .u64 (shr .u64 (shr .u64 a0_x 32) 16) 8)) < (strc256_52136.length : Int)) ∧ (Q (IntKind.i64.wrap ((IntKind.i64.wrap ((IntKind.i64.wrap (32 + 16)) + 8)) + (bI (ix strc256_52136 (IntKind.u8.wrap (shr .u64 (shr .u64 (shr .u64 a0_x 32) 16) 8)))))))) ∧ ((¬ (256 ≤ (shr .u64 (shr .u64 a0_x 32) 16))) → (0 ≤ (IntKind.u8.wrap (shr .u64 (shr .u64 a0_x 32) 16)) ∧ (IntKind.u8.wrap (shr .u64 (shr .u64 a0_x 32) 16)) < (strc256_52136.length : Int)) ∧ (Q (IntKind.i64.wrap ((IntKind.i64.wrap (32 + 16)) + (bI (ix strc256_52136 (IntKind.u8.wrap (shr .u64 (shr .u64 a0_x 32) 16))))))))) ∧ ((¬ (65536 ≤ (shr .u64 a0_x 32))) → ((256 ≤ (shr .u64 a0_x 32)) → (0 ≤ (IntKind.u8.wrap (shr .u64 (shr .u64 a0_x 32) 8)) ∧ (IntKind.u8.wrap (shr .u64 (shr .u64 a0_x 32) 8)) < (strc256_52136.length : Int)) ∧ (Q (IntKind.i64.wrap ((IntKind.i64.wrap (32 + 8)) + (bI (ix strc256_52136 (IntKind.u8.wrap (shr .u64 (shr .u64 a0_x 32) 8)))))))) ∧ ((¬ (256 ≤ (shr .u64 a0_x 32))) → (0 ≤ (IntKind.u8.wrap (shr .u64 a0_x 32)) ∧ (IntKind.u8.wrap (shr .u64 a0_x 32)) < (strc256_52136.length : Int)) ∧ (Q (IntKind.i64.wrap (32 + (bI (ix strc256_52136 (IntKind.u8.wrap (shr .u64 a0_x 32)))))))))) ∧ ((¬ (4294967296 ≤ a0_x)) → ((65536 ≤ a0_x) → ((256 ≤ (shr .u64 a0_x 16)) → (0 ≤ (IntKind.u8.wrap (shr .u64 (shr .u64 a0_x 16) 8)) ∧ (IntKind.u8.wrap (shr .u64 (shr .u64 a0_x 16) 8)) < (strc256_52136.length : Int)) ∧ (Q (IntKind.i64.wrap ((IntKind.i64.wrap ((IntKind.i64.wrap (0 + 16)) + 8)) + (bI (ix strc256_52136 (IntKind.u8.wrap (shr .u64 (shr .u64 a0_x 16) 8)))))))) ∧ ((¬ (256 ≤ (shr .u64 a0_x 16))) → (0 ≤ (IntKind.u8.wrap (shr .u64 a0_x 16)) ∧ (IntKind.u8.wrap (shr .u64 a0_x 16)) < (strc256_52136.length : Int)) ∧ (Q (IntKind.i64.wrap ((IntKind.i64.wrap (0 + 16)) + (bI (ix strc256_52136 (IntKind.u8.wrap (shr .u64 a0_x 16))))))))) ∧ ((¬ (65536 ≤ a0_x)) → ((256 ≤ a0_x) → (0 ≤ (IntKind.u8.wrap (shr .u64 a0_x 8)) ∧ (IntKind.u8.wrap (shr .u64 a0_x 8)) < (strc256_52136.length : Int)) ∧ (Q (IntKind.i64.wrap ((IntKind.i64.wrap (0 + 8)) + (bI (ix strc256_52136 (IntKind.u8.wrap (shr .u64 a0_x 8)))))))) ∧ ((¬ (256 ≤ a0_x)) → (0 ≤ (IntKind.u8.wrap a0_x) ∧ (IntKind.u8.wrap a0_x) < (strc256_52136.length : Int)) ∧ (Q (IntKind.i64.wrap (0 + (bI (ix strc256_52136 (IntKind.u8.wrap a0_x)))))))))
theorem Len64_ok {a0_x : Int} (w_0 : (Kd.int .u64).wf a0_x) : Len64_VC a0_x (fun o0 => o0 = (blen a0_x.toNat : Int)) := by
  obtain ⟨n, rfl⟩ := Int.eq_ofNat_of_zero_le w_0.1
  have hn : n < 18446744073709551616 := by
    have h : ((n : Int)) ≤ (18446744073709551615 : Int) := w_0.2
    omega
  have ht : strc256_52136 = blen8 := by decide +kernel
  have s32 : ∀ m : Nat, shr .u64 (m : Int) 32 = ((m / 4294967296 : Nat) : Int) := fun m => shr_nat (k := 32) (by decide)
  have s16 : ∀ m : Nat, shr .u64 (m : Int) 16 = ((m / 65536 : Nat) : Int) := fun m => shr_nat (k := 16) (by decide)
  have s8 : ∀ m : Nat, shr .u64 (m : Int) 8 = ((m / 256 : Nat) : Int) := fun m => shr_nat (k := 8) (by decide)
  have b32 : ∀ m : Nat, 4294967296 ≤ m → blen m = 32 + blen (m / 4294967296) := fun m h => blen_shift 32 h
  have b16 : ∀ m : Nat, 65536 ≤ m → blen m = 16 + blen (m / 65536) := fun m h => blen_shift 16 h
  have b8 : ∀ m : Nat, 256 ≤ m → blen m = 8 + blen (m / 256) := fun m h => blen_shift 8 h
  unfold Len64_VC
  simp only [s32, s16, s8, Int.toNat_natCast]
  refine ⟨fun h1 => ⟨fun h2 => ⟨fun h3 => ?_, fun h3 => ?_⟩, fun h2 => ⟨fun h3 => ?_, fun h3 => ?_⟩⟩, fun h1 => ⟨fun h2 => ⟨fun h3 => ?_, fun h3 => ?_⟩, fun h2 => ⟨fun h3 => ?_, fun h3 => ?_⟩⟩⟩
  · exact len_leaf (k := 56) (by omega) (by omega) (by rw [b32 n (by omega), b16 _ (by omega), b8 _ (by omega)]; omega) (by decide) ht
  · exact len_leaf (k := 48) (by omega) (by omega) (by rw [b32 n (by omega), b16 _ (by omega)]; omega) (by decide) ht
  · exact len_leaf (k := 40) (by omega) (by omega) (by rw [b32 n (by omega), b8 _ (by omega)]; omega) (by decide) ht
  · exact len_leaf (k := 32) (by omega) (by omega) (by rw [b32 n (by omega)]) (by decide) ht
  · exact len_leaf (k := 24) (by omega) (by omega) (by rw [b16 n (by omega), b8 _ (by omega)]; omega) (by decide) ht
  · exact len_leaf (k := 16) (by omega) (by omega) (by rw [b16 n (by omega)]) (by decide) ht
  · exact len_leaf (k := 8) (by omega) (by omega) (by rw [b8 n (by omega)]) (by decide) ht
  · exact len_leaf (k := 0) (by omega) (by omega) (by omega) (by decide) ht

theorem Len64_walk {w0 : World} {K0 : Ghost} {a0_x_v : Value} {a0_x : Int} {Q : Int → Prop} (hM0 : Models w0 K0) (h_a0_x : (Kd.int .u64).V K0 a0_x a0_x_v) (h : Len64_VC a0_x Q) : Calls Try.prog 85 #[a0_x_v] w0 (fun e w' => ∃ (K' : Ghost) (r0 : Value) (o0 : Int), e = .returned r0 ∧ Q o0 ∧ Ext NX w0 K0 w' K' ∧ Models w' K' ∧ (Kd.int .i64).V K' o0 r0) := by
  unfold Len64_VC at h
  obtain rfl := int_form h_a0_x
  have hE0 : Ext NX w0 K0 w0 K0 := Ext.refl _ _ _
  refine calls_gen fun R hR => ?_
  refine calls_env (args := [(.int .u64 a0_x)]) Try.func85 rfl (Nat.le_of_ble_eq_true rfl) ?_
  refine WP_seq ?_
  refine WP_region ?_
  refine WL_pure (.int .i64 0) (R_as rfl) rfl rfl ?_
  refine WL_nil ?_
  refine WP_seq ?_
  refine WP_seq ?_
  refine WP_region ?_
  refine WL_pure (.int .u64 a0_x) (R_mv rfl) rfl rfl ?_
  refine WL_pure (.bool (decide (4294967296 ≤ a0_x))) (R_geq rfl rfl) rfl rfl ?_
  refine WL_nil ?_
  refine WP_cond (decide (4294967296 ≤ a0_x)) rfl (fun hc1 => ?_) (fun hc1 => ?_)
  · have hd1 : 4294967296 ≤ a0_x := dec_t hc1
    have h := h.1 hd1
    refine WP_seq ?_
    refine WP_region ?_
    refine WL_pure (.int .u64 a0_x) (R_mv rfl) rfl rfl ?_
    refine WL_pure (.int .u64 (shr .u64 a0_x 32)) (R_shr rfl rfl (by decide)) rfl rfl ?_
    refine WL_pure (.int .u64 (shr .u64 a0_x 32)) (R_as rfl) rfl rfl ?_
    refine WL_nil ?_
    refine WP_region ?_
    refine WL_pure (.int .i64 32) (R_as rfl) rfl rfl ?_
    refine WL_nil ?_
    refine WP_seq ?_
    refine WP_seq ?_
    refine WP_region ?_
    refine WL_pure (.int .u64 (shr .u64 a0_x 32)) (R_mv rfl) rfl rfl ?_
    refine WL_pure (.bool (decide (65536 ≤ (shr .u64 a0_x 32)))) (R_geq rfl rfl) rfl rfl ?_
    refine WL_nil ?_
    refine WP_cond (decide (65536 ≤ (shr .u64 a0_x 32))) rfl (fun hc2 => ?_) (fun hc2 => ?_)
    · have hd2 : 65536 ≤ (shr .u64 a0_x 32) := dec_t hc2
      have h := h.1 hd2
      refine WP_seq ?_
      refine WP_region ?_
      refine WL_pure (.int .u64 (shr .u64 a0_x 32)) (R_mv rfl) rfl rfl ?_
      refine WL_pure (.int .u64 (shr .u64 (shr .u64 a0_x 32) 16)) (R_shr rfl rfl (by decide)) rfl rfl ?_
      refine WL_pure (.int .u64 (shr .u64 (shr .u64 a0_x 32) 16)) (R_as rfl) rfl rfl ?_
      refine WL_nil ?_
      refine WP_region ?_
      refine WL_pure (.int .i64 32) (R_mv rfl) rfl rfl ?_
      refine WL_pure (.int .i64 (IntKind.i64.wrap (32 + 16))) (R_add rfl rfl) rfl rfl ?_
      refine WL_pure (.int .i64 (IntKind.i64.wrap (32 + 16))) (R_as rfl) rfl rfl ?_
      refine WL_nil ?_
      refine WP_seq ?_
      refine WP_seq ?_
      refine WP_region ?_
      refine WL_pure (.int .u64 (shr .u64 (shr .u64 a0_x 32) 16)) (R_mv rfl) rfl rfl ?_
      refine WL_pure (.bool (decide (256 ≤ (shr .u64 (shr .u64 a0_x 32) 16)))) (R_geq rfl rfl) rfl rfl ?_
      refine WL_nil ?_
      refine WP_cond (decide (256 ≤ (shr .u64 (shr .u64 a0_x 32) 16))) rfl (fun hc3 => ?_) (fun hc3 => ?_)
      · have hd3 : 256 ≤ (shr .u64 (shr .u64 a0_x 32) 16) := dec_t hc3
        have h := h.1 hd3
        refine WP_seq ?_
        refine WP_region ?_
        refine WL_pure (.int .u64 (shr .u64 (shr .u64 a0_x 32) 16)) (R_mv rfl) rfl rfl ?_
        refine WL_pure (.int .u64 (shr .u64 (shr .u64 (shr .u64 a0_x 32) 16) 8)) (R_shr rfl rfl (by decide)) rfl rfl ?_
        refine WL_pure (.int .u64 (shr .u64 (shr .u64 (shr .u64 a0_x 32) 16) 8)) (R_as rfl) rfl rfl ?_
        refine WL_nil ?_
        refine WP_region ?_
        refine WL_pure (.int .i64 (IntKind.i64.wrap (32 + 16))) (R_mv rfl) rfl rfl ?_
        refine WL_pure (.int .i64 (IntKind.i64.wrap ((IntKind.i64.wrap (32 + 16)) + 8))) (R_add rfl rfl) rfl rfl ?_
        refine WL_pure (.int .i64 (IntKind.i64.wrap ((IntKind.i64.wrap (32 + 16)) + 8))) (R_as rfl) rfl rfl ?_
        refine WL_nil ?_
        refine WP_seq ?_
        refine WP_region ?_
        refine WL_pure (.int .i64 (IntKind.i64.wrap ((IntKind.i64.wrap (32 + 16)) + 8))) (R_mv rfl) rfl rfl ?_
        refine WL_pure (.int .u64 (shr .u64 (shr .u64 (shr .u64 a0_x 32) 16) 8)) (R_mv rfl) rfl rfl ?_
        refine WL_pure (.int .u8 (IntKind.u8.wrap (shr .u64 (shr .u64 (shr .u64 a0_x 32) 16) 8))) (R_cvi rfl Try.underlying65 Try.underlying5) rfl rfl ?_
        obtain ⟨hp5, h⟩ := h
        refine WL_pure (.int .u8 (bI (ix strc256_52136 (IntKind.u8.wrap (shr .u64 (shr .u64 (shr .u64 a0_x 32) 16) 8))))) (R_ixs rfl rfl Try.underlying9 hp5.1 hp5.2) rfl rfl ?_
        refine WL_pure (.int .i64 (bI (ix strc256_52136 (IntKind.u8.wrap (shr .u64 (shr .u64 (shr .u64 a0_x 32) 16) 8))))) (R_cvn rfl Try.underlying5 Try.underlying3 (bI_wf _) (by decide) (by decide)) rfl rfl ?_
        refine WL_pure (.int .i64 (IntKind.i64.wrap ((IntKind.i64.wrap ((IntKind.i64.wrap (32 + 16)) + 8)) + (bI (ix strc256_52136 (IntKind.u8.wrap (shr .u64 (shr .u64 (shr .u64 a0_x 32) 16) 8))))))) (R_add rfl rfl) rfl rfl ?_
        refine WL_pure (.int .i64 (IntKind.i64.wrap ((IntKind.i64.wrap ((IntKind.i64.wrap (32 + 16)) + 8)) + (bI (ix strc256_52136 (IntKind.u8.wrap (shr .u64 (shr .u64 (shr .u64 a0_x 32) 16) 8))))))) (R_as rfl) rfl rfl ?_
        refine WL_nil ?_
        refine WP_ret ?_
        exact endR_ret hR (v := (.int .i64 (IntKind.i64.wrap ((IntKind.i64.wrap ((IntKind.i64.wrap (32 + 16)) + 8)) + (bI (ix strc256_52136 (IntKind.u8.wrap (shr .u64 (shr .u64 (shr .u64 a0_x 32) 16) 8)))))))) (resE_1 rfl rfl) ⟨K0, (.int .i64 (IntKind.i64.wrap ((IntKind.i64.wrap ((IntKind.i64.wrap (32 + 16)) + 8)) + (bI (ix strc256_52136 (IntKind.u8.wrap (shr .u64 (shr .u64 (shr .u64 a0_x 32) 16) 8))))))), (IntKind.i64.wrap ((IntKind.i64.wrap ((IntKind.i64.wrap (32 + 16)) + 8)) + (bI (ix strc256_52136 (IntKind.u8.wrap (shr .u64 (shr .u64 (shr .u64 a0_x 32) 16) 8)))))), rfl, h, hE0, hM0, (int_V (wrap_wf _ _))⟩
      · have hd3 : ¬ (256 ≤ (shr .u64 (shr .u64 a0_x 32) 16)) := dec_f hc3
        have h := h.2 hd3
        refine WP_skip ?_
        refine WP_seq ?_
        refine WP_region ?_
        refine WL_pure (.int .i64 (IntKind.i64.wrap (32 + 16))) (R_mv rfl) rfl rfl ?_
        refine WL_pure (.int .u64 (shr .u64 (shr .u64 a0_x 32) 16)) (R_mv rfl) rfl rfl ?_
        refine WL_pure (.int .u8 (IntKind.u8.wrap (shr .u64 (shr .u64 a0_x 32) 16))) (R_cvi rfl Try.underlying65 Try.underlying5) rfl rfl ?_
        obtain ⟨hp7, h⟩ := h
        refine WL_pure (.int .u8 (bI (ix strc256_52136 (IntKind.u8.wrap (shr .u64 (shr .u64 a0_x 32) 16))))) (R_ixs rfl rfl Try.underlying9 hp7.1 hp7.2) rfl rfl ?_
        refine WL_pure (.int .i64 (bI (ix strc256_52136 (IntKind.u8.wrap (shr .u64 (shr .u64 a0_x 32) 16))))) (R_cvn rfl Try.underlying5 Try.underlying3 (bI_wf _) (by decide) (by decide)) rfl rfl ?_
        refine WL_pure (.int .i64 (IntKind.i64.wrap ((IntKind.i64.wrap (32 + 16)) + (bI (ix strc256_52136 (IntKind.u8.wrap (shr .u64 (shr .u64 a0_x 32) 16))))))) (R_add rfl rfl) rfl rfl ?_
        refine WL_pure (.int .i64 (IntKind.i64.wrap ((IntKind.i64.wrap (32 + 16)) + (bI (ix strc256_52136 (IntKind.u8.wrap (shr .u64 (shr .u64 a0_x 32) 16))))))) (R_as rfl) rfl rfl ?_
        refine WL_nil ?_
        refine WP_ret ?_
        exact endR_ret hR (v := (.int .i64 (IntKind.i64.wrap ((IntKind.i64.wrap (32 + 16)) + (bI (ix strc256_52136 (IntKind.u8.wrap (shr .u64 (shr .u64 a0_x 32) 16)))))))) (resE_1 rfl rfl) ⟨K0, (.int .i64 (IntKind.i64.wrap ((IntKind.i64.wrap (32 + 16)) + (bI (ix strc256_52136 (IntKind.u8.wrap (shr .u64 (shr .u64 a0_x 32) 16))))))), (IntKind.i64.wrap ((IntKind.i64.wrap (32 + 16)) + (bI (ix strc256_52136 (IntKind.u8.wrap (shr .u64 (shr .u64 a0_x 32) 16)))))), rfl, h, hE0, hM0, (int_V (wrap_wf _ _))⟩
    · have hd2 : ¬ (65536 ≤ (shr .u64 a0_x 32)) := dec_f hc2
      have h := h.2 hd2
      refine WP_skip ?_
      refine WP_seq ?_
      refine WP_seq ?_
      refine WP_region ?_
      refine WL_pure (.int .u64 (shr .u64 a0_x 32)) (R_mv rfl) rfl rfl ?_
      refine WL_pure (.bool (decide (256 ≤ (shr .u64 a0_x 32)))) (R_geq rfl rfl) rfl rfl ?_
      refine WL_nil ?_
      refine WP_cond (decide (256 ≤ (shr .u64 a0_x 32))) rfl (fun hc8 => ?_) (fun hc8 => ?_)
      · have hd8 : 256 ≤ (shr .u64 a0_x 32) := dec_t hc8
        have h := h.1 hd8
        refine WP_seq ?_
        refine WP_region ?_
        refine WL_pure (.int .u64 (shr .u64 a0_x 32)) (R_mv rfl) rfl rfl ?_
        refine WL_pure (.int .u64 (shr .u64 (shr .u64 a0_x 32) 8)) (R_shr rfl rfl (by decide)) rfl rfl ?_
        refine WL_pure (.int .u64 (shr .u64 (shr .u64 a0_x 32) 8)) (R_as rfl) rfl rfl ?_
        refine WL_nil ?_
        refine WP_region ?_
        refine WL_pure (.int .i64 32) (R_mv rfl) rfl rfl ?_
        refine WL_pure (.int .i64 (IntKind.i64.wrap (32 + 8))) (R_add rfl rfl) rfl rfl ?_
        refine WL_pure (.int .i64 (IntKind.i64.wrap (32 + 8))) (R_as rfl) rfl rfl ?_
        refine WL_nil ?_
        refine WP_seq ?_
        refine WP_region ?_
        refine WL_pure (.int .i64 (IntKind.i64.wrap (32 + 8))) (R_mv rfl) rfl rfl ?_
        refine WL_pure (.int .u64 (shr .u64 (shr .u64 a0_x 32) 8)) (R_mv rfl) rfl rfl ?_
        refine WL_pure (.int .u8 (IntKind.u8.wrap (shr .u64 (shr .u64 a0_x 32) 8))) (R_cvi rfl Try.underlying65 Try.underlying5) rfl rfl ?_
        obtain ⟨hp10, h⟩ := h
        refine WL_pure (.int .u8 (bI (ix strc256_52136 (IntKind.u8.wrap (shr .u64 (shr .u64 a0_x 32) 8))))) (R_ixs rfl rfl Try.underlying9 hp10.1 hp10.2) rfl rfl ?_
        refine WL_pure (.int .i64 (bI (ix strc256_52136 (IntKind.u8.wrap (shr .u64 (shr .u64 a0_x 32) 8))))) (R_cvn rfl Try.underlying5 Try.underlying3 (bI_wf _) (by decide) (by decide)) rfl rfl ?_
        refine WL_pure (.int .i64 (IntKind.i64.wrap ((IntKind.i64.wrap (32 + 8)) + (bI (ix strc256_52136 (IntKind.u8.wrap (shr .u64 (shr .u64 a0_x 32) 8))))))) (R_add rfl rfl) rfl rfl ?_
        refine WL_pure (.int .i64 (IntKind.i64.wrap ((IntKind.i64.wrap (32 + 8)) + (bI (ix strc256_52136 (IntKind.u8.wrap (shr .u64 (shr .u64 a0_x 32) 8))))))) (R_as rfl) rfl rfl ?_
        refine WL_nil ?_
        refine WP_ret ?_
        exact endR_ret hR (v := (.int .i64 (IntKind.i64.wrap ((IntKind.i64.wrap (32 + 8)) + (bI (ix strc256_52136 (IntKind.u8.wrap (shr .u64 (shr .u64 a0_x 32) 8)))))))) (resE_1 rfl rfl) ⟨K0, (.int .i64 (IntKind.i64.wrap ((IntKind.i64.wrap (32 + 8)) + (bI (ix strc256_52136 (IntKind.u8.wrap (shr .u64 (shr .u64 a0_x 32) 8))))))), (IntKind.i64.wrap ((IntKind.i64.wrap (32 + 8)) + (bI (ix strc256_52136 (IntKind.u8.wrap (shr .u64 (shr .u64 a0_x 32) 8)))))), rfl, h, hE0, hM0, (int_V (wrap_wf _ _))⟩
      · have hd8 : ¬ (256 ≤ (shr .u64 a0_x 32)) := dec_f hc8
        have h := h.2 hd8
        refine WP_skip ?_
        refine WP_seq ?_
        refine WP_region ?_
        refine WL_pure (.int .i64 32) (R_mv rfl) rfl rfl ?_
        refine WL_pure (.int .u64 (shr .u64 a0_x 32)) (R_mv rfl) rfl rfl ?_
        refine WL_pure (.int .u8 (IntKind.u8.wrap (shr .u64 a0_x 32))) (R_cvi rfl Try.underlying65 Try.underlying5) rfl rfl ?_
        obtain ⟨hp12, h⟩ := h
        refine WL_pure (.int .u8 (bI (ix strc256_52136 (IntKind.u8.wrap (shr .u64 a0_x 32))))) (R_ixs rfl rfl Try.underlying9 hp12.1 hp12.2) rfl rfl ?_
        refine WL_pure (.int .i64 (bI (ix strc256_52136 (IntKind.u8.wrap (shr .u64 a0_x 32))))) (R_cvn rfl Try.underlying5 Try.underlying3 (bI_wf _) (by decide) (by decide)) rfl rfl ?_
        refine WL_pure (.int .i64 (IntKind.i64.wrap (32 + (bI (ix strc256_52136 (IntKind.u8.wrap (shr .u64 a0_x 32))))))) (R_add rfl rfl) rfl rfl ?_
        refine WL_pure (.int .i64 (IntKind.i64.wrap (32 + (bI (ix strc256_52136 (IntKind.u8.wrap (shr .u64 a0_x 32))))))) (R_as rfl) rfl rfl ?_
        refine WL_nil ?_
        refine WP_ret ?_
        exact endR_ret hR (v := (.int .i64 (IntKind.i64.wrap (32 + (bI (ix strc256_52136 (IntKind.u8.wrap (shr .u64 a0_x 32)))))))) (resE_1 rfl rfl) ⟨K0, (.int .i64 (IntKind.i64.wrap (32 + (bI (ix strc256_52136 (IntKind.u8.wrap (shr .u64 a0_x 32))))))), (IntKind.i64.wrap (32 + (bI (ix strc256_52136 (IntKind.u8.wrap (shr .u64 a0_x 32)))))), rfl, h, hE0, hM0, (int_V (wrap_wf _ _))⟩
  · have hd1 : ¬ (4294967296 ≤ a0_x) := dec_f hc1
    have h := h.2 hd1
    refine WP_skip ?_
    refine WP_seq ?_
    refine WP_seq ?_
    refine WP_region ?_
    refine WL_pure (.int .u64 a0_x) (R_mv rfl) rfl rfl ?_
    refine WL_pure (.bool (decide (65536 ≤ a0_x))) (R_geq rfl rfl) rfl rfl ?_
    refine WL_nil ?_
    refine WP_cond (decide (65536 ≤ a0_x)) rfl (fun hc13 => ?_) (fun hc13 => ?_)
    · have hd13 : 65536 ≤ a0_x := dec_t hc13
      have h := h.1 hd13
      refine WP_seq ?_
      refine WP_region ?_
      refine WL_pure (.int .u64 a0_x) (R_mv rfl) rfl rfl ?_
      refine WL_pure (.int .u64 (shr .u64 a0_x 16)) (R_shr rfl rfl (by decide)) rfl rfl ?_
      refine WL_pure (.int .u64 (shr .u64 a0_x 16)) (R_as rfl) rfl rfl ?_
      refine WL_nil ?_
      refine WP_region ?_
      refine WL_pure (.int .i64 0) (R_mv rfl) rfl rfl ?_
      refine WL_pure (.int .i64 (IntKind.i64.wrap (0 + 16))) (R_add rfl rfl) rfl rfl ?_
      refine WL_pure (.int .i64 (IntKind.i64.wrap (0 + 16))) (R_as rfl) rfl rfl ?_
      refine WL_nil ?_
      refine WP_seq ?_
      refine WP_seq ?_
      refine WP_region ?_
      refine WL_pure (.int .u64 (shr .u64 a0_x 16)) (R_mv rfl) rfl rfl ?_
      refine WL_pure (.bool (decide (256 ≤ (shr .u64 a0_x 16)))) (R_geq rfl rfl) rfl rfl ?_
      refine WL_nil ?_
      refine WP_cond (decide (256 ≤ (shr .u64 a0_x 16))) rfl (fun hc14 => ?_) (fun hc14 => ?_)
      · have hd14 : 256 ≤ (shr .u64 a0_x 16) := dec_t hc14
        have h := h.1 hd14
        refine WP_seq ?_
        refine WP_region ?_
        refine WL_pure (.int .u64 (shr .u64 a0_x 16)) (R_mv rfl) rfl rfl ?_
        refine WL_pure (.int .u64 (shr .u64 (shr .u64 a0_x 16) 8)) (R_shr rfl rfl (by decide)) rfl rfl ?_
        refine WL_pure (.int .u64 (shr .u64 (shr .u64 a0_x 16) 8)) (R_as rfl) rfl rfl ?_
        refine WL_nil ?_
        refine WP_region ?_
        refine WL_pure (.int .i64 (IntKind.i64.wrap (0 + 16))) (R_mv rfl) rfl rfl ?_
        refine WL_pure (.int .i64 (IntKind.i64.wrap ((IntKind.i64.wrap (0 + 16)) + 8))) (R_add rfl rfl) rfl rfl ?_
        refine WL_pure (.int .i64 (IntKind.i64.wrap ((IntKind.i64.wrap (0 + 16)) + 8))) (R_as rfl) rfl rfl ?_
        refine WL_nil ?_
        refine WP_seq ?_
        refine WP_region ?_
        refine WL_pure (.int .i64 (IntKind.i64.wrap ((IntKind.i64.wrap (0 + 16)) + 8))) (R_mv rfl) rfl rfl ?_
        refine WL_pure (.int .u64 (shr .u64 (shr .u64 a0_x 16) 8)) (R_mv rfl) rfl rfl ?_
        refine WL_pure (.int .u8 (IntKind.u8.wrap (shr .u64 (shr .u64 a0_x 16) 8))) (R_cvi rfl Try.underlying65 Try.underlying5) rfl rfl ?_
        obtain ⟨hp16, h⟩ := h
        refine WL_pure (.int .u8 (bI (ix strc256_52136 (IntKind.u8.wrap (shr .u64 (shr .u64 a0_x 16) 8))))) (R_ixs rfl rfl Try.underlying9 hp16.1 hp16.2) rfl rfl ?_
        refine WL_pure (.int .i64 (bI (ix strc256_52136 (IntKind.u8.wrap (shr .u64 (shr .u64 a0_x 16) 8))))) (R_cvn rfl Try.underlying5 Try.underlying3 (bI_wf _) (by decide) (by decide)) rfl rfl ?_
        refine WL_pure (.int .i64 (IntKind.i64.wrap ((IntKind.i64.wrap ((IntKind.i64.wrap (0 + 16)) + 8)) + (bI (ix strc256_52136 (IntKind.u8.wrap (shr .u64 (shr .u64 a0_x 16) 8))))))) (R_add rfl rfl) rfl rfl ?_
        refine WL_pure (.int .i64 (IntKind.i64.wrap ((IntKind.i64.wrap ((IntKind.i64.wrap (0 + 16)) + 8)) + (bI (ix strc256_52136 (IntKind.u8.wrap (shr .u64 (shr .u64 a0_x 16) 8))))))) (R_as rfl) rfl rfl ?_
        refine WL_nil ?_
        refine WP_ret ?_
        exact endR_ret hR (v := (.int .i64 (IntKind.i64.wrap ((IntKind.i64.wrap ((IntKind.i64.wrap (0 + 16)) + 8)) + (bI (ix strc256_52136 (IntKind.u8.wrap (shr .u64 (shr .u64 a0_x 16) 8)))))))) (resE_1 rfl rfl) ⟨K0, (.int .i64 (IntKind.i64.wrap ((IntKind.i64.wrap ((IntKind.i64.wrap (0 + 16)) + 8)) + (bI (ix strc256_52136 (IntKind.u8.wrap (shr .u64 (shr .u64 a0_x 16) 8))))))), (IntKind.i64.wrap ((IntKind.i64.wrap ((IntKind.i64.wrap (0 + 16)) + 8)) + (bI (ix strc256_52136 (IntKind.u8.wrap (shr .u64 (shr .u64 a0_x 16) 8)))))), rfl, h, hE0, hM0, (int_V (wrap_wf _ _))⟩
      · have hd14 : ¬ (256 ≤ (shr .u64 a0_x 16)) := dec_f hc14
        have h := h.2 hd14
        refine WP_skip ?_
        refine WP_seq ?_
        refine WP_region ?_
        refine WL_pure (.int .i64 (IntKind.i64.wrap (0 + 16))) (R_mv rfl) rfl rfl ?_
        refine WL_pure (.int .u64 (shr .u64 a0_x 16)) (R_mv rfl) rfl rfl ?_
        refine WL_pure (.int .u8 (IntKind.u8.wrap (shr .u64 a0_x 16))) (R_cvi rfl Try.underlying65 Try.underlying5) rfl rfl ?_
        obtain ⟨hp18, h⟩ := h
        refine WL_pure (.int .u8 (bI (ix strc256_52136 (IntKind.u8.wrap (shr .u64 a0_x 16))))) (R_ixs rfl rfl Try.underlying9 hp18.1 hp18.2) rfl rfl ?_
        refine WL_pure (.int .i64 (bI (ix strc256_52136 (IntKind.u8.wrap (shr .u64 a0_x 16))))) (R_cvn rfl Try.underlying5 Try.underlying3 (bI_wf _) (by decide) (by decide)) rfl rfl ?_
        refine WL_pure (.int .i64 (IntKind.i64.wrap ((IntKind.i64.wrap (0 + 16)) + (bI (ix strc256_52136 (IntKind.u8.wrap (shr .u64 a0_x 16))))))) (R_add rfl rfl) rfl rfl ?_
        refine WL_pure (.int .i64 (IntKind.i64.wrap ((IntKind.i64.wrap (0 + 16)) + (bI (ix strc256_52136 (IntKind.u8.wrap (shr .u64 a0_x 16))))))) (R_as rfl) rfl rfl ?_
        refine WL_nil ?_
        refine WP_ret ?_
        exact endR_ret hR (v := (.int .i64 (IntKind.i64.wrap ((IntKind.i64.wrap (0 + 16)) + (bI (ix strc256_52136 (IntKind.u8.wrap (shr .u64 a0_x 16)))))))) (resE_1 rfl rfl) ⟨K0, (.int .i64 (IntKind.i64.wrap ((IntKind.i64.wrap (0 + 16)) + (bI (ix strc256_52136 (IntKind.u8.wrap (shr .u64 a0_x 16))))))), (IntKind.i64.wrap ((IntKind.i64.wrap (0 + 16)) + (bI (ix strc256_52136 (IntKind.u8.wrap (shr .u64 a0_x 16)))))), rfl, h, hE0, hM0, (int_V (wrap_wf _ _))⟩
    · have hd13 : ¬ (65536 ≤ a0_x) := dec_f hc13
      have h := h.2 hd13
      refine WP_skip ?_
      refine WP_seq ?_
      refine WP_seq ?_
      refine WP_region ?_
      refine WL_pure (.int .u64 a0_x) (R_mv rfl) rfl rfl ?_
      refine WL_pure (.bool (decide (256 ≤ a0_x))) (R_geq rfl rfl) rfl rfl ?_
      refine WL_nil ?_
      refine WP_cond (decide (256 ≤ a0_x)) rfl (fun hc19 => ?_) (fun hc19 => ?_)
      · have hd19 : 256 ≤ a0_x := dec_t hc19
        have h := h.1 hd19
        refine WP_seq ?_
        refine WP_region ?_
        refine WL_pure (.int .u64 a0_x) (R_mv rfl) rfl rfl ?_
        refine WL_pure (.int .u64 (shr .u64 a0_x 8)) (R_shr rfl rfl (by decide)) rfl rfl ?_
        refine WL_pure (.int .u64 (shr .u64 a0_x 8)) (R_as rfl) rfl rfl ?_
        refine WL_nil ?_
        refine WP_region ?_
        refine WL_pure (.int .i64 0) (R_mv rfl) rfl rfl ?_
        refine WL_pure (.int .i64 (IntKind.i64.wrap (0 + 8))) (R_add rfl rfl) rfl rfl ?_
        refine WL_pure (.int .i64 (IntKind.i64.wrap (0 + 8))) (R_as rfl) rfl rfl ?_
        refine WL_nil ?_
        refine WP_seq ?_
        refine WP_region ?_
        refine WL_pure (.int .i64 (IntKind.i64.wrap (0 + 8))) (R_mv rfl) rfl rfl ?_
        refine WL_pure (.int .u64 (shr .u64 a0_x 8)) (R_mv rfl) rfl rfl ?_
        refine WL_pure (.int .u8 (IntKind.u8.wrap (shr .u64 a0_x 8))) (R_cvi rfl Try.underlying65 Try.underlying5) rfl rfl ?_
        obtain ⟨hp21, h⟩ := h
        refine WL_pure (.int .u8 (bI (ix strc256_52136 (IntKind.u8.wrap (shr .u64 a0_x 8))))) (R_ixs rfl rfl Try.underlying9 hp21.1 hp21.2) rfl rfl ?_
        refine WL_pure (.int .i64 (bI (ix strc256_52136 (IntKind.u8.wrap (shr .u64 a0_x 8))))) (R_cvn rfl Try.underlying5 Try.underlying3 (bI_wf _) (by decide) (by decide)) rfl rfl ?_
        refine WL_pure (.int .i64 (IntKind.i64.wrap ((IntKind.i64.wrap (0 + 8)) + (bI (ix strc256_52136 (IntKind.u8.wrap (shr .u64 a0_x 8))))))) (R_add rfl rfl) rfl rfl ?_
        refine WL_pure (.int .i64 (IntKind.i64.wrap ((IntKind.i64.wrap (0 + 8)) + (bI (ix strc256_52136 (IntKind.u8.wrap (shr .u64 a0_x 8))))))) (R_as rfl) rfl rfl ?_
        refine WL_nil ?_
        refine WP_ret ?_
        exact endR_ret hR (v := (.int .i64 (IntKind.i64.wrap ((IntKind.i64.wrap (0 + 8)) + (bI (ix strc256_52136 (IntKind.u8.wrap (shr .u64 a0_x 8)))))))) (resE_1 rfl rfl) ⟨K0, (.int .i64 (IntKind.i64.wrap ((IntKind.i64.wrap (0 + 8)) + (bI (ix strc256_52136 (IntKind.u8.wrap (shr .u64 a0_x 8))))))), (IntKind.i64.wrap ((IntKind.i64.wrap (0 + 8)) + (bI (ix strc256_52136 (IntKind.u8.wrap (shr .u64 a0_x 8)))))), rfl, h, hE0, hM0, (int_V (wrap_wf _ _))⟩
      · have hd19 : ¬ (256 ≤ a0_x) := dec_f hc19
        have h := h.2 hd19
        refine WP_skip ?_
        refine WP_seq ?_
        refine WP_region ?_
        refine WL_pure (.int .i64 0) (R_mv rfl) rfl rfl ?_
        refine WL_pure (.int .u64 a0_x) (R_mv rfl) rfl rfl ?_
        refine WL_pure (.int .u8 (IntKind.u8.wrap a0_x)) (R_cvi rfl Try.underlying65 Try.underlying5) rfl rfl ?_
        obtain ⟨hp23, h⟩ := h
        refine WL_pure (.int .u8 (bI (ix strc256_52136 (IntKind.u8.wrap a0_x)))) (R_ixs rfl rfl Try.underlying9 hp23.1 hp23.2) rfl rfl ?_
        refine WL_pure (.int .i64 (bI (ix strc256_52136 (IntKind.u8.wrap a0_x)))) (R_cvn rfl Try.underlying5 Try.underlying3 (bI_wf _) (by decide) (by decide)) rfl rfl ?_
        refine WL_pure (.int .i64 (IntKind.i64.wrap (0 + (bI (ix strc256_52136 (IntKind.u8.wrap a0_x)))))) (R_add rfl rfl) rfl rfl ?_
        refine WL_pure (.int .i64 (IntKind.i64.wrap (0 + (bI (ix strc256_52136 (IntKind.u8.wrap a0_x)))))) (R_as rfl) rfl rfl ?_
        refine WL_nil ?_
        refine WP_ret ?_
        exact endR_ret hR (v := (.int .i64 (IntKind.i64.wrap (0 + (bI (ix strc256_52136 (IntKind.u8.wrap a0_x))))))) (resE_1 rfl rfl) ⟨K0, (.int .i64 (IntKind.i64.wrap (0 + (bI (ix strc256_52136 (IntKind.u8.wrap a0_x)))))), (IntKind.i64.wrap (0 + (bI (ix strc256_52136 (IntKind.u8.wrap a0_x))))), rfl, h, hE0, hM0, (int_V (wrap_wf _ _))⟩
theorem Len64_c {w0 : World} {K0 : Ghost} {a0_x_v : Value} {a0_x : Int} (hM0 : Models w0 K0) (h_a0_x : (Kd.int .u64).V K0 a0_x a0_x_v) : Calls Try.prog 85 #[a0_x_v] w0 (fun e w' => ∃ (K' : Ghost) (r0 : Value), e = .returned r0 ∧ Ext NX w0 K0 w' K' ∧ Models w' K' ∧ (Kd.int .i64).V K' (blen a0_x.toNat : Int) r0) := by
  refine (Len64_walk hM0 h_a0_x (Len64_ok h_a0_x.wf)).mono ?_
  rintro _ w' ⟨K', r0, o0, rfl, rfl, hF⟩
  exact ⟨K', r0, rfl, hF⟩
abbrev kd_l_u64 : Kd (List Int) := (Kd.sl (Kd.int .u64))
theorem ty65 : TyOk Try.prog 65 (Kd.int .u64) 8 := ⟨⟨Try.t65, _, Try.type65, rfl, rfl, rfl, rfl, rfl⟩, ⟨_, Try.underlying65, rfl⟩⟩
def Num_VC (a0_b : (List UInt8)) (a1_l : (List Int)) (Q : (List UInt8) → Prop) : Prop :=
  (a0_b.length ≤ 140737488355328) ∧ ((kd_l_u8.wf a0_b) → (∃ (I7 : (List UInt8) → Int → Prop) (μ7 : (List UInt8) → Int → Nat), I7 a0_b 0 ∧ ∀ (out7 : (List UInt8)) (i7 : Int), I7 out7 i7 → (kd_l_u8.wf out7) → ((Kd.int .i64).wf i7) → (((i7 < (a1_l.length : Int)) → (0 ≤ i7 ∧ i7 < (a1_l.length : Int)) ∧ (((Kd.int .i64).wf (blen (ix a1_l i7).toNat : Int)) → (((out7.length + [(toB (IntKind.u8.wrap (IntKind.i64.wrap (Int.tdiv (IntKind.i64.wrap ((blen (ix a1_l i7).toNat : Int) + 7)) 8))))].length) * 1 ≤ 140737488355328) ∧ (∃ (I30 : (List UInt8) → Int → Prop) (μ30 : (List UInt8) → Int → Nat), I30 (out7 ++ [(toB (IntKind.u8.wrap (IntKind.i64.wrap (Int.tdiv (IntKind.i64.wrap ((blen (ix a1_l i7).toNat : Int) + 7)) 8))))]) (IntKind.i64.wrap (8 * (IntKind.i64.wrap (Int.tdiv (IntKind.i64.wrap ((blen (ix a1_l i7).toNat : Int) + 7)) 8)))) ∧ ∀ (out30 : (List UInt8)) (at_30 : Int), I30 out30 at_30 → (kd_l_u8.wf out30) → ((Kd.int .i64).wf at_30) → (((0 < at_30) → (0 ≤ (IntKind.i64.wrap (at_30 - 8))) ∧ (((out30.length + [(toB (IntKind.u8.wrap (shr .u64 (ix a1_l i7) (IntKind.i64.wrap (at_30 - 8)))))].length) * 1 ≤ 140737488355328) ∧ (I30 (out30 ++ [(toB (IntKind.u8.wrap (shr .u64 (ix a1_l i7) (IntKind.i64.wrap (at_30 - 8)))))]) (IntKind.i64.wrap (at_30 - 8)) ∧ μ30 (out30 ++ [(toB (IntKind.u8.wrap (shr .u64 (ix a1_l i7) (IntKind.i64.wrap (at_30 - 8)))))]) (IntKind.i64.wrap (at_30 - 8)) < μ30 out30 at_30))) ∧ ((¬ (0 < at_30)) → I7 out30 (IntKind.i64.wrap (i7 + 1)) ∧ μ7 out30 (IntKind.i64.wrap (i7 + 1)) < μ7 out7 i7)))))) ∧ ((¬ (i7 < (a1_l.length : Int))) → Q out7))))
theorem Num_ok {a0_b : (List UInt8)} {a1_l : (List Int)} (w_0 : kd_l_u8.wf a0_b) (w_1 : kd_l_u64.wf a1_l) (hp : a0_b.length + 9 * a1_l.length ≤ 140737488355328) : Num_VC a0_b a1_l (fun o0 => o0 = (a0_b ++ numAll a1_l)) := by
  have hw : ∀ x ∈ a1_l, ∃ n : Nat, x = (n : Int) ∧ n < 2 ^ 64 := fun x hx => by
    obtain ⟨n, rfl⟩ := Int.eq_ofNat_of_zero_le (w_1.2 x hx).1
    have h : ((n : Int)) ≤ (18446744073709551615 : Int) := (w_1.2 (n : Int) hx).2
    exact ⟨n, rfl, by omega⟩
  have hlen : ∀ j, j ≤ a1_l.length → (numAll (a1_l.take j)).length ≤ 9 * j := by
    intro j
    induction j with
    | zero => intro _; simp [numAll]
    | succ j ih =>
      intro hj
      have hlt : (j : Int) < (a1_l.length : Int) := by omega
      obtain ⟨n, hn, hb⟩ := hw _ (ix_mem (by omega) hlt)
      have h1 := numB_length hb
      have h2 := ih (by omega)
      rw [take_step hlt]
      unfold numAll at *
      rw [List.flatMap_append, List.length_append]
      simp only [List.flatMap_cons, List.flatMap_nil, List.append_nil, hn, Int.toNat_natCast]
      omega
  unfold Num_VC
  refine ⟨by omega, fun _ => ⟨fun out i => ∃ j : Nat, i = (j : Int) ∧ j ≤ a1_l.length ∧ out = a0_b ++ numAll (a1_l.take j), fun _ i => a1_l.length - i.toNat, ⟨0, rfl, by omega, by simp [numAll]⟩, ?_⟩⟩
  rintro out i ⟨j, rfl, hj, rfl⟩ _ hwi
  refine ⟨fun hlt => ⟨⟨by omega, hlt⟩, fun _ => ⟨?_, ?_⟩⟩, fun hge => ?_⟩
  · have := hlen j hj
    simp only [List.length_append, List.length_cons, List.length_nil]
    omega
  · obtain ⟨n, hn, hb⟩ := hw _ (ix_mem (by omega) hlt)
    have hbl := blen_lt 64 hb
    have hk := num_k hbl
    rw [hn]
    simp only [Int.toNat_natCast, hk]
    rw [u8_mod]
    generalize hkk : (blen n + 7) / 8 = k
    have hk8 : k ≤ 8 := by omega
    have hT : a0_b ++ numAll (a1_l.take (j + 1)) = a0_b ++ numAll (a1_l.take j) ++ [UInt8.ofNat k] ++ be n k := by
      rw [take_step hlt]
      simp [numAll, numB, hn, hkk]
    have hTl := hlen (j + 1) (by omega)
    have hTl2 : (a0_b ++ numAll (a1_l.take (j + 1))).length ≤ 140737488355328 := by
      rw [List.length_append]
      omega
    refine ⟨fun out at_ => ∃ m : Nat, m ≤ k ∧ at_ = ((8 * m : Nat) : Int) ∧ out ++ be n m = a0_b ++ numAll (a1_l.take (j + 1)), fun _ at_ => at_.toNat, ⟨k, Nat.le_refl _, ?_, hT.symm⟩, ?_⟩
    · rw [wrap_id (wf64 (by omega) (by omega))]
      omega
    · rintro out at_ ⟨m, hm, rfl, hout⟩ _ _
      refine ⟨fun hpos => ?_, fun hz => ?_⟩
      · obtain ⟨m, rfl⟩ : ∃ m', m = m' + 1 := ⟨m - 1, by omega⟩
        have e8 : IntKind.i64.wrap (((8 * (m + 1) : Nat) : Int) - 8) = ((8 * m : Nat) : Int) := by
          rw [wrap_id (wf64 (by omega) (by omega))]
          omega
        rw [e8, byte_at (by omega)]
        have hol := congrArg List.length hout
        simp only [List.length_append, be_length] at hol
        simp only [List.length_append] at hTl2
        refine ⟨by omega, ?_, ⟨m, by omega, rfl, ?_⟩, ?_⟩
        · simp only [List.length_cons, List.length_nil]
          omega
        · rw [← hout]
          simp [be]
        · show ((8 * m : Nat) : Int).toNat < ((8 * (m + 1) : Nat) : Int).toNat
          omega
      · have : m = 0 := by omega
        subst this
        have ei : IntKind.i64.wrap ((j : Int) + 1) = ((j + 1 : Nat) : Int) := by
          rw [wrap_id]
          · omega
          · have h2 := w_1.1
            unfold LM at h2
            exact wf64 (by omega) (by omega)
        rw [ei]
        refine ⟨⟨j + 1, rfl, by omega, by simpa [be] using hout⟩, ?_⟩
        show a1_l.length - ((j + 1 : Nat) : Int).toNat < a1_l.length - (j : Int).toNat
        omega
  · have : j = a1_l.length := by omega
    subst this
    rw [List.take_length]

theorem Num_walk {w0 : World} {K0 : Ghost} {a0_b_v : Value} {a0_b : (List UInt8)} {a1_l_v : Value} {a1_l : (List Int)} {Q : (List UInt8) → Prop} (hM0 : Models w0 K0) (h_a0_b : kd_l_u8.V K0 a0_b a0_b_v) (h_a1_l : kd_l_u64.V K0 a1_l a1_l_v) (h : Num_VC a0_b a1_l Q) : Calls Try.prog 58 #[a0_b_v, a1_l_v] w0 (fun e w' => ∃ (K' : Ghost) (r0 : Value) (o0 : (List UInt8)), e = .returned r0 ∧ Q o0 ∧ Ext NX w0 K0 w' K' ∧ Models w' K' ∧ Own Kd.byte 5 w' K' o0 r0 ∧ (∀ g, ob r0 = some g → w0.heap.size ≤ g)) := by
  unfold Num_VC at h
  have hE0 : Ext NX w0 K0 w0 K0 := Ext.refl _ _ _
  refine calls_gen fun R hR => ?_
  refine calls_env (args := [a0_b_v, a1_l_v]) Try.func58 rfl (Nat.le_of_ble_eq_true rfl) ?_
  refine WP_seq ?_
  refine WP_region ?_
  have hR3 : Own Kd.byte 5 w0 K0 ([] : List UInt8) (.slice none 0 0) := Own.nil
  refine WL_pure (.slice none 0 0) (R_as rfl) rfl rfl ?_
  refine WL_nil ?_
  refine WP_seq ?_
  refine WP_region ?_
  refine WL_pure a0_b_v (R_mv rfl) rfl rfl ?_
  obtain ⟨hp5, h⟩ := h
  refine WL_eff rfl rfl (St_call (R_call Try.call46 rfl) ((Clone_c hM0 h_a0_b hp5).mono ?_))
  rintro _ w4 ⟨K4, v4_0, rfl, hS4, hM4, hO4_0, hg4_0⟩
  refine ⟨v4_0, rfl, ?_⟩
  have hE4 := hE0.andN hS4
  have h := h hO4_0.wf
  refine WL_pure v4_0 (R_as rfl) rfl rfl ?_
  refine WL_nil ?_
  refine WP_seq ?_
  refine WP_seq ?_
  refine WP_region ?_
  refine WL_pure a1_l_v (R_mv rfl) rfl rfl ?_
  refine WL_pure (.int .i64 (a1_l.length : Int)) (R_len rfl (h_a1_l.mono hS4.le) Try.underlying137) rfl rfl ?_
  refine WL_pure (.int .i64 0) (R_mv rfl) rfl rfl ?_
  refine WL_nil ?_
  refine WP_block ?_
  obtain ⟨I7, μ7, h0, h⟩ := h
  refine WP_loopE (ι := (List UInt8) × Int) [5, 7, 8, 9, 14, 15, 16, 17, 18, 19, 20, 21, 22, 23, 24, 25, 26, 27, 28, 29, 30, 31, 32, 33, 34, 35, 36, 37, 38, 39, 40] (fun s l w => ∃ K u5, I7 s.1 s.2 ∧ l = [(5, u5), (14, (.int .i64 s.2))] ∧ Ext (fun c => ob v4_0 = some c) w4 K4 w K ∧ Models w K ∧ (Kd.int .i64).wf s.2 ∧ Own Kd.byte 5 w K s.1 u5 ∧ (∀ g, ob u5 = some g → ob v4_0 = some g ∨ w4.heap.size ≤ g)) (fun s => μ7 s.1 s.2) (a0_b, 0) [(5, v4_0), (14, (.int .i64 0))]
    ⟨K4, v4_0, h0, rfl, Ext.refl _ _ _, hM4, (show (Kd.int .i64).wf 0 from by constructor <;> decide), hO4_0, (fun g hg => (.inl hg))⟩ (by repeat (first | exact trivial | refine ⟨rfl, ?_⟩)) ?_
  rintro ⟨out7, i7⟩ l σ7 w8 ⟨K8, u5_7, hI, rfl, hX8, hM8, hw7_14, hL7_u5, ho7_u5⟩
  dsimp only at hI hw7_14 hL7_u5 ho7_u5
  have hE8 := hE4.comp hX8 (fun c hx hlt => (fun g hg hlt => absurd hlt (Nat.not_lt.2 ((fun g hg => Nat.le_trans hE0.size (hg4_0 g hg)) g hg))) c hx hlt)
  have hR9 := (hR3.extN hS4)
  have hR10 := (hR9.ext hX8 (fun g hg hx => (fun g hg hx => (fun g hg hx => absurd (hR3.lt _ hx) (Nat.not_lt.2 (hg4_0 g hg))) g hx hg) g hg hx))
  have hR11 := (hR3.extN hS4)
  have h := h out7 i7 hI hL7_u5.wf hw7_14
  refine WP_seq ?_
  refine WP_region ?_
  refine WL_pure (.bool (decide (i7 < (a1_l.length : Int)))) (R_lss rfl rfl) rfl rfl ?_
  refine WL_nil ?_
  refine WP_seq ?_
  refine WP_cond (decide (i7 < (a1_l.length : Int))) rfl (fun hc12 => ?_) (fun hc12 => ?_)
  · have hd12 : i7 < (a1_l.length : Int) := dec_t hc12
    have h := h.1 hd12
    refine WP_skip ?_
    refine WP_seq ?_
    refine WP_block ?_
    refine WP_seq ?_
    refine WP_region ?_
    obtain ⟨hp14, h⟩ := h
    refine WL_P (S_ixs rfl (h_a1_l.mono (hS4.le.trans hX8.le)) rfl Try.underlying137 ty65 hp14.1 hp14.2) rfl rfl ?_
    rintro b13 o13 hP13
    refine WL_L hM8 (S_ld rfl ty65 hP13) rfl rfl ?_
    rintro v16 (hV16 : (Kd.int .u64).V _ (ix a1_l i7) _)
    obtain rfl := int_form hV16
    refine WL_pure (.int .u64 (ix a1_l i7)) (R_as rfl) rfl rfl ?_
    refine WL_nil ?_
    refine WP_seq ?_
    refine WP_region ?_
    refine WL_pure (.int .u64 (ix a1_l i7)) (R_mv rfl) rfl rfl ?_
    refine WL_eff rfl rfl (St_call (R_call Try.call85 rfl) ((Len64_c hM8 (int_V (hV16).wf)).mono ?_))
    rintro _ w17 ⟨K17, v17_0, rfl, hS17, hM17, hV17_0⟩
    refine ⟨v17_0, rfl, ?_⟩
    have hE17 := hE8.andN hS17
    obtain rfl := int_form hV17_0
    have h := h hV17_0.wf
    refine WL_pure (.int .i64 (IntKind.i64.wrap ((blen (ix a1_l i7).toNat : Int) + 7))) (R_add rfl rfl) rfl rfl ?_
    refine WL_pure (.int .i64 (IntKind.i64.wrap (Int.tdiv (IntKind.i64.wrap ((blen (ix a1_l i7).toNat : Int) + 7)) 8))) (R_quo rfl rfl (by decide)) rfl rfl ?_
    refine WL_pure (.int .i64 (IntKind.i64.wrap (Int.tdiv (IntKind.i64.wrap ((blen (ix a1_l i7).toNat : Int) + 7)) 8))) (R_as rfl) rfl rfl ?_
    refine WL_nil ?_
    refine WP_seq ?_
    refine WP_region ?_
    refine WL_pure u5_7 (R_mv rfl) rfl rfl ?_
    refine WL_pure (.int .i64 (IntKind.i64.wrap (Int.tdiv (IntKind.i64.wrap ((blen (ix a1_l i7).toNat : Int) + 7)) 8))) (R_mv rfl) rfl rfl ?_
    refine WL_pure (.int .u8 (IntKind.u8.wrap (IntKind.i64.wrap (Int.tdiv (IntKind.i64.wrap ((blen (ix a1_l i7).toNat : Int) + 7)) 8)))) (R_cvi rfl Try.underlying3 Try.underlying5) rfl rfl ?_
    refine WL_eff rfl rfl (St_S0 (S_bsl (k := Kd.byte) (l := [((toB (IntKind.u8.wrap (IntKind.i64.wrap (Int.tdiv (IntKind.i64.wrap ((blen (ix a1_l i7).toNat : Int) + 7)) 8)))), (.int .u8 (IntKind.u8.wrap (IntKind.i64.wrap (Int.tdiv (IntKind.i64.wrap ((blen (ix a1_l i7).toNat : Int) + 7)) 8)))))]) hM17 rfl (by intro p hp; simp only [List.mem_cons, List.not_mem_nil, or_false] at hp; subst hp; exact (byte_V (wrap_wf _ _))) rfl Try.underlying39 ty5b rfl rfl) ?_)
    rintro v18 w18 K18 (hO18 : Own Kd.byte 5 w18 K18 [(toB (IntKind.u8.wrap (IntKind.i64.wrap (Int.tdiv (IntKind.i64.wrap ((blen (ix a1_l i7).toNat : Int) + 7)) 8))))] v18) hS18 hM18 hg18
    have hE18 := hE17.andN hS18
    have hR20 := (hR10.extN hS17)
    have hR21 := (hL7_u5.extN hS17)
    have hR22 := ((hL7_u5.extN hS17).extN hS18)
    obtain ⟨hp24, h⟩ := h
    refine WL_eff rfl rfl (St_S (S_app hM18 rfl hR22 rfl hO18.V Try.underlying39 ty5b rfl hp24) ?_)
    rintro v23 w23 K23 hO23 hS23 hM23 hob23
    have hE23 := hE18.comp hS23 (fun c hx hlt => (fun g hg hlt => absurd hlt (Nat.not_lt.2 ((fun g hg => (ho7_u5 g hg).elim (fun hx => (fun g hg => Nat.le_trans hE0.size (hg4_0 g hg)) g hx) (fun hx => Nat.le_trans hE4.size hx)) g hg))) c hx hlt)
    have hR25 := ((hR10.extN hS17).extN hS18)
    have hR26 := (hR25.ext hS23 (fun g hg hx => (fun g hg hx => (fun g hg hy => (ho7_u5 g hg).elim (fun hz => (fun g hg hx => absurd (hR3.lt _ hx) (Nat.not_lt.2 (hg4_0 g hg))) g hz hy) (fun hz => absurd (hR11.lt _ hy) (Nat.not_lt.2 hz))) g hx hg) g hg hx))
    have hR27 := (hO18.ext hS23 (fun g hg hx => (fun g hg hx => absurd (hR21.lt _ hx) (Nat.not_lt.2 (hg18 g hg))) g hg hx))
    have hf23 : ∀ g, ob v23 = some g → w0.heap.size ≤ g := fun g hg => by rcases hob23 with hq | hq <;> rw [hq] at hg; exact (fun g hg => (ho7_u5 g hg).elim (fun hx => (fun g hg => Nat.le_trans hE0.size (hg4_0 g hg)) g hx) (fun hx => Nat.le_trans hE4.size hx)) g hg; cases hg; exact hE18.size
    have hs29 : ∀ g, ob v23 = some g → ¬ (ob v18 = some g) := fun g hg hx => by rcases hob23 with hq | hq <;> rw [hq] at hg; exact (fun g hg hx => (fun g hg hx => absurd (hR21.lt _ hx) (Nat.not_lt.2 (hg18 g hg))) g hx hg) g hg hx; cases hg; exact absurd (hO18.lt _ hx) (Nat.not_lt.2 (Nat.le_refl _))
    refine WL_pure v23 (R_as rfl) rfl rfl ?_
    refine WL_nil ?_
    refine WP_seq ?_
    refine WP_region ?_
    refine WL_pure (.int .i64 (IntKind.i64.wrap (Int.tdiv (IntKind.i64.wrap ((blen (ix a1_l i7).toNat : Int) + 7)) 8))) (R_mv rfl) rfl rfl ?_
    refine WL_pure (.int .i64 (IntKind.i64.wrap (8 * (IntKind.i64.wrap (Int.tdiv (IntKind.i64.wrap ((blen (ix a1_l i7).toNat : Int) + 7)) 8))))) (R_mul rfl rfl) rfl rfl ?_
    refine WL_pure (.int .i64 (IntKind.i64.wrap (8 * (IntKind.i64.wrap (Int.tdiv (IntKind.i64.wrap ((blen (ix a1_l i7).toNat : Int) + 7)) 8))))) (R_as rfl) rfl rfl ?_
    refine WL_nil ?_
    refine WP_block ?_
    obtain ⟨I30, μ30, h0, h⟩ := h
    refine WP_loopE (ι := (List UInt8) × Int) [5, 9, 29, 30, 31, 32, 33, 34, 35, 36, 37, 38, 39] (fun s l w => ∃ K u5, I30 s.1 s.2 ∧ l = [(5, u5), (9, (.int .i64 s.2))] ∧ Ext (fun c => ob v23 = some c) w23 K23 w K ∧ Models w K ∧ (Kd.int .i64).wf s.2 ∧ Own Kd.byte 5 w K s.1 u5 ∧ (∀ g, ob u5 = some g → ob v23 = some g ∨ w23.heap.size ≤ g)) (fun s => μ30 s.1 s.2) ((out7 ++ [(toB (IntKind.u8.wrap (IntKind.i64.wrap (Int.tdiv (IntKind.i64.wrap ((blen (ix a1_l i7).toNat : Int) + 7)) 8))))]), (IntKind.i64.wrap (8 * (IntKind.i64.wrap (Int.tdiv (IntKind.i64.wrap ((blen (ix a1_l i7).toNat : Int) + 7)) 8))))) [(5, v23), (9, (.int .i64 (IntKind.i64.wrap (8 * (IntKind.i64.wrap (Int.tdiv (IntKind.i64.wrap ((blen (ix a1_l i7).toNat : Int) + 7)) 8))))))]
      ⟨K23, v23, h0, rfl, Ext.refl _ _ _, hM23, (wrap_wf _ _), hO23, (fun g hg => (.inl hg))⟩ (by repeat (first | exact trivial | refine ⟨rfl, ?_⟩)) ?_
    rintro ⟨out30, at_30⟩ l σ30 w31 ⟨K31, u5_30, hI, rfl, hX31, hM31, hw30_9, hL30_u5, ho30_u5⟩
    dsimp only at hI hw30_9 hL30_u5 ho30_u5
    have hE31 := hE23.comp hX31 (fun c hx hlt => (fun g hg hlt => absurd hlt (Nat.not_lt.2 (hf23 g hg))) c hx hlt)
    have hR32 := (hR26.ext hX31 (fun g hg hx => (fun g hg hx => (fun g _ hx => nilS hx) g hx hg) g hg hx))
    have hR33 := (hR27.ext hX31 (fun g hg hx => (fun g hg hx => hs29 g hx hg) g hg hx))
    have h := h out30 at_30 hI hL30_u5.wf hw30_9
    refine WP_seq ?_
    refine WP_seq ?_
    refine WP_region ?_
    refine WL_pure (.int .i64 at_30) (R_mv rfl) rfl rfl ?_
    refine WL_pure (.bool (decide (0 < at_30))) (R_gtr rfl rfl) rfl rfl ?_
    refine WL_nil ?_
    refine WP_cond (decide (0 < at_30)) rfl (fun hc34 => ?_) (fun hc34 => ?_)
    · have hd34 : 0 < at_30 := dec_t hc34
      have h := h.1 hd34
      refine WP_skip ?_
      refine WP_block ?_
      refine WP_seq ?_
      refine WP_region ?_
      refine WL_pure (.int .i64 at_30) (R_mv rfl) rfl rfl ?_
      refine WL_pure (.int .i64 (IntKind.i64.wrap (at_30 - 8))) (R_sub rfl rfl) rfl rfl ?_
      refine WL_pure (.int .i64 (IntKind.i64.wrap (at_30 - 8))) (R_as rfl) rfl rfl ?_
      refine WL_nil ?_
      refine WP_region ?_
      refine WL_pure u5_30 (R_mv rfl) rfl rfl ?_
      refine WL_pure (.int .u64 (ix a1_l i7)) (R_mv rfl) rfl rfl ?_
      refine WL_pure (.int .i64 (IntKind.i64.wrap (at_30 - 8))) (R_mv rfl) rfl rfl ?_
      obtain ⟨hp35, h⟩ := h
      refine WL_pure (.int .u64 (shr .u64 (ix a1_l i7) (IntKind.i64.wrap (at_30 - 8)))) (R_shr rfl rfl hp35) rfl rfl ?_
      refine WL_pure (.int .u8 (IntKind.u8.wrap (shr .u64 (ix a1_l i7) (IntKind.i64.wrap (at_30 - 8))))) (R_cvi rfl Try.underlying65 Try.underlying5) rfl rfl ?_
      refine WL_eff rfl rfl (St_S0 (S_bsl (k := Kd.byte) (l := [((toB (IntKind.u8.wrap (shr .u64 (ix a1_l i7) (IntKind.i64.wrap (at_30 - 8))))), (.int .u8 (IntKind.u8.wrap (shr .u64 (ix a1_l i7) (IntKind.i64.wrap (at_30 - 8))))))]) hM31 rfl (by intro p hp; simp only [List.mem_cons, List.not_mem_nil, or_false] at hp; subst hp; exact (byte_V (wrap_wf _ _))) rfl Try.underlying39 ty5b rfl rfl) ?_)
      rintro v36 w36 K36 (hO36 : Own Kd.byte 5 w36 K36 [(toB (IntKind.u8.wrap (shr .u64 (ix a1_l i7) (IntKind.i64.wrap (at_30 - 8)))))] v36) hS36 hM36 hg36
      have hE36 := hE31.andN hS36
      have hR38 := (hL30_u5.extN hS36)
      obtain ⟨hp40, h⟩ := h
      refine WL_eff rfl rfl (St_S (S_app hM36 rfl hR38 rfl hO36.V Try.underlying39 ty5b rfl hp40) ?_)
      rintro v39 w39 K39 hO39 hS39 hM39 hob39
      have hE39 := hE36.comp hS39 (fun c hx hlt => (fun g hg hlt => absurd hlt (Nat.not_lt.2 ((fun g hg => (ho30_u5 g hg).elim (fun hx => hf23 g hx) (fun hx => Nat.le_trans hE23.size hx)) g hg))) c hx hlt)
      have hR41 := (hR32.extN hS36)
      have hR42 := (hR41.ext hS39 (fun g hg hx => (fun g hg hx => (fun g hg hy => (ho30_u5 g hg).elim (fun hz => (fun g _ hx => nilS hx) g hz hy) (fun hz => absurd (hR26.lt _ hy) (Nat.not_lt.2 hz))) g hx hg) g hg hx))
      have hR43 := (hR33.extN hS36)
      have hR44 := (hR43.ext hS39 (fun g hg hx => (fun g hg hx => (fun g hg hy => (ho30_u5 g hg).elim (fun hz => hs29 g hz hy) (fun hz => absurd (hR27.lt _ hy) (Nat.not_lt.2 hz))) g hx hg) g hg hx))
      have hR45 := (hO36.ext hS39 (fun g hg hx => (fun g hg hx => absurd (hL30_u5.lt _ hx) (Nat.not_lt.2 (hg36 g hg))) g hg hx))
      have hf39 : ∀ g, ob v39 = some g → w0.heap.size ≤ g := fun g hg => by rcases hob39 with hq | hq <;> rw [hq] at hg; exact (fun g hg => (ho30_u5 g hg).elim (fun hx => hf23 g hx) (fun hx => Nat.le_trans hE23.size hx)) g hg; cases hg; exact hE36.size
      have hR47 := (hR33.extN hS36)
      have hs48 : ∀ g, ob v39 = some g → ¬ (ob v18 = some g) := fun g hg hx => by rcases hob39 with hq | hq <;> rw [hq] at hg; exact (fun g hg hy => (ho30_u5 g hg).elim (fun hz => hs29 g hz hy) (fun hz => absurd (hR27.lt _ hy) (Nat.not_lt.2 hz))) g hg hx; cases hg; exact absurd (hR47.lt _ hx) (Nat.not_lt.2 (Nat.le_refl _))
      have hs49 : ∀ g, ob v39 = some g → ¬ (ob v36 = some g) := fun g hg hx => by rcases hob39 with hq | hq <;> rw [hq] at hg; exact (fun g hg hx => (fun g hg hx => absurd (hL30_u5.lt _ hx) (Nat.not_lt.2 (hg36 g hg))) g hx hg) g hg hx; cases hg; exact absurd (hO36.lt _ hx) (Nat.not_lt.2 (Nat.le_refl _))
      refine WL_pure v39 (R_as rfl) rfl rfl ?_
      refine WL_nil ?_
      refine BackQ.mk ((out30 ++ [(toB (IntKind.u8.wrap (shr .u64 (ix a1_l i7) (IntKind.i64.wrap (at_30 - 8)))))]), (IntKind.i64.wrap (at_30 - 8))) [(5, v39), (9, (.int .i64 (IntKind.i64.wrap (at_30 - 8))))] ?_ ?_ ?_ ?_
      rotate_left
      · exact h.2
      · repeat (first | exact Off.lay0 rfl | refine Off.updO ?_ rfl _ | refine Off.updN ?_ _ | refine Off.lay ?_ rfl)
      · repeat (first | exact trivial | refine ⟨rfl, ?_⟩)
      exact ⟨K39, v39, h.1, rfl, ((((Ext.refl _ _ _).comp hX31 (fun c hx hlt => (hx))).andN hS36).comp hS39 (fun c hx hlt => ((((ho30_u5 c hx).elim (fun hz => (.inl hz)) (fun hz => .inr (Nat.le_trans (Nat.le_refl _) hz))) : ob v23 = some c ∨ w23.heap.size ≤ c).elim (fun hx => (hx)) (fun hz => absurd hlt (Nat.not_lt.2 hz))))), hM39, (wrap_wf _ _), hO39, (fun g hg => (by have hg : ob v39 = some g := hg; rcases hob39 with hq | hq <;> rw [hq] at hg; exact ((ho30_u5 g hg).elim (fun hz => (.inl hz)) (fun hz => .inr (Nat.le_trans (Nat.le_refl _) hz))); cases hg; exact .inr (Nat.le_trans hX31.size hS36.size)))⟩
    · have hd34 : ¬ (0 < at_30) := dec_f hc34
      have h := h.2 hd34
      refine WP_exit ?_
      refine WP_region ?_
      refine WL_pure (.int .i64 (IntKind.i64.wrap (i7 + 1))) (R_add rfl rfl) rfl rfl ?_
      refine WL_pure (.int .i64 (IntKind.i64.wrap (i7 + 1))) (R_mv rfl) rfl rfl ?_
      refine WL_nil ?_
      refine BackQ.mk (out30, (IntKind.i64.wrap (i7 + 1))) [(5, u5_30), (14, (.int .i64 (IntKind.i64.wrap (i7 + 1))))] ?_ ?_ ?_ ?_
      rotate_left
      · exact h.2
      · repeat (first | exact Off.lay0 rfl | refine Off.updO ?_ rfl _ | refine Off.updN ?_ _ | refine Off.lay ?_ rfl)
      · repeat (first | exact trivial | refine ⟨rfl, ?_⟩)
      exact ⟨K31, u5_30, h.1, rfl, ((((((Ext.refl _ _ _).comp hX8 (fun c hx hlt => (hx))).andN hS17).andN hS18).comp hS23 (fun c hx hlt => ((((ho7_u5 c hx).elim (fun hz => (.inl hz)) (fun hz => .inr (Nat.le_trans (Nat.le_refl _) hz))) : ob v4_0 = some c ∨ w4.heap.size ≤ c).elim (fun hx => (hx)) (fun hz => absurd hlt (Nat.not_lt.2 hz))))).comp hX31 (fun c hx hlt => (((by have hg : ob v23 = some c := hx; rcases hob23 with hq | hq <;> rw [hq] at hg; exact ((ho7_u5 c hg).elim (fun hz => (.inl hz)) (fun hz => .inr (Nat.le_trans (Nat.le_refl _) hz))); cases hg; exact .inr (Nat.le_trans hX8.size (Nat.le_trans hS17.size hS18.size))) : ob v4_0 = some c ∨ w4.heap.size ≤ c).elim (fun hx => (hx)) (fun hz => absurd hlt (Nat.not_lt.2 hz))))), hM31, (wrap_wf _ _), hL30_u5, (fun g hg => ((ho30_u5 g hg).elim (fun hz => (by have hg : ob v23 = some g := hz; rcases hob23 with hq | hq <;> rw [hq] at hg; exact ((ho7_u5 g hg).elim (fun hz => (.inl hz)) (fun hz => .inr (Nat.le_trans (Nat.le_refl _) hz))); cases hg; exact .inr (Nat.le_trans hX8.size (Nat.le_trans hS17.size hS18.size)))) (fun hz => .inr (Nat.le_trans (Nat.le_trans hX8.size (Nat.le_trans hS17.size (Nat.le_trans hS18.size hS23.size))) hz))))⟩
  · have hd12 : ¬ (i7 < (a1_l.length : Int)) := dec_f hc12
    have h := h.2 hd12
    refine WP_exit ?_
    refine WP_seq ?_
    refine WP_region ?_
    refine WL_pure u5_7 (R_mv rfl) rfl rfl ?_
    refine WL_pure u5_7 (R_as rfl) rfl rfl ?_
    refine WL_nil ?_
    refine WP_ret ?_
    exact endR_ret hR (v := u5_7) (resE_1 rfl rfl) ⟨K8, u5_7, out7, rfl, h, hE8, hM8, hL7_u5, (fun g hg => (ho7_u5 g hg).elim (fun hx => (fun g hg => Nat.le_trans hE0.size (hg4_0 g hg)) g hx) (fun hx => Nat.le_trans hE4.size hx))⟩
theorem Num_c {w0 : World} {K0 : Ghost} {a0_b_v : Value} {a0_b : (List UInt8)} {a1_l_v : Value} {a1_l : (List Int)} (hM0 : Models w0 K0) (h_a0_b : kd_l_u8.V K0 a0_b a0_b_v) (h_a1_l : kd_l_u64.V K0 a1_l a1_l_v) (hp : a0_b.length + 9 * a1_l.length ≤ 140737488355328) : Calls Try.prog 58 #[a0_b_v, a1_l_v] w0 (fun e w' => ∃ (K' : Ghost) (r0 : Value), e = .returned r0 ∧ Ext NX w0 K0 w' K' ∧ Models w' K' ∧ Own Kd.byte 5 w' K' (a0_b ++ numAll a1_l) r0 ∧ (∀ g, ob r0 = some g → w0.heap.size ≤ g)) := by
  refine (Num_walk hM0 h_a0_b h_a1_l (Num_ok h_a0_b.wf h_a1_l.wf hp)).mono ?_
  rintro _ w' ⟨K', r0, o0, rfl, rfl, hF⟩
  exact ⟨K', r0, rfl, hF⟩
end Go.Proofs.Ytfbhiilolpamaaa
