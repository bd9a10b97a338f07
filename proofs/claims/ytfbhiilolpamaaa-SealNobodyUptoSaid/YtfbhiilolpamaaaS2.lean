/- Each function that stands here: what its call must answer for (_VC), that it does (_ok), the walk through its code (_walk), its contract (_c). -/
import Derived.Test.YtfbhiilolpamaaaS1
import Derived.Test.YtfbhiilolpamaaaChecked
set_option linter.unusedVariables false
set_option maxRecDepth 100000
set_option maxHeartbeats 2000000
namespace Go.Proofs.Ytfbhiilolpamaaa
open Go Go.RowKit Go.Inc
abbrev kd_l_l_u8 : Kd (List (List UInt8)) := (Kd.sl kd_l_u8)
theorem ty39 : TyOk Try.prog 39 kd_l_u8 24 := ⟨⟨Try.t39, _, Try.type39, rfl, rfl, rfl, rfl, rfl⟩, ⟨_, Try.underlying39, rfl⟩⟩
def Blob_VC (a0_b : (List UInt8)) (a1_l : (List (List UInt8))) (Q : (List UInt8) → Prop) : Prop :=
  (a0_b.length ≤ 140737488355328) ∧ ((kd_l_u8.wf a0_b) → (∃ (I7 : (List UInt8) → Int → Prop) (μ7 : (List UInt8) → Int → Nat), I7 a0_b 0 ∧ ∀ (out7 : (List UInt8)) (i7 : Int), I7 out7 i7 → (kd_l_u8.wf out7) → ((Kd.int .i64).wf i7) → (((i7 < (a1_l.length : Int)) → (0 ≤ i7 ∧ i7 < (a1_l.length : Int)) ∧ ((out7.length + 9 * [(IntKind.u64.wrap ((ix a1_l i7).length : Int))].length ≤ 140737488355328) ∧ ((kd_l_u8.wf (out7 ++ numAll [(IntKind.u64.wrap ((ix a1_l i7).length : Int))])) → ((((out7 ++ numAll [(IntKind.u64.wrap ((ix a1_l i7).length : Int))]).length + (ix a1_l i7).length) * 1 ≤ 140737488355328) ∧ (I7 ((out7 ++ numAll [(IntKind.u64.wrap ((ix a1_l i7).length : Int))]) ++ (ix a1_l i7)) (i7 + 1) ∧ μ7 ((out7 ++ numAll [(IntKind.u64.wrap ((ix a1_l i7).length : Int))]) ++ (ix a1_l i7)) (i7 + 1) < μ7 out7 i7))))) ∧ ((¬ (i7 < (a1_l.length : Int))) → Q out7))))
theorem Blob_ok {a0_b : (List UInt8)} {a1_l : (List (List UInt8))} (w_0 : kd_l_u8.wf a0_b) (w_1 : kd_l_l_u8.wf a1_l) (hp : a0_b.length + blobRoom a1_l ≤ 140737488355328) : Blob_VC a0_b a1_l (fun o0 => o0 = (a0_b ++ blobAll a1_l)) := by
  have hw : ∀ x ∈ a1_l, x.length ≤ LM := fun x hx => (w_1.2 x hx).1
  unfold Blob_VC
  refine ⟨by omega, fun _ => ⟨fun out i => ∃ j : Nat, i = (j : Int) ∧ j ≤ a1_l.length ∧ out = a0_b ++ blobAll (a1_l.take j), fun _ i => a1_l.length - i.toNat, ⟨0, rfl, by omega, by simp [blobAll]⟩, ?_⟩⟩
  rintro out i ⟨j, rfl, hj, rfl⟩ _ _
  refine ⟨fun hlt => ⟨⟨by omega, hlt⟩, ?_, fun _ => ⟨?_, ?_, ?_⟩⟩, fun hge => ?_⟩
  · have h1 := blobAll_length (a1_l.take j) (fun y hy => by have := hw y (List.mem_of_mem_take hy); unfold LM at this; omega)
    have h2 := blobRoom_step hlt
    simp only [List.length_append, List.length_cons, List.length_nil]
    omega
  · have h1 := blobAll_length (a1_l.take j) (fun y hy => by have := hw y (List.mem_of_mem_take hy); unfold LM at this; omega)
    have h2 := blobRoom_step hlt
    have h3 := hw _ (ix_mem (by omega) hlt)
    have h4 : IntKind.u64.wrap ((ix a1_l (j : Int)).length : Int) = ((ix a1_l (j : Int)).length : Int) := wrap_id ⟨by show (0 : Int) ≤ _; omega, by unfold LM at h3; show _ ≤ (18446744073709551615 : Int); omega⟩
    have h5 := numB_length (n := (ix a1_l (j : Int)).length) (by unfold LM at h3; omega)
    rw [h4]
    simp only [List.length_append, numAll, List.flatMap_cons, List.flatMap_nil, List.append_nil, Int.toNat_natCast]
    omega
  · have h3 := hw _ (ix_mem (by omega) hlt)
    have h4 : IntKind.u64.wrap ((ix a1_l (j : Int)).length : Int) = ((ix a1_l (j : Int)).length : Int) := wrap_id ⟨by show (0 : Int) ≤ _; omega, by unfold LM at h3; show _ ≤ (18446744073709551615 : Int); omega⟩
    refine ⟨j + 1, by omega, by omega, ?_⟩
    rw [h4, take_step hlt]
    simp [blobAll, numAll]
  · show a1_l.length - ((j : Int) + 1).toNat < a1_l.length - (j : Int).toNat
    omega
  · have : j = a1_l.length := by omega
    subst this
    rw [List.take_length]

theorem Blob_walk {w0 : World} {K0 : Ghost} {a0_b_v : Value} {a0_b : (List UInt8)} {a1_l_v : Value} {a1_l : (List (List UInt8))} {Q : (List UInt8) → Prop} (hM0 : Models w0 K0) (h_a0_b : kd_l_u8.V K0 a0_b a0_b_v) (h_a1_l : kd_l_l_u8.V K0 a1_l a1_l_v) (h : Blob_VC a0_b a1_l Q) : Calls Try.prog 51 #[a0_b_v, a1_l_v] w0 (fun e w' => ∃ (K' : Ghost) (r0 : Value) (o0 : (List UInt8)), e = .returned r0 ∧ Q o0 ∧ Ext NX w0 K0 w' K' ∧ Models w' K' ∧ Own Kd.byte 5 w' K' o0 r0 ∧ (∀ g, ob r0 = some g → w0.heap.size ≤ g)) := by
  unfold Blob_VC at h
  have hE0 : Ext NX w0 K0 w0 K0 := Ext.refl _ _ _
  refine calls_gen fun R hR => ?_
  refine calls_env (args := [a0_b_v, a1_l_v]) Try.func51 rfl (Nat.le_of_ble_eq_true rfl) ?_
  refine WP_seq ?_
  refine WP_region ?_
  have hR3 : Own Kd.byte 5 w0 K0 ([] : List UInt8) (.slice none 0 0) := Own.nil
  refine WL_pure (.slice none 0 0) (R_as rfl) rfl rfl ?_
  refine WL_nil ?_
  refine WP_seq ?_
  refine WP_region ?_
  refine WL_pure a0_b_v (R_mv rfl) rfl rfl ?_
  obtain ⟨hp5, h⟩ := h
  refine WL_eff rfl rfl (St_call (R_call Try.call46 rfl) ((Clone_c hM0 h_a0_b hp5).mono ?_))
  rintro _ w4 ⟨K4, v4_0, rfl, hS4, hM4, hO4_0, hg4_0⟩
  refine ⟨v4_0, rfl, ?_⟩
  have hE4 := hE0.andN hS4
  have h := h hO4_0.wf
  refine WL_pure v4_0 (R_as rfl) rfl rfl ?_
  refine WL_nil ?_
  refine WP_seq ?_
  refine WP_seq ?_
  refine WP_region ?_
  refine WL_pure a1_l_v (R_mv rfl) rfl rfl ?_
  refine WL_pure (.int .i64 (a1_l.length : Int)) (R_len rfl (h_a1_l.mono hS4.le) Try.underlying38) rfl rfl ?_
  refine WL_pure (.int .i64 0) (R_mv rfl) rfl rfl ?_
  refine WL_nil ?_
  refine WP_block ?_
  obtain ⟨I7, μ7, h0, h⟩ := h
  refine WP_loopE (ι := (List UInt8) × Int) [5, 7, 12, 13, 14, 15, 16, 17, 18, 19, 20, 21, 22, 23, 24] (fun s l w => ∃ K u5, I7 s.1 s.2 ∧ l = [(5, u5), (12, (.int .i64 s.2))] ∧ Ext (fun c => ob v4_0 = some c) w4 K4 w K ∧ Models w K ∧ (Kd.int .i64).wf s.2 ∧ Own Kd.byte 5 w K s.1 u5 ∧ (∀ g, ob u5 = some g → ob v4_0 = some g ∨ w4.heap.size ≤ g)) (fun s => μ7 s.1 s.2) (a0_b, 0) [(5, v4_0), (12, (.int .i64 0))]
    ⟨K4, v4_0, h0, rfl, Ext.refl _ _ _, hM4, (show (Kd.int .i64).wf 0 from by constructor <;> decide), hO4_0, (fun g hg => (.inl hg))⟩ (by repeat (first | exact trivial | refine ⟨rfl, ?_⟩)) ?_
  rintro ⟨out7, i7⟩ l σ7 w8 ⟨K8, u5_7, hI, rfl, hX8, hM8, hw7_12, hL7_u5, ho7_u5⟩
  dsimp only at hI hw7_12 hL7_u5 ho7_u5
  have hE8 := hE4.comp hX8 (fun c hx hlt => (fun g hg hlt => absurd hlt (Nat.not_lt.2 ((fun g hg => Nat.le_trans hE0.size (hg4_0 g hg)) g hg))) c hx hlt)
  have hR9 := (hR3.extN hS4)
  have hR10 := (hR9.ext hX8 (fun g hg hx => (fun g hg hx => (fun g hg hx => absurd (hR3.lt _ hx) (Nat.not_lt.2 (hg4_0 g hg))) g hx hg) g hg hx))
  have hR11 := (hR3.extN hS4)
  have h := h out7 i7 hI hL7_u5.wf hw7_12
  refine WP_seq ?_
  refine WP_region ?_
  refine WL_pure (.bool (decide (i7 < (a1_l.length : Int)))) (R_lss rfl rfl) rfl rfl ?_
  refine WL_nil ?_
  refine WP_seq ?_
  refine WP_cond (decide (i7 < (a1_l.length : Int))) rfl (fun hc12 => ?_) (fun hc12 => ?_)
  · have hd12 : i7 < (a1_l.length : Int) := dec_t hc12
    have h := h.1 hd12
    refine WP_skip ?_
    refine WP_seq ?_
    refine WP_block ?_
    refine WP_seq ?_
    refine WP_region ?_
    obtain ⟨hp14, h⟩ := h
    refine WL_P (S_ixs rfl (h_a1_l.mono (hS4.le.trans hX8.le)) rfl Try.underlying38 ty39 hp14.1 hp14.2) rfl rfl ?_
    rintro b13 o13 hP13
    refine WL_L hM8 (S_ld rfl ty39 hP13) rfl rfl ?_
    rintro v16 (hV16 : kd_l_u8.V _ (ix a1_l i7) _)
    refine WL_pure v16 (R_as rfl) rfl rfl ?_
    refine WL_nil ?_
    refine WP_region ?_
    refine WL_pure u5_7 (R_mv rfl) rfl rfl ?_
    refine WL_pure v16 (R_mv rfl) rfl rfl ?_
    refine WL_pure (.int .i64 ((ix a1_l i7).length : Int)) (R_len rfl hV16 Try.underlying39) rfl rfl ?_
    refine WL_pure (.int .u64 (IntKind.u64.wrap ((ix a1_l i7).length : Int))) (R_cvi rfl Try.underlying3 Try.underlying65) rfl rfl ?_
    refine WL_eff rfl rfl (St_S0 (S_bsl (k := (Kd.int .u64)) (l := [((IntKind.u64.wrap ((ix a1_l i7).length : Int)), (.int .u64 (IntKind.u64.wrap ((ix a1_l i7).length : Int))))]) hM8 rfl (by intro p hp; simp only [List.mem_cons, List.not_mem_nil, or_false] at hp; subst hp; exact (int_V (wrap_wf _ _))) rfl Try.underlying137 ty65 rfl rfl) ?_)
    rintro v18 w18 K18 (hO18 : Own (Kd.int .u64) 65 w18 K18 [(IntKind.u64.wrap ((ix a1_l i7).length : Int))] v18) hS18 hM18 hg18
    have hE18 := hE8.andN hS18
    have hR20 := (hR10.extN hS18)
    have hR21 := (hL7_u5.extN hS18)
    obtain ⟨hp23, h⟩ := h
    refine WL_eff rfl rfl (St_call (R_call Try.call58 rfl) ((Num_c hM18 hR21.V hO18.V hp23).mono ?_))
    rintro _ w22 ⟨K22, v22_0, rfl, hS22, hM22, hO22_0, hg22_0⟩
    refine ⟨v22_0, rfl, ?_⟩
    have hE22 := hE18.andN hS22
    have h := h hO22_0.wf
    refine WL_pure v16 (R_mv rfl) rfl rfl ?_
    obtain ⟨hp26, h⟩ := h
    refine WL_eff rfl rfl (St_S (S_app hM22 rfl hO22_0 rfl (hV16.mono (hS18.le.trans hS22.le)) Try.underlying39 ty5b rfl hp26) ?_)
    rintro v25 w25 K25 hO25 hS25 hM25 hob25
    have hE25 := hE22.comp hS25 (fun c hx hlt => (fun g hg hlt => absurd hlt (Nat.not_lt.2 ((fun g hg => Nat.le_trans hE18.size (hg22_0 g hg)) g hg))) c hx hlt)
    have hR27 := (hR20.extN hS22)
    have hR28 := (hR27.ext hS25 (fun g hg hx => (fun g hg hx => (fun g hg hx => absurd (hR20.lt _ hx) (Nat.not_lt.2 (hg22_0 g hg))) g hx hg) g hg hx))
    have hR29 := (hR21.extN hS22)
    have hR30 := (hR29.ext hS25 (fun g hg hx => (fun g hg hx => (fun g hg hx => absurd (hR21.lt _ hx) (Nat.not_lt.2 (hg22_0 g hg))) g hx hg) g hg hx))
    have hf25 : ∀ g, ob v25 = some g → w0.heap.size ≤ g := fun g hg => by rcases hob25 with hq | hq <;> rw [hq] at hg; exact (fun g hg => Nat.le_trans hE18.size (hg22_0 g hg)) g hg; cases hg; exact hE22.size
    have hR32 := (hR21.extN hS22)
    have hs33 : ∀ g, ob v25 = some g → ¬ (ob u5_7 = some g) := fun g hg hx => by rcases hob25 with hq | hq <;> rw [hq] at hg; exact (fun g hg hx => absurd (hR21.lt _ hx) (Nat.not_lt.2 (hg22_0 g hg))) g hg hx; cases hg; exact absurd (hR32.lt _ hx) (Nat.not_lt.2 (Nat.le_refl _))
    refine WL_pure v25 (R_as rfl) rfl rfl ?_
    refine WL_nil ?_
    refine WP_region ?_
    refine WL_pure (.int .i64 (i7 + 1)) (R_inc rfl rfl hw7_12 hd12 (len_wf (h_a1_l).wf.1)) rfl rfl ?_
    refine WL_pure (.int .i64 (i7 + 1)) (R_mv rfl) rfl rfl ?_
    refine WL_nil ?_
    refine BackQ.mk (((out7 ++ numAll [(IntKind.u64.wrap ((ix a1_l i7).length : Int))]) ++ (ix a1_l i7)), (i7 + 1)) [(5, v25), (12, (.int .i64 (i7 + 1)))] ?_ ?_ ?_ ?_
    rotate_left
    · exact h.2
    · repeat (first | exact Off.lay0 rfl | refine Off.updO ?_ rfl _ | refine Off.updN ?_ _ | refine Off.lay ?_ rfl)
    · repeat (first | exact trivial | refine ⟨rfl, ?_⟩)
    exact ⟨K25, v25, h.1, rfl, (((((Ext.refl _ _ _).comp hX8 (fun c hx hlt => (hx))).andN hS18).andN hS22).comp hS25 (fun c hx hlt => (absurd hlt (Nat.not_lt.2 (Nat.le_trans (Nat.le_trans hX8.size hS18.size) (hg22_0 c hx)))))), hM25, (inc_wf hw7_12 hd12 (len_wf (h_a1_l).wf.1)), hO25, (fun g hg => .inr (by have hg : ob v25 = some g := hg; rcases hob25 with hq | hq <;> rw [hq] at hg; exact (Nat.le_trans (Nat.le_trans hX8.size hS18.size) (hg22_0 g hg)); cases hg; exact (Nat.le_trans hX8.size (Nat.le_trans hS18.size hS22.size))))⟩
  · have hd12 : ¬ (i7 < (a1_l.length : Int)) := dec_f hc12
    have h := h.2 hd12
    refine WP_exit ?_
    refine WP_seq ?_
    refine WP_region ?_
    refine WL_pure u5_7 (R_mv rfl) rfl rfl ?_
    refine WL_pure u5_7 (R_as rfl) rfl rfl ?_
    refine WL_nil ?_
    refine WP_ret ?_
    exact endR_ret hR (v := u5_7) (resE_1 rfl rfl) ⟨K8, u5_7, out7, rfl, h, hE8, hM8, hL7_u5, (fun g hg => (ho7_u5 g hg).elim (fun hx => (fun g hg => Nat.le_trans hE0.size (hg4_0 g hg)) g hx) (fun hx => Nat.le_trans hE4.size hx))⟩
theorem Blob_c {w0 : World} {K0 : Ghost} {a0_b_v : Value} {a0_b : (List UInt8)} {a1_l_v : Value} {a1_l : (List (List UInt8))} (hM0 : Models w0 K0) (h_a0_b : kd_l_u8.V K0 a0_b a0_b_v) (h_a1_l : kd_l_l_u8.V K0 a1_l a1_l_v) (hp : a0_b.length + blobRoom a1_l ≤ 140737488355328) : Calls Try.prog 51 #[a0_b_v, a1_l_v] w0 (fun e w' => ∃ (K' : Ghost) (r0 : Value), e = .returned r0 ∧ Ext NX w0 K0 w' K' ∧ Models w' K' ∧ Own Kd.byte 5 w' K' (a0_b ++ blobAll a1_l) r0 ∧ (∀ g, ob r0 = some g → w0.heap.size ≤ g)) := by
  refine (Blob_walk hM0 h_a0_b h_a1_l (Blob_ok h_a0_b.wf h_a1_l.wf hp)).mono ?_
  rintro _ w' ⟨K', r0, o0, rfl, rfl, hF⟩
  exact ⟨K', r0, rfl, hF⟩
def Preimage_VC (a0_kind : Int) (a1_parts : (List (List UInt8))) (Q : (List UInt8) → Prop) : Prop :=
  ([(toB (IntKind.u8.wrap a0_kind))].length + blobRoom a1_parts ≤ 140737488355328) ∧ ((kd_l_u8.wf ([(toB (IntKind.u8.wrap a0_kind))] ++ blobAll a1_parts)) → (Q ([(toB (IntKind.u8.wrap a0_kind))] ++ blobAll a1_parts)))
theorem Preimage_ok {a0_kind : Int} {a1_parts : (List (List UInt8))} (w_0 : (Kd.int .i64).wf a0_kind) (w_1 : kd_l_l_u8.wf a1_parts) (hp : 1 + blobRoom a1_parts ≤ 140737488355328) : Preimage_VC a0_kind a1_parts (fun o0 => o0 = (preimage a0_kind a1_parts)) := by
  unfold Preimage_VC
  refine ⟨by simpa using hp, fun _ => rfl⟩

theorem Preimage_walk {w0 : World} {K0 : Ghost} {a0_kind_v : Value} {a0_kind : Int} {a1_parts_v : Value} {a1_parts : (List (List UInt8))} {Q : (List UInt8) → Prop} (hM0 : Models w0 K0) (h_a0_kind : (Kd.int .i64).V K0 a0_kind a0_kind_v) (h_a1_parts : kd_l_l_u8.V K0 a1_parts a1_parts_v) (h : Preimage_VC a0_kind a1_parts Q) : Calls Try.prog 26 #[a0_kind_v, a1_parts_v] w0 (fun e w' => ∃ (K' : Ghost) (r0 : Value) (o0 : (List UInt8)), e = .returned r0 ∧ Q o0 ∧ Ext NX w0 K0 w' K' ∧ Models w' K' ∧ Own Kd.byte 5 w' K' o0 r0 ∧ (∀ g, ob r0 = some g → w0.heap.size ≤ g)) := by
  unfold Preimage_VC at h
  obtain rfl := int_form h_a0_kind
  have hE0 : Ext NX w0 K0 w0 K0 := Ext.refl _ _ _
  refine calls_gen fun R hR => ?_
  refine calls_env (args := [(.int .i64 a0_kind), a1_parts_v]) Try.func26 rfl (Nat.le_of_ble_eq_true rfl) ?_
  refine WP_seq ?_
  refine WP_region ?_
  have hR2 : Own Kd.byte 5 w0 K0 ([] : List UInt8) (.slice none 0 0) := Own.nil
  refine WL_pure (.slice none 0 0) (R_as rfl) rfl rfl ?_
  refine WL_nil ?_
  refine WP_seq ?_
  refine WP_region ?_
  refine WL_pure (.int .i64 a0_kind) (R_mv rfl) rfl rfl ?_
  refine WL_pure (.int .u8 (IntKind.u8.wrap a0_kind)) (R_cvi rfl Try.underlying3 Try.underlying5) rfl rfl ?_
  refine WL_eff rfl rfl (St_S0 (S_bsl (k := Kd.byte) (l := [((toB (IntKind.u8.wrap a0_kind)), (.int .u8 (IntKind.u8.wrap a0_kind)))]) hM0 rfl (by intro p hp; simp only [List.mem_cons, List.not_mem_nil, or_false] at hp; subst hp; exact (byte_V (wrap_wf _ _))) rfl Try.underlying39 ty5b rfl rfl) ?_)
  rintro v3 w3 K3 (hO3 : Own Kd.byte 5 w3 K3 [(toB (IntKind.u8.wrap a0_kind))] v3) hS3 hM3 hg3
  have hE3 := hE0.andN hS3
  refine WL_pure a1_parts_v (R_mv rfl) rfl rfl ?_
  have hR5 := (hR2.extN hS3)
  obtain ⟨hp7, h⟩ := h
  refine WL_eff rfl rfl (St_call (R_call Try.call51 rfl) ((Blob_c hM3 hO3.V (h_a1_parts.mono hS3.le) hp7).mono ?_))
  rintro _ w6 ⟨K6, v6_0, rfl, hS6, hM6, hO6_0, hg6_0⟩
  refine ⟨v6_0, rfl, ?_⟩
  have hE6 := hE3.andN hS6
  have h := h hO6_0.wf
  refine WL_pure v6_0 (R_as rfl) rfl rfl ?_
  refine WL_nil ?_
  refine WP_ret ?_
  exact endR_ret hR (v := v6_0) (resE_1 rfl rfl) ⟨K6, v6_0, ([(toB (IntKind.u8.wrap a0_kind))] ++ blobAll a1_parts), rfl, h, hE6, hM6, hO6_0, (fun g hg => Nat.le_trans hE3.size (hg6_0 g hg))⟩
theorem Preimage_c {w0 : World} {K0 : Ghost} {a0_kind_v : Value} {a0_kind : Int} {a1_parts_v : Value} {a1_parts : (List (List UInt8))} (hM0 : Models w0 K0) (h_a0_kind : (Kd.int .i64).V K0 a0_kind a0_kind_v) (h_a1_parts : kd_l_l_u8.V K0 a1_parts a1_parts_v) (hp : 1 + blobRoom a1_parts ≤ 140737488355328) : Calls Try.prog 26 #[a0_kind_v, a1_parts_v] w0 (fun e w' => ∃ (K' : Ghost) (r0 : Value), e = .returned r0 ∧ Ext NX w0 K0 w' K' ∧ Models w' K' ∧ Own Kd.byte 5 w' K' (preimage a0_kind a1_parts) r0 ∧ (∀ g, ob r0 = some g → w0.heap.size ≤ g)) := by
  refine (Preimage_walk hM0 h_a0_kind h_a1_parts (Preimage_ok h_a0_kind.wf h_a1_parts.wf hp)).mono ?_
  rintro _ w' ⟨K', r0, o0, rfl, rfl, hF⟩
  exact ⟨K', r0, rfl, hF⟩
def Grow_VC (a1_n : Int) (Q : (List UInt8) → Prop) : Prop :=
  ((a1_n < 0) → False) ∧ ((¬ (a1_n < 0)) → ((0 < (IntKind.i64.wrap (a1_n - (IntKind.i64.wrap (0 - (([] : List UInt8).length : Int)))))) → (0 < (IntKind.i64.wrap (a1_n - (IntKind.i64.wrap (0 - (([] : List UInt8).length : Int))))) ∧ (IntKind.i64.wrap (a1_n - (IntKind.i64.wrap (0 - (([] : List UInt8).length : Int))))) * 1 ≤ 140737488355328) ∧ (Q ([] : List UInt8))) ∧ ((¬ (0 < (IntKind.i64.wrap (a1_n - (IntKind.i64.wrap (0 - (([] : List UInt8).length : Int))))))) → Q ([] : List UInt8)))
theorem Grow_ok {a1_n : Int} (w_0 : (Kd.int .i64).wf a1_n) (hp : 0 ≤ a1_n ∧ a1_n ≤ 140737488355328) : Grow_VC a1_n (fun o0 => o0 = ([] : List UInt8)) := by
  have e1 : IntKind.i64.wrap (0 - (([] : List UInt8).length : Int)) = 0 := by decide
  have e2 : IntKind.i64.wrap (a1_n - 0) = a1_n := by rw [Int.sub_zero]; exact wrap_id w_0
  unfold Grow_VC
  rw [e1, e2]
  exact ⟨fun h => by omega, fun _ => ⟨fun h => ⟨⟨h, by omega⟩, rfl⟩, fun _ => rfl⟩⟩

theorem Grow_walk {w0 : World} {K0 : Ghost} {a1_n_v : Value} {a1_n : Int} {Q : (List UInt8) → Prop} (hM0 : Models w0 K0) (h_a1_n : (Kd.int .i64).V K0 a1_n a1_n_v) (h : Grow_VC a1_n Q) : Calls Try.prog 104 #[(.slice none 0 0), a1_n_v] w0 (fun e w' => ∃ (K' : Ghost) (r0 : Value) (o0 : (List UInt8)), e = .returned r0 ∧ Q o0 ∧ Ext NX w0 K0 w' K' ∧ Models w' K' ∧ Own Kd.byte 5 w' K' o0 r0 ∧ (∀ g, ob r0 = some g → w0.heap.size ≤ g)) := by
  unfold Grow_VC at h
  have hR1 : Own Kd.byte 5 w0 K0 ([] : List UInt8) (.slice none 0 0) := Own.nil
  obtain rfl := int_form h_a1_n
  have hE0 : Ext NX w0 K0 w0 K0 := Ext.refl _ _ _
  refine calls_gen fun R hR => ?_
  refine calls_env (args := [(.slice none 0 0), (.int .i64 a1_n)]) Try.func104 rfl (Nat.le_of_ble_eq_true rfl) ?_
  refine WP_seq ?_
  refine WP_region ?_
  have hR2 : Own Kd.byte 5 w0 K0 ([] : List UInt8) (.slice none 0 0) := Own.nil
  refine WL_pure (.slice none 0 0) (R_as rfl) rfl rfl ?_
  refine WL_nil ?_
  refine WP_seq ?_
  refine WP_seq ?_
  refine WP_region ?_
  refine WL_pure (.int .i64 a1_n) (R_mv rfl) rfl rfl ?_
  refine WL_pure (.bool (decide (a1_n < 0))) (R_lss rfl rfl) rfl rfl ?_
  refine WL_nil ?_
  refine WP_cond (decide (a1_n < 0)) rfl (fun hc3 => ?_) (fun hc3 => ?_)
  · have hd3 : a1_n < 0 := dec_t hc3
    have h := h.1 hd3
    refine WP_region ?_
    exact h.elim
  · have hd3 : ¬ (a1_n < 0) := dec_f hc3
    have h := h.2 hd3
    refine WP_skip ?_
    refine WP_seq ?_
    refine WP_seq ?_
    refine WP_region ?_
    refine WL_pure (.int .i64 a1_n) (R_mv rfl) rfl rfl ?_
    refine WL_pure (.slice none 0 0) (R_mv rfl) rfl rfl ?_
    refine WL_pure (.int .i64 0) (R_cap rfl Try.underlying39) rfl rfl ?_
    refine WL_pure (.slice none 0 0) (R_mv rfl) rfl rfl ?_
    refine WL_pure (.int .i64 (([] : List UInt8).length : Int)) (R_len rfl hR1.V Try.underlying39) rfl rfl ?_
    refine WL_pure (.int .i64 (IntKind.i64.wrap (0 - (([] : List UInt8).length : Int)))) (R_sub rfl rfl) rfl rfl ?_
    refine WL_pure (.int .i64 (IntKind.i64.wrap (a1_n - (IntKind.i64.wrap (0 - (([] : List UInt8).length : Int)))))) (R_sub rfl rfl) rfl rfl ?_
    refine WL_pure (.int .i64 (IntKind.i64.wrap (a1_n - (IntKind.i64.wrap (0 - (([] : List UInt8).length : Int)))))) (R_as rfl) rfl rfl ?_
    refine WL_nil ?_
    refine WP_seq ?_
    refine WP_region ?_
    refine WL_pure (.int .i64 (IntKind.i64.wrap (a1_n - (IntKind.i64.wrap (0 - (([] : List UInt8).length : Int)))))) (R_mv rfl) rfl rfl ?_
    refine WL_pure (.bool (decide (0 < (IntKind.i64.wrap (a1_n - (IntKind.i64.wrap (0 - (([] : List UInt8).length : Int)))))))) (R_gtr rfl rfl) rfl rfl ?_
    refine WL_nil ?_
    refine WP_cond (decide (0 < (IntKind.i64.wrap (a1_n - (IntKind.i64.wrap (0 - (([] : List UInt8).length : Int))))))) rfl (fun hc4 => ?_) (fun hc4 => ?_)
    · have hd4 : 0 < (IntKind.i64.wrap (a1_n - (IntKind.i64.wrap (0 - (([] : List UInt8).length : Int))))) := dec_t hc4
      have h := h.1 hd4
      refine WP_region ?_
      refine WL_pure (.slice none 0 0) (R_mv rfl) rfl rfl ?_
      refine WL_pure (.slice none 0 0) (R_mv rfl) rfl rfl ?_
      refine WL_pure (.int .i64 0) (R_cap rfl Try.underlying39) rfl rfl ?_
      refine WL_pure (.slice none 0 0) (R_slnil0 rfl rfl Try.underlying39 ty5b) rfl rfl ?_
      refine WL_pure (.int .i64 (IntKind.i64.wrap (a1_n - (IntKind.i64.wrap (0 - (([] : List UInt8).length : Int)))))) (R_mv rfl) rfl rfl ?_
      obtain ⟨hp7, h⟩ := h
      refine WL_eff rfl rfl (St_FZ (S_appZ hM0 rfl rfl Try.underlying39 Try.underlying3 ty5b rfl hp7.1 hp7.2) ?_)
      rintro v6 w6 hF6 hS6 hM6 hg6
      have hE6 := hE0.andN hS6
      have hf6 : ∀ g, ob v6 = some g → w0.heap.size ≤ g := fun g hg => Nat.le_trans hE0.size (hg6 g hg)
      refine WL_pure (.slice none 0 0) (R_mv rfl) rfl rfl ?_
      refine WL_pure (.int .i64 (([] : List UInt8).length : Int)) (R_len rfl (hR1.V.mono hS6.le) Try.underlying39) rfl rfl ?_
      refine WL_eff rfl rfl (St_FC (S_cut0 hM6 rfl hF6 rfl Try.underlying39 ty5b) ?_)
      rintro v8 w8 K8 (hO8 : Own Kd.byte 5 w8 K8 ([] : List UInt8) v8) hS8 hM8 hob8
      have hE8 := hE6.comp hS8 (fun c hx hlt => absurd hlt (Nat.not_lt.2 (hf6 c hx)))
      have hf8 : ∀ g, ob v8 = some g → w0.heap.size ≤ g := fun g hg => hf6 g (hob8 g hg)
      refine WL_pure v8 (R_as rfl) rfl rfl ?_
      refine WL_nil ?_
      refine WP_seq ?_
      refine WP_region ?_
      refine WL_pure v8 (R_mv rfl) rfl rfl ?_
      refine WL_pure v8 (R_as rfl) rfl rfl ?_
      refine WL_nil ?_
      refine WP_ret ?_
      exact endR_ret hR (v := v8) (resE_1 rfl rfl) ⟨K8, v8, ([] : List UInt8), rfl, h, hE8, hM8, hO8, hf8⟩
    · have hd4 : ¬ (0 < (IntKind.i64.wrap (a1_n - (IntKind.i64.wrap (0 - (([] : List UInt8).length : Int)))))) := dec_f hc4
      have h := h.2 hd4
      refine WP_skip ?_
      refine WP_seq ?_
      refine WP_region ?_
      refine WL_pure (.slice none 0 0) (R_mv rfl) rfl rfl ?_
      refine WL_pure (.slice none 0 0) (R_as rfl) rfl rfl ?_
      refine WL_nil ?_
      refine WP_ret ?_
      exact endR_ret hR (v := (.slice none 0 0)) (resE_1 rfl rfl) ⟨K0, (.slice none 0 0), ([] : List UInt8), rfl, h, hE0, hM0, hR1, (fun g hg => nilS hg)⟩
theorem Grow_c {w0 : World} {K0 : Ghost} {a1_n_v : Value} {a1_n : Int} (hM0 : Models w0 K0) (h_a1_n : (Kd.int .i64).V K0 a1_n a1_n_v) (hp : 0 ≤ a1_n ∧ a1_n ≤ 140737488355328) : Calls Try.prog 104 #[(.slice none 0 0), a1_n_v] w0 (fun e w' => ∃ (K' : Ghost) (r0 : Value), e = .returned r0 ∧ Ext NX w0 K0 w' K' ∧ Models w' K' ∧ Own Kd.byte 5 w' K' ([] : List UInt8) r0 ∧ (∀ g, ob r0 = some g → w0.heap.size ≤ g)) := by
  refine (Grow_walk hM0 h_a1_n (Grow_ok h_a1_n.wf hp)).mono ?_
  rintro _ w' ⟨K', r0, o0, rfl, rfl, hF⟩
  exact ⟨K', r0, rfl, hF⟩
def Concat_VC (a0_slices : (List (List UInt8))) (Q : (List UInt8) → Prop) : Prop :=
  ∃ (I3 : Int → Int → Prop) (μ3 : Int → Int → Nat), I3 0 0 ∧ ∀ (size3 : Int) (i3 : Int), I3 size3 i3 → ((Kd.int .i64).wf size3) → ((Kd.int .i64).wf i3) → (((i3 < (a0_slices.length : Int)) → (0 ≤ i3 ∧ i3 < (a0_slices.length : Int)) ∧ ((((IntKind.i64.wrap (size3 + ((ix a0_slices i3).length : Int))) < 0) → False) ∧ ((¬ ((IntKind.i64.wrap (size3 + ((ix a0_slices i3).length : Int))) < 0)) → I3 (IntKind.i64.wrap (size3 + ((ix a0_slices i3).length : Int))) (i3 + 1) ∧ μ3 (IntKind.i64.wrap (size3 + ((ix a0_slices i3).length : Int))) (i3 + 1) < μ3 size3 i3))) ∧ ((¬ (i3 < (a0_slices.length : Int))) → (0 ≤ size3 ∧ size3 ≤ 140737488355328) ∧ ((kd_l_u8.wf ([] : List UInt8)) → (∃ (I17 : (List UInt8) → Int → Prop) (μ17 : (List UInt8) → Int → Nat), I17 ([] : List UInt8) 0 ∧ ∀ (newslice17 : (List UInt8)) (i17 : Int), I17 newslice17 i17 → (kd_l_u8.wf newslice17) → ((Kd.int .i64).wf i17) → (((i17 < (a0_slices.length : Int)) → (0 ≤ i17 ∧ i17 < (a0_slices.length : Int)) ∧ (((newslice17.length + (ix a0_slices i17).length) * 1 ≤ 140737488355328) ∧ (I17 (newslice17 ++ (ix a0_slices i17)) (i17 + 1) ∧ μ17 (newslice17 ++ (ix a0_slices i17)) (i17 + 1) < μ17 newslice17 i17))) ∧ ((¬ (i17 < (a0_slices.length : Int))) → Q newslice17))))))
theorem Concat_ok {a0_slices : (List (List UInt8))} (w_0 : kd_l_l_u8.wf a0_slices) (hp : a0_slices.flatten.length ≤ 140737488355328) : Concat_VC a0_slices (fun o0 => o0 = a0_slices.flatten) := by
  have hst : ∀ j : Nat, (j : Int) < (a0_slices.length : Int) → (a0_slices.take j).flatten.length + (ix a0_slices (j : Int)).length ≤ 140737488355328 := fun j hj => by
    have h1 := flat_take (l := a0_slices) (j + 1)
    rw [flat_step hj, List.length_append] at h1
    omega
  unfold Concat_VC
  refine ⟨fun s i => ∃ j : Nat, i = (j : Int) ∧ j ≤ a0_slices.length ∧ s = ((a0_slices.take j).flatten.length : Int), fun _ i => a0_slices.length - i.toNat, ⟨0, rfl, by omega, by simp⟩, ?_⟩
  rintro s i ⟨j, rfl, hj, rfl⟩ _ _
  refine ⟨fun hlt => ⟨⟨by omega, hlt⟩, ?_⟩, fun hge => ?_⟩
  · have h1 := hst j hlt
    have e : IntKind.i64.wrap (((a0_slices.take j).flatten.length : Int) + ((ix a0_slices (j : Int)).length : Int)) = ((a0_slices.take (j + 1)).flatten.length : Int) := by
      rw [wrap_id (wf64 (by omega) (by omega)), flat_step hlt, List.length_append]
      omega
    rw [e]
    refine ⟨fun h => by omega, fun _ => ⟨⟨j + 1, by omega, by omega, rfl⟩, ?_⟩⟩
    show a0_slices.length - ((j : Int) + 1).toNat < a0_slices.length - (j : Int).toNat
    omega
  · have h1 := flat_take (l := a0_slices) j
    refine ⟨⟨by omega, by omega⟩, fun _ => ⟨fun out i => ∃ j : Nat, i = (j : Int) ∧ j ≤ a0_slices.length ∧ out = (a0_slices.take j).flatten, fun _ i => a0_slices.length - i.toNat, ⟨0, rfl, by omega, by simp⟩, ?_⟩⟩
    rintro out i ⟨m, rfl, hm, rfl⟩ _ _
    refine ⟨fun hlt => ⟨⟨by omega, hlt⟩, ?_, ⟨m + 1, by omega, by omega, (flat_step hlt).symm⟩, ?_⟩, fun hge => ?_⟩
    · have := hst m hlt
      omega
    · show a0_slices.length - ((m : Int) + 1).toNat < a0_slices.length - (m : Int).toNat
      omega
    · have : m = a0_slices.length := by omega
      subst this
      rw [List.take_length]

theorem Concat_walk {w0 : World} {K0 : Ghost} {a0_slices_v : Value} {a0_slices : (List (List UInt8))} {Q : (List UInt8) → Prop} (hM0 : Models w0 K0) (h_a0_slices : kd_l_l_u8.V K0 a0_slices a0_slices_v) (h : Concat_VC a0_slices Q) : Calls Try.prog 91 #[a0_slices_v] w0 (fun e w' => ∃ (K' : Ghost) (r0 : Value) (o0 : (List UInt8)), e = .returned r0 ∧ Q o0 ∧ Ext NX w0 K0 w' K' ∧ Models w' K' ∧ Own Kd.byte 5 w' K' o0 r0 ∧ (∀ g, ob r0 = some g → w0.heap.size ≤ g)) := by
  unfold Concat_VC at h
  have hE0 : Ext NX w0 K0 w0 K0 := Ext.refl _ _ _
  refine calls_gen fun R hR => ?_
  refine calls_env (args := [a0_slices_v]) Try.func91 rfl (Nat.le_of_ble_eq_true rfl) ?_
  refine WP_seq ?_
  refine WP_region ?_
  have hR2 : Own Kd.byte 5 w0 K0 ([] : List UInt8) (.slice none 0 0) := Own.nil
  refine WL_pure (.slice none 0 0) (R_as rfl) rfl rfl ?_
  refine WL_nil ?_
  refine WP_seq ?_
  refine WP_region ?_
  refine WL_pure (.int .i64 0) (R_as rfl) rfl rfl ?_
  refine WL_nil ?_
  refine WP_seq ?_
  refine WP_seq ?_
  refine WP_region ?_
  refine WL_pure a0_slices_v (R_mv rfl) rfl rfl ?_
  refine WL_pure (.int .i64 (a0_slices.length : Int)) (R_len rfl h_a0_slices Try.underlying38) rfl rfl ?_
  refine WL_pure (.int .i64 0) (R_mv rfl) rfl rfl ?_
  refine WL_nil ?_
  refine WP_block ?_
  obtain ⟨I3, μ3, h0, h⟩ := h
  refine WP_loopE (ι := Int × Int) [3, 5, 11, 12, 13, 14, 15, 16, 17, 18, 19, 20, 21, 22] (fun s l w => ∃ K, I3 s.1 s.2 ∧ l = [(3, (.int .i64 s.1)), (11, (.int .i64 s.2))] ∧ Ext NX w0 K0 w K ∧ Models w K ∧ (Kd.int .i64).wf s.1 ∧ (Kd.int .i64).wf s.2) (fun s => μ3 s.1 s.2) (0, 0) [(3, (.int .i64 0)), (11, (.int .i64 0))]
    ⟨K0, h0, rfl, Ext.refl _ _ _, hM0, (show (Kd.int .i64).wf 0 from by constructor <;> decide), (show (Kd.int .i64).wf 0 from by constructor <;> decide)⟩ (by repeat (first | exact trivial | refine ⟨rfl, ?_⟩)) ?_
  rintro ⟨size3, i3⟩ l σ3 w4 ⟨K4, hI, rfl, hX4, hM4, hw3_3, hw3_11⟩
  dsimp only at hI hw3_3 hw3_11
  have hE4 := hE0.andN hX4
  have h := h size3 i3 hI hw3_3 hw3_11
  refine WP_seq ?_
  refine WP_region ?_
  refine WL_pure (.bool (decide (i3 < (a0_slices.length : Int)))) (R_lss rfl rfl) rfl rfl ?_
  refine WL_nil ?_
  refine WP_seq ?_
  refine WP_cond (decide (i3 < (a0_slices.length : Int))) rfl (fun hc5 => ?_) (fun hc5 => ?_)
  · have hd5 : i3 < (a0_slices.length : Int) := dec_t hc5
    have h := h.1 hd5
    refine WP_skip ?_
    refine WP_seq ?_
    refine WP_block ?_
    refine WP_seq ?_
    refine WP_region ?_
    obtain ⟨hp7, h⟩ := h
    refine WL_P (S_ixs rfl (h_a0_slices.mono hX4.le) rfl Try.underlying38 ty39 hp7.1 hp7.2) rfl rfl ?_
    rintro b6 o6 hP6
    refine WL_L hM4 (S_ld rfl ty39 hP6) rfl rfl ?_
    rintro v9 (hV9 : kd_l_u8.V _ (ix a0_slices i3) _)
    refine WL_pure v9 (R_as rfl) rfl rfl ?_
    refine WL_nil ?_
    refine WP_seq ?_
    refine WP_region ?_
    refine WL_pure (.int .i64 size3) (R_mv rfl) rfl rfl ?_
    refine WL_pure v9 (R_mv rfl) rfl rfl ?_
    refine WL_pure (.int .i64 ((ix a0_slices i3).length : Int)) (R_len rfl hV9 Try.underlying39) rfl rfl ?_
    refine WL_pure (.int .i64 (IntKind.i64.wrap (size3 + ((ix a0_slices i3).length : Int)))) (R_add rfl rfl) rfl rfl ?_
    refine WL_pure (.int .i64 (IntKind.i64.wrap (size3 + ((ix a0_slices i3).length : Int)))) (R_as rfl) rfl rfl ?_
    refine WL_nil ?_
    refine WP_seq ?_
    refine WP_region ?_
    refine WL_pure (.int .i64 (IntKind.i64.wrap (size3 + ((ix a0_slices i3).length : Int)))) (R_mv rfl) rfl rfl ?_
    refine WL_pure (.bool (decide ((IntKind.i64.wrap (size3 + ((ix a0_slices i3).length : Int))) < 0))) (R_lss rfl rfl) rfl rfl ?_
    refine WL_nil ?_
    refine WP_cond (decide ((IntKind.i64.wrap (size3 + ((ix a0_slices i3).length : Int))) < 0)) rfl (fun hc11 => ?_) (fun hc11 => ?_)
    · have hd11 : (IntKind.i64.wrap (size3 + ((ix a0_slices i3).length : Int))) < 0 := dec_t hc11
      have h := h.1 hd11
      refine WP_region ?_
      exact h.elim
    · have hd11 : ¬ ((IntKind.i64.wrap (size3 + ((ix a0_slices i3).length : Int))) < 0) := dec_f hc11
      have h := h.2 hd11
      refine WP_skip ?_
      refine WP_region ?_
      refine WL_pure (.int .i64 (i3 + 1)) (R_inc rfl rfl hw3_11 hd5 (len_wf (h_a0_slices).wf.1)) rfl rfl ?_
      refine WL_pure (.int .i64 (i3 + 1)) (R_mv rfl) rfl rfl ?_
      refine WL_nil ?_
      refine BackQ.mk ((IntKind.i64.wrap (size3 + ((ix a0_slices i3).length : Int))), (i3 + 1)) [(3, (.int .i64 (IntKind.i64.wrap (size3 + ((ix a0_slices i3).length : Int))))), (11, (.int .i64 (i3 + 1)))] ?_ ?_ ?_ ?_
      rotate_left
      · exact h.2
      · repeat (first | exact Off.lay0 rfl | refine Off.updO ?_ rfl _ | refine Off.updN ?_ _ | refine Off.lay ?_ rfl)
      · repeat (first | exact trivial | refine ⟨rfl, ?_⟩)
      exact ⟨K4, h.1, rfl, ((Ext.refl _ _ _).andN hX4), hM4, (wrap_wf _ _), (inc_wf hw3_11 hd5 (len_wf (h_a0_slices).wf.1))⟩
  · have hd5 : ¬ (i3 < (a0_slices.length : Int)) := dec_f hc5
    have h := h.2 hd5
    refine WP_exit ?_
    refine WP_seq ?_
    refine WP_region ?_
    refine WL_pure (.int .i64 size3) (R_mv rfl) rfl rfl ?_
    have hR12 : Own Kd.byte 5 w4 K4 ([] : List UInt8) (.slice none 0 0) := Own.nil
    have hR13 := (hR2.extN hX4)
    obtain ⟨hp15, h⟩ := h
    refine WL_eff rfl rfl (St_call (R_call Try.call104 rfl) ((Grow_c hM4 (int_V hw3_3) hp15).mono ?_))
    rintro _ w14 ⟨K14, v14_0, rfl, hS14, hM14, hO14_0, hg14_0⟩
    refine ⟨v14_0, rfl, ?_⟩
    have hE14 := hE4.andN hS14
    have h := h hO14_0.wf
    refine WL_pure v14_0 (R_as rfl) rfl rfl ?_
    refine WL_nil ?_
    refine WP_seq ?_
    refine WP_seq ?_
    refine WP_region ?_
    refine WL_pure a0_slices_v (R_mv rfl) rfl rfl ?_
    refine WL_pure (.int .i64 (a0_slices.length : Int)) (R_len rfl (h_a0_slices.mono (hX4.le.trans hS14.le)) Try.underlying38) rfl rfl ?_
    refine WL_pure (.int .i64 0) (R_mv rfl) rfl rfl ?_
    refine WL_nil ?_
    refine WP_block ?_
    obtain ⟨I17, μ17, h0, h⟩ := h
    refine WP_loopE (ι := (List UInt8) × Int) [6, 8, 27, 28, 29, 30, 31, 32, 33, 34] (fun s l w => ∃ K u6, I17 s.1 s.2 ∧ l = [(6, u6), (27, (.int .i64 s.2))] ∧ Ext (fun c => ob v14_0 = some c) w14 K14 w K ∧ Models w K ∧ (Kd.int .i64).wf s.2 ∧ Own Kd.byte 5 w K s.1 u6 ∧ (∀ g, ob u6 = some g → ob v14_0 = some g ∨ w14.heap.size ≤ g)) (fun s => μ17 s.1 s.2) (([] : List UInt8), 0) [(6, v14_0), (27, (.int .i64 0))]
      ⟨K14, v14_0, h0, rfl, Ext.refl _ _ _, hM14, (show (Kd.int .i64).wf 0 from by constructor <;> decide), hO14_0, (fun g hg => (.inl hg))⟩ (by repeat (first | exact trivial | refine ⟨rfl, ?_⟩)) ?_
    rintro ⟨newslice17, i17⟩ l σ17 w18 ⟨K18, u6_17, hI, rfl, hX18, hM18, hw17_27, hL17_u6, ho17_u6⟩
    dsimp only at hI hw17_27 hL17_u6 ho17_u6
    have hE18 := hE14.comp hX18 (fun c hx hlt => (fun g hg hlt => absurd hlt (Nat.not_lt.2 ((fun g hg => Nat.le_trans hE4.size (hg14_0 g hg)) g hg))) c hx hlt)
    have hR19 := (hR13.extN hS14)
    have hR20 := (hR19.ext hX18 (fun g hg hx => (fun g hg hx => (fun g hg hx => absurd (hR13.lt _ hx) (Nat.not_lt.2 (hg14_0 g hg))) g hx hg) g hg hx))
    have hR21 := (hR12.extN hS14)
    have hR22 := (hR21.ext hX18 (fun g hg hx => (fun g hg hx => (fun g hg hx => absurd (hR12.lt _ hx) (Nat.not_lt.2 (hg14_0 g hg))) g hx hg) g hg hx))
    have hR23 := (hR13.extN hS14)
    have hR24 := (hR12.extN hS14)
    have h := h newslice17 i17 hI hL17_u6.wf hw17_27
    refine WP_seq ?_
    refine WP_region ?_
    refine WL_pure (.bool (decide (i17 < (a0_slices.length : Int)))) (R_lss rfl rfl) rfl rfl ?_
    refine WL_nil ?_
    refine WP_seq ?_
    refine WP_cond (decide (i17 < (a0_slices.length : Int))) rfl (fun hc25 => ?_) (fun hc25 => ?_)
    · have hd25 : i17 < (a0_slices.length : Int) := dec_t hc25
      have h := h.1 hd25
      refine WP_skip ?_
      refine WP_seq ?_
      refine WP_block ?_
      refine WP_seq ?_
      refine WP_region ?_
      obtain ⟨hp27, h⟩ := h
      refine WL_P (S_ixs rfl (h_a0_slices.mono (hX4.le.trans (hS14.le.trans hX18.le))) rfl Try.underlying38 ty39 hp27.1 hp27.2) rfl rfl ?_
      rintro b26 o26 hP26
      refine WL_L hM18 (S_ld rfl ty39 hP26) rfl rfl ?_
      rintro v29 (hV29 : kd_l_u8.V _ (ix a0_slices i17) _)
      refine WL_pure v29 (R_as rfl) rfl rfl ?_
      refine WL_nil ?_
      refine WP_region ?_
      refine WL_pure u6_17 (R_mv rfl) rfl rfl ?_
      refine WL_pure v29 (R_mv rfl) rfl rfl ?_
      obtain ⟨hp32, h⟩ := h
      refine WL_eff rfl rfl (St_S (S_app hM18 rfl hL17_u6 rfl hV29 Try.underlying39 ty5b rfl hp32) ?_)
      rintro v31 w31 K31 hO31 hS31 hM31 hob31
      have hE31 := hE18.comp hS31 (fun c hx hlt => (fun g hg hlt => absurd hlt (Nat.not_lt.2 ((fun g hg => (ho17_u6 g hg).elim (fun hx => (fun g hg => Nat.le_trans hE4.size (hg14_0 g hg)) g hx) (fun hx => Nat.le_trans hE14.size hx)) g hg))) c hx hlt)
      have hR33 := (hR20.ext hS31 (fun g hg hx => (fun g hg hx => (fun g hg hy => (ho17_u6 g hg).elim (fun hz => (fun g hg hx => absurd (hR13.lt _ hx) (Nat.not_lt.2 (hg14_0 g hg))) g hz hy) (fun hz => absurd (hR23.lt _ hy) (Nat.not_lt.2 hz))) g hx hg) g hg hx))
      have hR34 := (hR22.ext hS31 (fun g hg hx => (fun g hg hx => (fun g hg hy => (ho17_u6 g hg).elim (fun hz => (fun g hg hx => absurd (hR12.lt _ hx) (Nat.not_lt.2 (hg14_0 g hg))) g hz hy) (fun hz => absurd (hR24.lt _ hy) (Nat.not_lt.2 hz))) g hx hg) g hg hx))
      have hf31 : ∀ g, ob v31 = some g → w0.heap.size ≤ g := fun g hg => by rcases hob31 with hq | hq <;> rw [hq] at hg; exact (fun g hg => (ho17_u6 g hg).elim (fun hx => (fun g hg => Nat.le_trans hE4.size (hg14_0 g hg)) g hx) (fun hx => Nat.le_trans hE14.size hx)) g hg; cases hg; exact hE18.size
      refine WL_pure v31 (R_as rfl) rfl rfl ?_
      refine WL_nil ?_
      refine WP_region ?_
      refine WL_pure (.int .i64 (i17 + 1)) (R_inc rfl rfl hw17_27 hd25 (len_wf (h_a0_slices).wf.1)) rfl rfl ?_
      refine WL_pure (.int .i64 (i17 + 1)) (R_mv rfl) rfl rfl ?_
      refine WL_nil ?_
      refine BackQ.mk ((newslice17 ++ (ix a0_slices i17)), (i17 + 1)) [(6, v31), (27, (.int .i64 (i17 + 1)))] ?_ ?_ ?_ ?_
      rotate_left
      · exact h.2
      · repeat (first | exact Off.lay0 rfl | refine Off.updO ?_ rfl _ | refine Off.updN ?_ _ | refine Off.lay ?_ rfl)
      · repeat (first | exact trivial | refine ⟨rfl, ?_⟩)
      exact ⟨K31, v31, h.1, rfl, (((Ext.refl _ _ _).comp hX18 (fun c hx hlt => (hx))).comp hS31 (fun c hx hlt => ((((ho17_u6 c hx).elim (fun hz => (.inl hz)) (fun hz => .inr (Nat.le_trans (Nat.le_refl _) hz))) : ob v14_0 = some c ∨ w14.heap.size ≤ c).elim (fun hx => (hx)) (fun hz => absurd hlt (Nat.not_lt.2 hz))))), hM31, (inc_wf hw17_27 hd25 (len_wf (h_a0_slices).wf.1)), hO31, (fun g hg => (by have hg : ob v31 = some g := hg; rcases hob31 with hq | hq <;> rw [hq] at hg; exact ((ho17_u6 g hg).elim (fun hz => (.inl hz)) (fun hz => .inr (Nat.le_trans (Nat.le_refl _) hz))); cases hg; exact .inr hX18.size))⟩
    · have hd25 : ¬ (i17 < (a0_slices.length : Int)) := dec_f hc25
      have h := h.2 hd25
      refine WP_exit ?_
      refine WP_seq ?_
      refine WP_region ?_
      refine WL_pure u6_17 (R_mv rfl) rfl rfl ?_
      refine WL_pure u6_17 (R_as rfl) rfl rfl ?_
      refine WL_nil ?_
      refine WP_ret ?_
      exact endR_ret hR (v := u6_17) (resE_1 rfl rfl) ⟨K18, u6_17, newslice17, rfl, h, hE18, hM18, hL17_u6, (fun g hg => (ho17_u6 g hg).elim (fun hx => (fun g hg => Nat.le_trans hE4.size (hg14_0 g hg)) g hx) (fun hx => Nat.le_trans hE14.size hx))⟩
theorem Concat_c {w0 : World} {K0 : Ghost} {a0_slices_v : Value} {a0_slices : (List (List UInt8))} (hM0 : Models w0 K0) (h_a0_slices : kd_l_l_u8.V K0 a0_slices a0_slices_v) (hp : a0_slices.flatten.length ≤ 140737488355328) : Calls Try.prog 91 #[a0_slices_v] w0 (fun e w' => ∃ (K' : Ghost) (r0 : Value), e = .returned r0 ∧ Ext NX w0 K0 w' K' ∧ Models w' K' ∧ Own Kd.byte 5 w' K' a0_slices.flatten r0 ∧ (∀ g, ob r0 = some g → w0.heap.size ≤ g)) := by
  refine (Concat_walk hM0 h_a0_slices (Concat_ok h_a0_slices.wf hp)).mono ?_
  rintro _ w' ⟨K', r0, o0, rfl, rfl, hF⟩
  exact ⟨K', r0, rfl, hF⟩
def high_VC (a0_x : Int) (Q : (List UInt8) → Prop) : Prop :=
  ∃ (I3 : (List UInt8) → Int → Prop) (μ3 : (List UInt8) → Int → Nat), I3 ([] : List UInt8) 56 ∧ ∀ (b3 : (List UInt8)) (i3 : Int), I3 b3 i3 → (kd_l_u8.wf b3) → ((Kd.int .i64).wf i3) → (((0 ≤ i3) → (0 ≤ i3) ∧ (((b3.length + [(toB (IntKind.u8.wrap (shr .u64 a0_x i3)))].length) * 1 ≤ 140737488355328) ∧ (I3 (b3 ++ [(toB (IntKind.u8.wrap (shr .u64 a0_x i3)))]) (IntKind.i64.wrap (i3 - 8)) ∧ μ3 (b3 ++ [(toB (IntKind.u8.wrap (shr .u64 a0_x i3)))]) (IntKind.i64.wrap (i3 - 8)) < μ3 b3 i3))) ∧ ((¬ (0 ≤ i3)) → Q b3))
theorem high_ok {a0_x : Int} (w_0 : (Kd.int .u64).wf a0_x) : high_VC a0_x (fun o0 => o0 = (be a0_x.toNat 8)) := by
  obtain ⟨n, rfl⟩ := Int.eq_ofNat_of_zero_le w_0.1
  unfold high_VC
  rw [Int.toNat_natCast]
  refine ⟨fun b i => ∃ m : Nat, m ≤ 8 ∧ i = 8 * (m : Int) - 8 ∧ b ++ be n m = be n 8, fun _ i => (i + 8).toNat, ⟨8, by omega, by omega, rfl⟩, ?_⟩
  rintro b i ⟨m, hm, rfl, hb⟩ _ _
  have hbl := congrArg List.length hb
  simp only [List.length_append, be_length] at hbl
  refine ⟨fun h0 => ⟨h0, ?_, ?_, ?_⟩, fun h => ?_⟩
  · simp only [List.length_cons, List.length_nil]
    omega
  · obtain ⟨m, rfl⟩ : ∃ m', m = m' + 1 := ⟨m - 1, by omega⟩
    have e : 8 * ((m + 1 : Nat) : Int) - 8 = ((8 * m : Nat) : Int) := by omega
    rw [e, byte_at (by omega), wrap_id (wf64 (by omega) (by omega))]
    refine ⟨m, by omega, by omega, ?_⟩
    rw [← hb]
    simp [be]
  · rw [wrap_id (wf64 (by omega) (by omega))]
    show (8 * (m : Int) - 8 - 8 + 8).toNat < (8 * (m : Int) - 8 + 8).toNat
    omega
  · have : m = 0 := by omega
    subst this
    simpa [be] using hb

theorem high_walk {w0 : World} {K0 : Ghost} {a0_x_v : Value} {a0_x : Int} {Q : (List UInt8) → Prop} (hM0 : Models w0 K0) (h_a0_x : (Kd.int .u64).V K0 a0_x a0_x_v) (h : high_VC a0_x Q) : Calls Try.prog 96 #[a0_x_v] w0 (fun e w' => ∃ (K' : Ghost) (r0 : Value) (o0 : (List UInt8)), e = .returned r0 ∧ Q o0 ∧ Ext NX w0 K0 w' K' ∧ Models w' K' ∧ Own Kd.byte 5 w' K' o0 r0 ∧ (∀ g, ob r0 = some g → w0.heap.size ≤ g)) := by
  unfold high_VC at h
  obtain rfl := int_form h_a0_x
  have hE0 : Ext NX w0 K0 w0 K0 := Ext.refl _ _ _
  refine calls_gen fun R hR => ?_
  refine calls_env (args := [(.int .u64 a0_x)]) Try.func96 rfl (Nat.le_of_ble_eq_true rfl) ?_
  refine WP_seq ?_
  refine WP_region ?_
  have hR1 : Own Kd.byte 5 w0 K0 ([] : List UInt8) (.slice none 0 0) := Own.nil
  refine WL_pure (.slice none 0 0) (R_as rfl) rfl rfl ?_
  refine WL_nil ?_
  refine WP_seq ?_
  refine WP_region ?_
  have hR2 : Own Kd.byte 5 w0 K0 ([] : List UInt8) (.slice none 0 0) := Own.nil
  refine WL_pure (.slice none 0 0) (R_as rfl) rfl rfl ?_
  refine WL_nil ?_
  refine WP_seq ?_
  refine WP_seq ?_
  refine WP_region ?_
  refine WL_pure (.int .i64 56) (R_as rfl) rfl rfl ?_
  refine WL_nil ?_
  refine WP_block ?_
  obtain ⟨I3, μ3, h0, h⟩ := h
  refine WP_loopE (ι := (List UInt8) × Int) [3, 4, 5, 6, 7, 8, 9, 10, 11, 12, 13, 14, 15] (fun s l w => ∃ K u3, I3 s.1 s.2 ∧ l = [(3, u3), (4, (.int .i64 s.2))] ∧ Ext (fun c => ob (.slice none 0 0) = some c) w0 K0 w K ∧ Models w K ∧ (Kd.int .i64).wf s.2 ∧ Own Kd.byte 5 w K s.1 u3 ∧ (∀ g, ob u3 = some g → ob (.slice none 0 0) = some g ∨ w0.heap.size ≤ g)) (fun s => μ3 s.1 s.2) (([] : List UInt8), 56) [(3, (.slice none 0 0)), (4, (.int .i64 56))]
    ⟨K0, (.slice none 0 0), h0, rfl, Ext.refl _ _ _, hM0, (show (Kd.int .i64).wf 56 from by constructor <;> decide), hR2, (fun g hg => .inr (nilS hg))⟩ (by repeat (first | exact trivial | refine ⟨rfl, ?_⟩)) ?_
  rintro ⟨b3, i3⟩ l σ3 w4 ⟨K4, u3_3, hI, rfl, hX4, hM4, hw3_4, hL3_u3, ho3_u3⟩
  dsimp only at hI hw3_4 hL3_u3 ho3_u3
  have hE4 := hE0.comp hX4 (fun c hx hlt => (fun g hg _ => nilS hg) c hx hlt)
  have hR5 := (hR1.ext hX4 (fun g hg hx => (fun g hg hx => (fun g hg _ => nilS hg) g hx hg) g hg hx))
  have h := h b3 i3 hI hL3_u3.wf hw3_4
  refine WP_seq ?_
  refine WP_seq ?_
  refine WP_region ?_
  refine WL_pure (.int .i64 i3) (R_mv rfl) rfl rfl ?_
  refine WL_pure (.bool (decide (0 ≤ i3))) (R_geq rfl rfl) rfl rfl ?_
  refine WL_nil ?_
  refine WP_cond (decide (0 ≤ i3)) rfl (fun hc6 => ?_) (fun hc6 => ?_)
  · have hd6 : 0 ≤ i3 := dec_t hc6
    have h := h.1 hd6
    refine WP_skip ?_
    refine WP_seq ?_
    refine WP_block ?_
    refine WP_region ?_
    refine WL_pure u3_3 (R_mv rfl) rfl rfl ?_
    refine WL_pure (.int .u64 a0_x) (R_mv rfl) rfl rfl ?_
    refine WL_pure (.int .i64 i3) (R_mv rfl) rfl rfl ?_
    obtain ⟨hp7, h⟩ := h
    refine WL_pure (.int .u64 (shr .u64 a0_x i3)) (R_shr rfl rfl hp7) rfl rfl ?_
    refine WL_pure (.int .u8 (IntKind.u8.wrap (shr .u64 a0_x i3))) (R_cvi rfl Try.underlying65 Try.underlying5) rfl rfl ?_
    refine WL_eff rfl rfl (St_S0 (S_bsl (k := Kd.byte) (l := [((toB (IntKind.u8.wrap (shr .u64 a0_x i3))), (.int .u8 (IntKind.u8.wrap (shr .u64 a0_x i3))))]) hM4 rfl (by intro p hp; simp only [List.mem_cons, List.not_mem_nil, or_false] at hp; subst hp; exact (byte_V (wrap_wf _ _))) rfl Try.underlying39 ty5b rfl rfl) ?_)
    rintro v8 w8 K8 (hO8 : Own Kd.byte 5 w8 K8 [(toB (IntKind.u8.wrap (shr .u64 a0_x i3)))] v8) hS8 hM8 hg8
    have hE8 := hE4.andN hS8
    have hR10 := (hL3_u3.extN hS8)
    obtain ⟨hp12, h⟩ := h
    refine WL_eff rfl rfl (St_S (S_app hM8 rfl hR10 rfl hO8.V Try.underlying39 ty5b rfl hp12) ?_)
    rintro v11 w11 K11 hO11 hS11 hM11 hob11
    have hE11 := hE8.comp hS11 (fun c hx hlt => (fun g hg hlt => absurd hlt (Nat.not_lt.2 ((fun g hg => (ho3_u3 g hg).elim (fun hx => (fun g hg => nilS hg) g hx) (fun hx => Nat.le_trans hE0.size hx)) g hg))) c hx hlt)
    have hR13 := (hR5.extN hS8)
    have hR14 := (hR13.ext hS11 (fun g hg hx => (fun g hg hx => (fun g hg hy => (ho3_u3 g hg).elim (fun hz => (fun g hg _ => nilS hg) g hz hy) (fun hz => absurd (hR1.lt _ hy) (Nat.not_lt.2 hz))) g hx hg) g hg hx))
    have hR15 := (hO8.ext hS11 (fun g hg hx => (fun g hg hx => absurd (hL3_u3.lt _ hx) (Nat.not_lt.2 (hg8 g hg))) g hg hx))
    have hf11 : ∀ g, ob v11 = some g → w0.heap.size ≤ g := fun g hg => by rcases hob11 with hq | hq <;> rw [hq] at hg; exact (fun g hg => (ho3_u3 g hg).elim (fun hx => (fun g hg => nilS hg) g hx) (fun hx => Nat.le_trans hE0.size hx)) g hg; cases hg; exact hE8.size
    have hs17 : ∀ g, ob v11 = some g → ¬ (ob v8 = some g) := fun g hg hx => by rcases hob11 with hq | hq <;> rw [hq] at hg; exact (fun g hg hx => (fun g hg hx => absurd (hL3_u3.lt _ hx) (Nat.not_lt.2 (hg8 g hg))) g hx hg) g hg hx; cases hg; exact absurd (hO8.lt _ hx) (Nat.not_lt.2 (Nat.le_refl _))
    refine WL_pure v11 (R_as rfl) rfl rfl ?_
    refine WL_nil ?_
    refine WP_region ?_
    refine WL_pure (.int .i64 i3) (R_mv rfl) rfl rfl ?_
    refine WL_pure (.int .i64 (IntKind.i64.wrap (i3 - 8))) (R_sub rfl rfl) rfl rfl ?_
    refine WL_pure (.int .i64 (IntKind.i64.wrap (i3 - 8))) (R_as rfl) rfl rfl ?_
    refine WL_nil ?_
    refine BackQ.mk ((b3 ++ [(toB (IntKind.u8.wrap (shr .u64 a0_x i3)))]), (IntKind.i64.wrap (i3 - 8))) [(3, v11), (4, (.int .i64 (IntKind.i64.wrap (i3 - 8))))] ?_ ?_ ?_ ?_
    rotate_left
    · exact h.2
    · repeat (first | exact Off.lay0 rfl | refine Off.updO ?_ rfl _ | refine Off.updN ?_ _ | refine Off.lay ?_ rfl)
    · repeat (first | exact trivial | refine ⟨rfl, ?_⟩)
    exact ⟨K11, v11, h.1, rfl, ((((Ext.refl _ _ _).comp hX4 (fun c hx hlt => (absurd hlt (Nat.not_lt.2 (nilS hx))))).andN hS8).comp hS11 (fun c hx hlt => (absurd hlt (Nat.not_lt.2 ((ho3_u3 c hx).elim (fun hz => (nilS hz)) (fun hz => (Nat.le_trans (Nat.le_refl _) hz))))))), hM11, (wrap_wf _ _), hO11, (fun g hg => .inr (by have hg : ob v11 = some g := hg; rcases hob11 with hq | hq <;> rw [hq] at hg; exact ((ho3_u3 g hg).elim (fun hz => (nilS hz)) (fun hz => (Nat.le_trans (Nat.le_refl _) hz))); cases hg; exact hE8.size))⟩
  · have hd6 : ¬ (0 ≤ i3) := dec_f hc6
    have h := h.2 hd6
    refine WP_exit ?_
    refine WP_seq ?_
    refine WP_region ?_
    refine WL_pure u3_3 (R_mv rfl) rfl rfl ?_
    refine WL_pure u3_3 (R_as rfl) rfl rfl ?_
    refine WL_nil ?_
    refine WP_ret ?_
    exact endR_ret hR (v := u3_3) (resE_1 rfl rfl) ⟨K4, u3_3, b3, rfl, h, hE4, hM4, hL3_u3, (fun g hg => (ho3_u3 g hg).elim (fun hx => (fun g hg => nilS hg) g hx) (fun hx => Nat.le_trans hE0.size hx))⟩
theorem high_c {w0 : World} {K0 : Ghost} {a0_x_v : Value} {a0_x : Int} (hM0 : Models w0 K0) (h_a0_x : (Kd.int .u64).V K0 a0_x a0_x_v) : Calls Try.prog 96 #[a0_x_v] w0 (fun e w' => ∃ (K' : Ghost) (r0 : Value), e = .returned r0 ∧ Ext NX w0 K0 w' K' ∧ Models w' K' ∧ Own Kd.byte 5 w' K' (be a0_x.toNat 8) r0 ∧ (∀ g, ob r0 = some g → w0.heap.size ≤ g)) := by
  refine (high_walk hM0 h_a0_x (high_ok h_a0_x.wf)).mono ?_
  rintro _ w' ⟨K', r0, o0, rfl, rfl, hF⟩
  exact ⟨K', r0, rfl, hF⟩
theorem ty146 : TyOk Try.prog 146 kd_a8_u32 32 := ⟨⟨Try.t146, _, Try.type146, rfl, rfl, rfl, rfl, rfl⟩, ⟨_, Try.underlying146, rfl⟩⟩
theorem ty123 : TyOk Try.prog 123 (Kd.int .u32) 4 := ⟨⟨Try.t123, _, Try.type123, rfl, rfl, rfl, rfl, rfl⟩, ⟨_, Try.underlying123, rfl⟩⟩
def first_VC  (Q : (List Int) → Prop) : Prop :=
  Q [1779033703, 3144134277, 1013904242, 2773480762, 1359893119, 2600822924, 528734635, 1541459225]
theorem first_ok  : first_VC  (fun o0 => o0 = shaH) := by
  exact rfl

theorem first_walk {w0 : World} {K0 : Ghost}  {Q : (List Int) → Prop} (hM0 : Models w0 K0)  (h : first_VC  Q) : Calls Try.prog 92 #[] w0 (fun e w' => ∃ (K' : Ghost) (r0 : Value) (o0 : (List Int)), e = .returned r0 ∧ Q o0 ∧ Ext NX w0 K0 w' K' ∧ Models w' K' ∧ kd_a8_u32.V K' o0 r0) := by
  unfold first_VC at h
  have hE0 : Ext NX w0 K0 w0 K0 := Ext.refl _ _ _
  refine calls_gen fun R hR => ?_
  refine calls_env (args := []) Try.func92 rfl (Nat.le_of_ble_eq_true rfl) ?_
  refine WP_seq ?_
  refine WP_region ?_
  refine WL_eff rfl rfl (St_B (S_alloc hM0 ty146) ?_)
  rintro b1 w1 (hB1 : Bx kd_a8_u32 _ _ _ _ _ (List.replicate 8 (0 : Int))) hS1 hM1 hge1
  have hE1 := hE0.andN hS1
  refine WL_nil ?_
  refine WP_seq ?_
  refine WP_region ?_
  refine WL_V (S_bldA (k := (Kd.int .u32)) (l := [(1779033703, (.int .u32 1779033703)), (3144134277, (.int .u32 3144134277)), (1013904242, (.int .u32 1013904242)), (2773480762, (.int .u32 2773480762)), (1359893119, (.int .u32 1359893119)), (2600822924, (.int .u32 2600822924)), (528734635, (.int .u32 528734635)), (1541459225, (.int .u32 1541459225))]) (K := K0) ty146 ty123 Try.underlying146 rfl (by intro p hp; simp only [List.mem_cons, List.not_mem_nil, or_false] at hp; rcases hp with rfl | rfl | rfl | rfl | rfl | rfl | rfl | rfl; exact (int_V (show (Kd.int .u32).wf 1779033703 from by constructor <;> decide)); exact (int_V (show (Kd.int .u32).wf 3144134277 from by constructor <;> decide)); exact (int_V (show (Kd.int .u32).wf 1013904242 from by constructor <;> decide)); exact (int_V (show (Kd.int .u32).wf 2773480762 from by constructor <;> decide)); exact (int_V (show (Kd.int .u32).wf 1359893119 from by constructor <;> decide)); exact (int_V (show (Kd.int .u32).wf 2600822924 from by constructor <;> decide)); exact (int_V (show (Kd.int .u32).wf 528734635 from by constructor <;> decide)); exact (int_V (show (Kd.int .u32).wf 1541459225 from by constructor <;> decide))) rfl) rfl rfl ?_
  rintro v3 (hV3 : kd_a8_u32.V _ [1779033703, 3144134277, 1013904242, 2773480762, 1359893119, 2600822924, 528734635, 1541459225] _)
  refine WL_eff rfl rfl (St_St (S_stB (Foc.id _) hM1 rfl rfl hV3 ty146 hB1 (by first | rfl | simp | omega)) ?_)
  rintro w5 (hB5 : Bx kd_a8_u32 _ _ b1 [] [] [1779033703, 3144134277, 1013904242, 2773480762, 1359893119, 2600822924, 528734635, 1541459225]) hS5 hM5
  have hE5 := hE1.comp hS5 (fun c hx hlt => (by subst hx; exact (fun hlt => absurd hlt (Nat.not_lt.2 (Nat.le_trans hE0.size hge1))) hlt))
  refine WL_nil ?_
  refine WP_ret ?_
  refine endS_ret hR (resE_B rfl rfl ty146 hB5) ?_
  rintro v6 hV6
  exact ⟨K0, v6, [1779033703, 3144134277, 1013904242, 2773480762, 1359893119, 2600822924, 528734635, 1541459225], rfl, h, hE5, hM5, hV6⟩
theorem first_c {w0 : World} {K0 : Ghost}  (hM0 : Models w0 K0)  : Calls Try.prog 92 #[] w0 (fun e w' => ∃ (K' : Ghost) (r0 : Value), e = .returned r0 ∧ Ext NX w0 K0 w' K' ∧ Models w' K' ∧ kd_a8_u32.V K' shaH r0) := by
  refine (first_walk hM0  (first_ok)).mono ?_
  rintro _ w' ⟨K', r0, o0, rfl, rfl, hF⟩
  exact ⟨K', r0, rfl, hF⟩
abbrev kd_a64_u32 : Kd (List Int) := (Kd.arr 64 (Kd.int .u32))
theorem ty165 : TyOk Try.prog 165 kd_a64_u32 256 := ⟨⟨Try.t165, _, Try.type165, rfl, rfl, rfl, rfl, rfl⟩, ⟨_, Try.underlying165, rfl⟩⟩
def rounds_VC  (Q : (List Int) → Prop) : Prop :=
  Q [1116352408, 1899447441, 3049323471, 3921009573, 961987163, 1508970993, 2453635748, 2870763221, 3624381080, 310598401, 607225278, 1426881987, 1925078388, 2162078206, 2614888103, 3248222580, 3835390401, 4022224774, 264347078, 604807628, 770255983, 1249150122, 1555081692, 1996064986, 2554220882, 2821834349, 2952996808, 3210313671, 3336571891, 3584528711, 113926993, 338241895, 666307205, 773529912, 1294757372, 1396182291, 1695183700, 1986661051, 2177026350, 2456956037, 2730485921, 2820302411, 3259730800, 3345764771, 3516065817, 3600352804, 4094571909, 275423344, 430227734, 506948616, 659060556, 883997877, 958139571, 1322822218, 1537002063, 1747873779, 1955562222, 2024104815, 2227730452, 2361852424, 2428436474, 2756734187, 3204031479, 3329325298]
theorem rounds_ok  : rounds_VC  (fun o0 => o0 = shaK) := by
  exact rfl

theorem rounds_walk {w0 : World} {K0 : Ghost}  {Q : (List Int) → Prop} (hM0 : Models w0 K0)  (h : rounds_VC  Q) : Calls Try.prog 106 #[] w0 (fun e w' => ∃ (K' : Ghost) (r0 : Value) (o0 : (List Int)), e = .returned r0 ∧ Q o0 ∧ Ext NX w0 K0 w' K' ∧ Models w' K' ∧ kd_a64_u32.V K' o0 r0) := by
  unfold rounds_VC at h
  have hE0 : Ext NX w0 K0 w0 K0 := Ext.refl _ _ _
  refine calls_gen fun R hR => ?_
  refine calls_env (args := []) Try.func106 rfl (Nat.le_of_ble_eq_true rfl) ?_
  refine WP_seq ?_
  refine WP_region ?_
  refine WL_eff rfl rfl (St_B (S_alloc hM0 ty165) ?_)
  rintro b1 w1 (hB1 : Bx kd_a64_u32 _ _ _ _ _ (List.replicate 64 (0 : Int))) hS1 hM1 hge1
  have hE1 := hE0.andN hS1
  refine WL_nil ?_
  refine WP_seq ?_
  refine WP_region ?_
  refine WL_V (S_bldA (k := (Kd.int .u32)) (l := [(1116352408, (.int .u32 1116352408)), (1899447441, (.int .u32 1899447441)), (3049323471, (.int .u32 3049323471)), (3921009573, (.int .u32 3921009573)), (961987163, (.int .u32 961987163)), (1508970993, (.int .u32 1508970993)), (2453635748, (.int .u32 2453635748)), (2870763221, (.int .u32 2870763221)), (3624381080, (.int .u32 3624381080)), (310598401, (.int .u32 310598401)), (607225278, (.int .u32 607225278)), (1426881987, (.int .u32 1426881987)), (1925078388, (.int .u32 1925078388)), (2162078206, (.int .u32 2162078206)), (2614888103, (.int .u32 2614888103)), (3248222580, (.int .u32 3248222580)), (3835390401, (.int .u32 3835390401)), (4022224774, (.int .u32 4022224774)), (264347078, (.int .u32 264347078)), (604807628, (.int .u32 604807628)), (770255983, (.int .u32 770255983)), (1249150122, (.int .u32 1249150122)), (1555081692, (.int .u32 1555081692)), (1996064986, (.int .u32 1996064986)), (2554220882, (.int .u32 2554220882)), (2821834349, (.int .u32 2821834349)), (2952996808, (.int .u32 2952996808)), (3210313671, (.int .u32 3210313671)), (3336571891, (.int .u32 3336571891)), (3584528711, (.int .u32 3584528711)), (113926993, (.int .u32 113926993)), (338241895, (.int .u32 338241895)), (666307205, (.int .u32 666307205)), (773529912, (.int .u32 773529912)), (1294757372, (.int .u32 1294757372)), (1396182291, (.int .u32 1396182291)), (1695183700, (.int .u32 1695183700)), (1986661051, (.int .u32 1986661051)), (2177026350, (.int .u32 2177026350)), (2456956037, (.int .u32 2456956037)), (2730485921, (.int .u32 2730485921)), (2820302411, (.int .u32 2820302411)), (3259730800, (.int .u32 3259730800)), (3345764771, (.int .u32 3345764771)), (3516065817, (.int .u32 3516065817)), (3600352804, (.int .u32 3600352804)), (4094571909, (.int .u32 4094571909)), (275423344, (.int .u32 275423344)), (430227734, (.int .u32 430227734)), (506948616, (.int .u32 506948616)), (659060556, (.int .u32 659060556)), (883997877, (.int .u32 883997877)), (958139571, (.int .u32 958139571)), (1322822218, (.int .u32 1322822218)), (1537002063, (.int .u32 1537002063)), (1747873779, (.int .u32 1747873779)), (1955562222, (.int .u32 1955562222)), (2024104815, (.int .u32 2024104815)), (2227730452, (.int .u32 2227730452)), (2361852424, (.int .u32 2361852424)), (2428436474, (.int .u32 2428436474)), (2756734187, (.int .u32 2756734187)), (3204031479, (.int .u32 3204031479)), (3329325298, (.int .u32 3329325298))]) (K := K0) ty165 ty123 Try.underlying165 rfl (by intro p hp; simp only [List.mem_cons, List.not_mem_nil, or_false] at hp; rcases hp with rfl | rfl | rfl | rfl | rfl | rfl | rfl | rfl | rfl | rfl | rfl | rfl | rfl | rfl | rfl | rfl | rfl | rfl | rfl | rfl | rfl | rfl | rfl | rfl | rfl | rfl | rfl | rfl | rfl | rfl | rfl | rfl | rfl | rfl | rfl | rfl | rfl | rfl | rfl | rfl | rfl | rfl | rfl | rfl | rfl | rfl | rfl | rfl | rfl | rfl | rfl | rfl | rfl | rfl | rfl | rfl | rfl | rfl | rfl | rfl | rfl | rfl | rfl | rfl; exact (int_V (show (Kd.int .u32).wf 1116352408 from by constructor <;> decide)); exact (int_V (show (Kd.int .u32).wf 1899447441 from by constructor <;> decide)); exact (int_V (show (Kd.int .u32).wf 3049323471 from by constructor <;> decide)); exact (int_V (show (Kd.int .u32).wf 3921009573 from by constructor <;> decide)); exact (int_V (show (Kd.int .u32).wf 961987163 from by constructor <;> decide)); exact (int_V (show (Kd.int .u32).wf 1508970993 from by constructor <;> decide)); exact (int_V (show (Kd.int .u32).wf 2453635748 from by constructor <;> decide)); exact (int_V (show (Kd.int .u32).wf 2870763221 from by constructor <;> decide)); exact (int_V (show (Kd.int .u32).wf 3624381080 from by constructor <;> decide)); exact (int_V (show (Kd.int .u32).wf 310598401 from by constructor <;> decide)); exact (int_V (show (Kd.int .u32).wf 607225278 from by constructor <;> decide)); exact (int_V (show (Kd.int .u32).wf 1426881987 from by constructor <;> decide)); exact (int_V (show (Kd.int .u32).wf 1925078388 from by constructor <;> decide)); exact (int_V (show (Kd.int .u32).wf 2162078206 from by constructor <;> decide)); exact (int_V (show (Kd.int .u32).wf 2614888103 from by constructor <;> decide)); exact (int_V (show (Kd.int .u32).wf 3248222580 from by constructor <;> decide)); exact (int_V (show (Kd.int .u32).wf 3835390401 from by constructor <;> decide)); exact (int_V (show (Kd.int .u32).wf 4022224774 from by constructor <;> decide)); exact (int_V (show (Kd.int .u32).wf 264347078 from by constructor <;> decide)); exact (int_V (show (Kd.int .u32).wf 604807628 from by constructor <;> decide)); exact (int_V (show (Kd.int .u32).wf 770255983 from by constructor <;> decide)); exact (int_V (show (Kd.int .u32).wf 1249150122 from by constructor <;> decide)); exact (int_V (show (Kd.int .u32).wf 1555081692 from by constructor <;> decide)); exact (int_V (show (Kd.int .u32).wf 1996064986 from by constructor <;> decide)); exact (int_V (show (Kd.int .u32).wf 2554220882 from by constructor <;> decide)); exact (int_V (show (Kd.int .u32).wf 2821834349 from by constructor <;> decide)); exact (int_V (show (Kd.int .u32).wf 2952996808 from by constructor <;> decide)); exact (int_V (show (Kd.int .u32).wf 3210313671 from by constructor <;> decide)); exact (int_V (show (Kd.int .u32).wf 3336571891 from by constructor <;> decide)); exact (int_V (show (Kd.int .u32).wf 3584528711 from by constructor <;> decide)); exact (int_V (show (Kd.int .u32).wf 113926993 from by constructor <;> decide)); exact (int_V (show (Kd.int .u32).wf 338241895 from by constructor <;> decide)); exact (int_V (show (Kd.int .u32).wf 666307205 from by constructor <;> decide)); exact (int_V (show (Kd.int .u32).wf 773529912 from by constructor <;> decide)); exact (int_V (show (Kd.int .u32).wf 1294757372 from by constructor <;> decide)); exact (int_V (show (Kd.int .u32).wf 1396182291 from by constructor <;> decide)); exact (int_V (show (Kd.int .u32).wf 1695183700 from by constructor <;> decide)); exact (int_V (show (Kd.int .u32).wf 1986661051 from by constructor <;> decide)); exact (int_V (show (Kd.int .u32).wf 2177026350 from by constructor <;> decide)); exact (int_V (show (Kd.int .u32).wf 2456956037 from by constructor <;> decide)); exact (int_V (show (Kd.int .u32).wf 2730485921 from by constructor <;> decide)); exact (int_V (show (Kd.int .u32).wf 2820302411 from by constructor <;> decide)); exact (int_V (show (Kd.int .u32).wf 3259730800 from by constructor <;> decide)); exact (int_V (show (Kd.int .u32).wf 3345764771 from by constructor <;> decide)); exact (int_V (show (Kd.int .u32).wf 3516065817 from by constructor <;> decide)); exact (int_V (show (Kd.int .u32).wf 3600352804 from by constructor <;> decide)); exact (int_V (show (Kd.int .u32).wf 4094571909 from by constructor <;> decide)); exact (int_V (show (Kd.int .u32).wf 275423344 from by constructor <;> decide)); exact (int_V (show (Kd.int .u32).wf 430227734 from by constructor <;> decide)); exact (int_V (show (Kd.int .u32).wf 506948616 from by constructor <;> decide)); exact (int_V (show (Kd.int .u32).wf 659060556 from by constructor <;> decide)); exact (int_V (show (Kd.int .u32).wf 883997877 from by constructor <;> decide)); exact (int_V (show (Kd.int .u32).wf 958139571 from by constructor <;> decide)); exact (int_V (show (Kd.int .u32).wf 1322822218 from by constructor <;> decide)); exact (int_V (show (Kd.int .u32).wf 1537002063 from by constructor <;> decide)); exact (int_V (show (Kd.int .u32).wf 1747873779 from by constructor <;> decide)); exact (int_V (show (Kd.int .u32).wf 1955562222 from by constructor <;> decide)); exact (int_V (show (Kd.int .u32).wf 2024104815 from by constructor <;> decide)); exact (int_V (show (Kd.int .u32).wf 2227730452 from by constructor <;> decide)); exact (int_V (show (Kd.int .u32).wf 2361852424 from by constructor <;> decide)); exact (int_V (show (Kd.int .u32).wf 2428436474 from by constructor <;> decide)); exact (int_V (show (Kd.int .u32).wf 2756734187 from by constructor <;> decide)); exact (int_V (show (Kd.int .u32).wf 3204031479 from by constructor <;> decide)); exact (int_V (show (Kd.int .u32).wf 3329325298 from by constructor <;> decide))) rfl) rfl rfl ?_
  rintro v3 (hV3 : kd_a64_u32.V _ [1116352408, 1899447441, 3049323471, 3921009573, 961987163, 1508970993, 2453635748, 2870763221, 3624381080, 310598401, 607225278, 1426881987, 1925078388, 2162078206, 2614888103, 3248222580, 3835390401, 4022224774, 264347078, 604807628, 770255983, 1249150122, 1555081692, 1996064986, 2554220882, 2821834349, 2952996808, 3210313671, 3336571891, 3584528711, 113926993, 338241895, 666307205, 773529912, 1294757372, 1396182291, 1695183700, 1986661051, 2177026350, 2456956037, 2730485921, 2820302411, 3259730800, 3345764771, 3516065817, 3600352804, 4094571909, 275423344, 430227734, 506948616, 659060556, 883997877, 958139571, 1322822218, 1537002063, 1747873779, 1955562222, 2024104815, 2227730452, 2361852424, 2428436474, 2756734187, 3204031479, 3329325298] _)
  refine WL_eff rfl rfl (St_St (S_stB (Foc.id _) hM1 rfl rfl hV3 ty165 hB1 (by first | rfl | simp | omega)) ?_)
  rintro w5 (hB5 : Bx kd_a64_u32 _ _ b1 [] [] [1116352408, 1899447441, 3049323471, 3921009573, 961987163, 1508970993, 2453635748, 2870763221, 3624381080, 310598401, 607225278, 1426881987, 1925078388, 2162078206, 2614888103, 3248222580, 3835390401, 4022224774, 264347078, 604807628, 770255983, 1249150122, 1555081692, 1996064986, 2554220882, 2821834349, 2952996808, 3210313671, 3336571891, 3584528711, 113926993, 338241895, 666307205, 773529912, 1294757372, 1396182291, 1695183700, 1986661051, 2177026350, 2456956037, 2730485921, 2820302411, 3259730800, 3345764771, 3516065817, 3600352804, 4094571909, 275423344, 430227734, 506948616, 659060556, 883997877, 958139571, 1322822218, 1537002063, 1747873779, 1955562222, 2024104815, 2227730452, 2361852424, 2428436474, 2756734187, 3204031479, 3329325298]) hS5 hM5
  have hE5 := hE1.comp hS5 (fun c hx hlt => (by subst hx; exact (fun hlt => absurd hlt (Nat.not_lt.2 (Nat.le_trans hE0.size hge1))) hlt))
  refine WL_nil ?_
  refine WP_ret ?_
  refine endS_ret hR (resE_B rfl rfl ty165 hB5) ?_
  rintro v6 hV6
  exact ⟨K0, v6, [1116352408, 1899447441, 3049323471, 3921009573, 961987163, 1508970993, 2453635748, 2870763221, 3624381080, 310598401, 607225278, 1426881987, 1925078388, 2162078206, 2614888103, 3248222580, 3835390401, 4022224774, 264347078, 604807628, 770255983, 1249150122, 1555081692, 1996064986, 2554220882, 2821834349, 2952996808, 3210313671, 3336571891, 3584528711, 113926993, 338241895, 666307205, 773529912, 1294757372, 1396182291, 1695183700, 1986661051, 2177026350, 2456956037, 2730485921, 2820302411, 3259730800, 3345764771, 3516065817, 3600352804, 4094571909, 275423344, 430227734, 506948616, 659060556, 883997877, 958139571, 1322822218, 1537002063, 1747873779, 1955562222, 2024104815, 2227730452, 2361852424, 2428436474, 2756734187, 3204031479, 3329325298], rfl, h, hE5, hM5, hV6⟩
theorem rounds_c {w0 : World} {K0 : Ghost}  (hM0 : Models w0 K0)  : Calls Try.prog 106 #[] w0 (fun e w' => ∃ (K' : Ghost) (r0 : Value), e = .returned r0 ∧ Ext NX w0 K0 w' K' ∧ Models w' K' ∧ kd_a64_u32.V K' shaK r0) := by
  refine (rounds_walk hM0  (rounds_ok)).mono ?_
  rintro _ w' ⟨K', r0, o0, rfl, rfl, hF⟩
  exact ⟨K', r0, rfl, hF⟩
def Rotl_VC (a0_x : Int) (a1_k : Int) (Q : Int → Prop) : Prop :=
  Q (bor .u32 (shl .u32 a0_x (band .u64 (IntKind.u64.wrap a1_k) 31)) (shr .u32 a0_x (IntKind.u64.wrap (32 - (band .u64 (IntKind.u64.wrap a1_k) 31)))))
theorem Rotl_ok {a0_x : Int} {a1_k : Int} (w_0 : (Kd.int .u32).wf a0_x) (w_1 : (Kd.int .i64).wf a1_k) : Rotl_VC a0_x a1_k (fun o0 => o0 = (rotl a0_x a1_k)) := by
  exact rfl

theorem Rotl_walk {w0 : World} {K0 : Ghost} {a0_x_v : Value} {a0_x : Int} {a1_k_v : Value} {a1_k : Int} {Q : Int → Prop} (hM0 : Models w0 K0) (h_a0_x : (Kd.int .u32).V K0 a0_x a0_x_v) (h_a1_k : (Kd.int .i64).V K0 a1_k a1_k_v) (h : Rotl_VC a0_x a1_k Q) : Calls Try.prog 107 #[a0_x_v, a1_k_v] w0 (fun e w' => ∃ (K' : Ghost) (r0 : Value) (o0 : Int), e = .returned r0 ∧ Q o0 ∧ Ext NX w0 K0 w' K' ∧ Models w' K' ∧ (Kd.int .u32).V K' o0 r0) := by
  unfold Rotl_VC at h
  obtain rfl := int_form h_a0_x
  obtain rfl := int_form h_a1_k
  have hE0 : Ext NX w0 K0 w0 K0 := Ext.refl _ _ _
  refine calls_gen fun R hR => ?_
  refine calls_env (args := [(.int .u32 a0_x), (.int .i64 a1_k)]) Try.func107 rfl (Nat.le_of_ble_eq_true rfl) ?_
  refine WP_seq ?_
  refine WP_region ?_
  refine WL_pure (.int .u32 0) (R_as rfl) rfl rfl ?_
  refine WL_nil ?_
  refine WP_seq ?_
  refine WP_region ?_
  refine WL_pure (.int .i64 a1_k) (R_mv rfl) rfl rfl ?_
  refine WL_pure (.int .u64 (IntKind.u64.wrap a1_k)) (R_cvi rfl Try.underlying3 Try.underlying161) rfl rfl ?_
  refine WL_pure (.int .u64 (band .u64 (IntKind.u64.wrap a1_k) 31)) (R_and rfl rfl) rfl rfl ?_
  refine WL_pure (.int .u64 (band .u64 (IntKind.u64.wrap a1_k) 31)) (R_as rfl) rfl rfl ?_
  refine WL_nil ?_
  refine WP_seq ?_
  refine WP_region ?_
  refine WL_pure (.int .u32 a0_x) (R_mv rfl) rfl rfl ?_
  refine WL_pure (.int .u64 (band .u64 (IntKind.u64.wrap a1_k) 31)) (R_mv rfl) rfl rfl ?_
  refine WL_pure (.int .u32 (shl .u32 a0_x (band .u64 (IntKind.u64.wrap a1_k) 31))) (R_shl rfl rfl (wrap_wf _ _).1) rfl rfl ?_
  refine WL_pure (.int .u32 a0_x) (R_mv rfl) rfl rfl ?_
  refine WL_pure (.int .u64 (band .u64 (IntKind.u64.wrap a1_k) 31)) (R_mv rfl) rfl rfl ?_
  refine WL_pure (.int .u64 (IntKind.u64.wrap (32 - (band .u64 (IntKind.u64.wrap a1_k) 31)))) (R_sub rfl rfl) rfl rfl ?_
  refine WL_pure (.int .u32 (shr .u32 a0_x (IntKind.u64.wrap (32 - (band .u64 (IntKind.u64.wrap a1_k) 31))))) (R_shr rfl rfl (wrap_wf _ _).1) rfl rfl ?_
  refine WL_pure (.int .u32 (bor .u32 (shl .u32 a0_x (band .u64 (IntKind.u64.wrap a1_k) 31)) (shr .u32 a0_x (IntKind.u64.wrap (32 - (band .u64 (IntKind.u64.wrap a1_k) 31)))))) (R_or rfl rfl) rfl rfl ?_
  refine WL_pure (.int .u32 (bor .u32 (shl .u32 a0_x (band .u64 (IntKind.u64.wrap a1_k) 31)) (shr .u32 a0_x (IntKind.u64.wrap (32 - (band .u64 (IntKind.u64.wrap a1_k) 31)))))) (R_as rfl) rfl rfl ?_
  refine WL_nil ?_
  refine WP_ret ?_
  exact endR_ret hR (v := (.int .u32 (bor .u32 (shl .u32 a0_x (band .u64 (IntKind.u64.wrap a1_k) 31)) (shr .u32 a0_x (IntKind.u64.wrap (32 - (band .u64 (IntKind.u64.wrap a1_k) 31))))))) (resE_1 rfl rfl) ⟨K0, (.int .u32 (bor .u32 (shl .u32 a0_x (band .u64 (IntKind.u64.wrap a1_k) 31)) (shr .u32 a0_x (IntKind.u64.wrap (32 - (band .u64 (IntKind.u64.wrap a1_k) 31)))))), (bor .u32 (shl .u32 a0_x (band .u64 (IntKind.u64.wrap a1_k) 31)) (shr .u32 a0_x (IntKind.u64.wrap (32 - (band .u64 (IntKind.u64.wrap a1_k) 31))))), rfl, h, hE0, hM0, (int_V (wrap_wf _ _))⟩
theorem Rotl_c {w0 : World} {K0 : Ghost} {a0_x_v : Value} {a0_x : Int} {a1_k_v : Value} {a1_k : Int} (hM0 : Models w0 K0) (h_a0_x : (Kd.int .u32).V K0 a0_x a0_x_v) (h_a1_k : (Kd.int .i64).V K0 a1_k a1_k_v) : Calls Try.prog 107 #[a0_x_v, a1_k_v] w0 (fun e w' => ∃ (K' : Ghost) (r0 : Value), e = .returned r0 ∧ Ext NX w0 K0 w' K' ∧ Models w' K' ∧ (Kd.int .u32).V K' (rotl a0_x a1_k) r0) := by
  refine (Rotl_walk hM0 h_a0_x h_a1_k (Rotl_ok h_a0_x.wf h_a1_k.wf)).mono ?_
  rintro _ w' ⟨K', r0, o0, rfl, rfl, hF⟩
  exact ⟨K', r0, rfl, hF⟩
end Go.Proofs.Ytfbhiilolpamaaa
