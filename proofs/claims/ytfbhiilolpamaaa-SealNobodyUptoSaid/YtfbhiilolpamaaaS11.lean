/- Each function that stands here: what its call must answer for (_VC), that it does (_ok), the walk through its code (_walk), its contract (_c). -/
import Derived.Test.YtfbhiilolpamaaaS10
import Derived.Test.YtfbhiilolpamaaaChecked
set_option linter.unusedVariables false
set_option maxRecDepth 100000
set_option maxHeartbeats 2000000
namespace Go.Proofs.Ytfbhiilolpamaaa
open Go Go.RowKit Go.Inc
theorem fs41 {fs : Array Field} (h : Try.prog.underlying 41 = some (.struct fs)) : ∀ f ∈ fs.toList, ∃ i, Try.prog.info? f.type = some i := by
  have h2 := (Try.underlying41).symm.trans h
  cases h2
  intro f hf
  simp only [List.mem_cons, List.not_mem_nil, or_false] at hf
  rcases hf with rfl | rfl | rfl | rfl | rfl
  · exact ⟨_, Try.type3⟩
  · exact ⟨_, Try.type3⟩
  · exact ⟨_, Try.type38⟩
  · exact ⟨_, Try.type23⟩
  · exact ⟨_, Try.type39⟩
def SealApart_VC (a0_kind : Int) (a1_other : Int) (a2_a : (List (List UInt8))) (a3_b : (List (List UInt8))) (Q : Bool → Prop) : Prop :=
  ((¬ light [(0, 0, a2_a, (List.replicate 32 0), ([] : List UInt8)), (0, 0, a3_b, (List.replicate 32 0), ([] : List UInt8))]) → Q true) ∧ ((¬ (¬ light [(0, 0, a2_a, (List.replicate 32 0), ([] : List UInt8)), (0, 0, a3_b, (List.replicate 32 0), ([] : List UInt8))])) → (1 + blobRoom a2_a ≤ 140737488355328) ∧ ((kd_l_u8.wf (preimage a0_kind a2_a)) → ((1 + blobRoom a3_b ≤ 140737488355328) ∧ ((kd_l_u8.wf (preimage a1_other a3_b)) → (Q (decide (((decide ((preimage a0_kind a2_a) = (preimage a1_other a3_b))) = (decide (((band .i64 a0_kind 255) = (band .i64 a1_other 255)) ∧ (a2_a = a3_b)))) ∧ (true = true))))))))
theorem SealApart_ok {a0_kind : Int} {a1_other : Int} {a2_a : (List (List UInt8))} {a3_b : (List (List UInt8))} (w_0 : (Kd.int .i64).wf a0_kind) (w_1 : (Kd.int .i64).wf a1_other) (w_2 : kd_l_l_u8.wf a2_a) (w_3 : kd_l_l_u8.wf a3_b) : SealApart_VC a0_kind a1_other a2_a a3_b (fun o0 => o0 = true) := by
  unfold SealApart_VC
  refine ⟨fun _ => rfl, fun hl => ?_⟩
  have hl := Decidable.not_not.1 hl
  have r1 := (room_light hl (a := (0, 0, a2_a, List.replicate 32 0, [])) (by simp)).1
  have r2 := (room_light hl (a := (0, 0, a3_b, List.replicate 32 0, [])) (by simp)).1
  simp only at r1 r2
  refine ⟨by omega, fun _ => ⟨by omega, fun _ => ?_⟩⟩
  have hi := preimage_inj (k := a0_kind) (o := a1_other) (a := a2_a) (b := a3_b) (fun x hx => by have := mem_room hx; omega) (fun x hx => by have := mem_room hx; omega)
  rw [band255, band255]
  simp [hi]

theorem SealApart_walk {w0 : World} {K0 : Ghost} {a0_kind_v : Value} {a0_kind : Int} {a1_other_v : Value} {a1_other : Int} {a2_a_v : Value} {a2_a : (List (List UInt8))} {a3_b_v : Value} {a3_b : (List (List UInt8))} {Q : Bool → Prop} (hM0 : Models w0 K0) (h_a0_kind : (Kd.int .i64).V K0 a0_kind a0_kind_v) (h_a1_other : (Kd.int .i64).V K0 a1_other a1_other_v) (h_a2_a : kd_l_l_u8.V K0 a2_a a2_a_v) (h_a3_b : kd_l_l_u8.V K0 a3_b a3_b_v) (h : SealApart_VC a0_kind a1_other a2_a a3_b Q) : Calls Try.prog 6 #[a0_kind_v, a1_other_v, a2_a_v, a3_b_v] w0 (fun e w' => ∃ (K' : Ghost) (r0 : Value) (o0 : Bool), e = .returned r0 ∧ Q o0 ∧ Ext NX w0 K0 w' K' ∧ Models w' K' ∧ Kd.bool.V K' o0 r0) := by
  unfold SealApart_VC at h
  obtain rfl := int_form h_a0_kind
  obtain rfl := int_form h_a1_other
  have hE0 : Ext NX w0 K0 w0 K0 := Ext.refl _ _ _
  refine calls_gen fun R hR => ?_
  refine calls_env (args := [(.int .i64 a0_kind), (.int .i64 a1_other), a2_a_v, a3_b_v]) Try.func6 rfl (Nat.le_of_ble_eq_true rfl) ?_
  refine WP_seq ?_
  refine WP_region ?_
  refine WL_pure (.bool false) (R_as rfl) rfl rfl ?_
  refine WL_nil ?_
  refine WP_seq ?_
  refine WP_seq ?_
  refine WP_region ?_
  refine WL_pure a2_a_v (R_mv rfl) rfl rfl ?_
  refine WL_V (S_bld (K := K0) (vs := [(2, a2_a_v)]) (Z := (0, 0, a2_a, (List.replicate 32 0), ([] : List UInt8))) ty41 rfl Try.underlying41 (fs41 Try.underlying41) rfl (Parts.cons rfl rfl ty38 (Foc.trans (Foc.snd (Kd.int .i64) (Kd.pr (Kd.int .i64) (Kd.pr kd_l_l_u8 (Kd.pr kd_a32_u8 kd_l_u8)))) (Foc.trans (Foc.snd (Kd.int .i64) (Kd.pr kd_l_l_u8 (Kd.pr kd_a32_u8 kd_l_u8))) (Foc.fst kd_l_l_u8 (Kd.pr kd_a32_u8 kd_l_u8)))) h_a2_a Parts.nil)) rfl rfl ?_
  rintro v3 (hV3 : kd_Sincipitlaw03_Act.V _ (0, 0, a2_a, (List.replicate 32 0), ([] : List UInt8)) _)
  refine WL_pure a3_b_v (R_mv rfl) rfl rfl ?_
  refine WL_V (S_bld (K := K0) (vs := [(2, a3_b_v)]) (Z := (0, 0, a3_b, (List.replicate 32 0), ([] : List UInt8))) ty41 rfl Try.underlying41 (fs41 Try.underlying41) rfl (Parts.cons rfl rfl ty38 (Foc.trans (Foc.snd (Kd.int .i64) (Kd.pr (Kd.int .i64) (Kd.pr kd_l_l_u8 (Kd.pr kd_a32_u8 kd_l_u8)))) (Foc.trans (Foc.snd (Kd.int .i64) (Kd.pr kd_l_l_u8 (Kd.pr kd_a32_u8 kd_l_u8))) (Foc.fst kd_l_l_u8 (Kd.pr kd_a32_u8 kd_l_u8)))) h_a3_b Parts.nil)) rfl rfl ?_
  rintro v5 (hV5 : kd_Sincipitlaw03_Act.V _ (0, 0, a3_b, (List.replicate 32 0), ([] : List UInt8)) _)
  refine WL_eff rfl rfl (St_S0 (S_bsl (k := kd_Sincipitlaw03_Act) (l := [((0, 0, a2_a, (List.replicate 32 0), ([] : List UInt8)), v3), ((0, 0, a3_b, (List.replicate 32 0), ([] : List UInt8)), v5)]) hM0 rfl (by intro p hp; simp only [List.mem_cons, List.not_mem_nil, or_false] at hp; rcases hp with rfl | rfl; exact hV3; exact hV5) rfl Try.underlying22 ty41 rfl rfl) ?_)
  rintro v7 w7 K7 (hO7 : Own kd_Sincipitlaw03_Act 41 w7 K7 [(0, 0, a2_a, (List.replicate 32 0), ([] : List UInt8)), (0, 0, a3_b, (List.replicate 32 0), ([] : List UInt8))] v7) hS7 hM7 hg7
  have hE7 := hE0.andN hS7
  refine WL_eff rfl rfl (St_call (R_call Try.call13 rfl) ((heavy_c hM7 hO7.V).mono ?_))
  rintro _ w9 ⟨K9, v9_0, rfl, hS9, hM9, hV9_0⟩
  refine ⟨v9_0, rfl, ?_⟩
  have hE9 := hE7.andN hS9
  obtain rfl := bool_form hV9_0
  refine WL_nil ?_
  refine WP_cond (decide (¬ light [(0, 0, a2_a, (List.replicate 32 0), ([] : List UInt8)), (0, 0, a3_b, (List.replicate 32 0), ([] : List UInt8))])) rfl (fun hc10 => ?_) (fun hc10 => ?_)
  · have hd10 : ¬ light [(0, 0, a2_a, (List.replicate 32 0), ([] : List UInt8)), (0, 0, a3_b, (List.replicate 32 0), ([] : List UInt8))] := dec_t hc10
    have h := h.1 hd10
    refine WP_seq ?_
    refine WP_region ?_
    refine WL_eff rfl rfl (St_call (R_call Try.call14 rfl) ((awake3_c hM9 ).mono ?_))
    rintro _ w11 ⟨K11, v11_0, rfl, hS11, hM11, hV11_0⟩
    refine ⟨v11_0, rfl, ?_⟩
    have hE11 := hE9.andN hS11
    obtain rfl := bool_form hV11_0
    refine WL_pure (.bool true) (R_as rfl) rfl rfl ?_
    refine WL_nil ?_
    refine WP_ret ?_
    exact endR_ret hR (v := (.bool true)) (resE_1 rfl rfl) ⟨K11, (.bool true), true, rfl, h, hE11, hM11, bool_V⟩
  · have hd10 : ¬ (¬ light [(0, 0, a2_a, (List.replicate 32 0), ([] : List UInt8)), (0, 0, a3_b, (List.replicate 32 0), ([] : List UInt8))]) := dec_f hc10
    have h := h.2 hd10
    refine WP_skip ?_
    refine WP_seq ?_
    refine WP_region ?_
    refine WL_pure (.int .i64 a0_kind) (R_mv rfl) rfl rfl ?_
    refine WL_pure a2_a_v (R_mv rfl) rfl rfl ?_
    have hR12 := (hO7.extN hS9)
    obtain ⟨hp14, h⟩ := h
    refine WL_eff rfl rfl (St_call (R_call Try.call26 rfl) ((Preimage_c hM9 (int_V (h_a0_kind).wf) (h_a2_a.mono (hS7.le.trans hS9.le)) hp14).mono ?_))
    rintro _ w13 ⟨K13, v13_0, rfl, hS13, hM13, hO13_0, hg13_0⟩
    refine ⟨v13_0, rfl, ?_⟩
    have hE13 := hE9.andN hS13
    have h := h hO13_0.wf
    refine WL_pure (.int .i64 a1_other) (R_mv rfl) rfl rfl ?_
    refine WL_pure a3_b_v (R_mv rfl) rfl rfl ?_
    have hR16 := (hR12.extN hS13)
    obtain ⟨hp18, h⟩ := h
    refine WL_eff rfl rfl (St_call (R_call Try.call26 rfl) ((Preimage_c hM13 (int_V (h_a1_other).wf) (h_a3_b.mono (hS7.le.trans (hS9.le.trans hS13.le))) hp18).mono ?_))
    rintro _ w17 ⟨K17, v17_0, rfl, hS17, hM17, hO17_0, hg17_0⟩
    refine ⟨v17_0, rfl, ?_⟩
    have hE17 := hE13.andN hS17
    have h := h hO17_0.wf
    refine WL_pure v13_0 (R_as rfl) rfl rfl ?_
    refine WL_pure v17_0 (R_as rfl) rfl rfl ?_
    refine WL_nil ?_
    refine WP_seq ?_
    refine WP_ordD (K := K17) NX [.o 0 2, .o 1 2, .o 2 2, .o 3 2, .o 4 2, .o 5 2, .o 6 2, .o 7 2, .o 8 2, .o 9 2, .o 10 2, .o 11 2, .o 12 2, .o 13 0, .o 14 2, .o 15 2, .o 16 2, .o 17 0, .o 18 2, .o 19 2] (by kernel_rfl) (by kernel_rfl) hM17 ?_
    rintro w20 hS20 hM20
    have hE20 := hE17.andN hS20
    refine WO_pure v13_0 rfl l0 hM20 (fun _ => R_mv rfl) rfl (gN rfl) rfl ?_
    refine WO_held0 hM20 (S_b2s rfl (hO13_0.V.mono (hS17.le.trans hS20.le)) Try.underlying39 Try.underlying9 Try.underlying5) rfl (gN rfl) rfl ?_
    refine WO_pure v17_0 rfl l0 hM20 (fun _ => R_mv rfl) rfl (gN rfl) rfl ?_
    refine WO_held0 hM20 (S_b2s rfl (hO17_0.V.mono hS20.le) Try.underlying39 Try.underlying9 Try.underlying5) rfl (gN rfl) rfl ?_
    refine WO_pure (.bool (decide ((preimage a0_kind a2_a) = (preimage a1_other a3_b)))) rfl l0 hM20 (fun _ => R_seql rfl rfl Try.underlying9) rfl (gN rfl) rfl ?_
    refine WO_pure (.int .i64 a0_kind) rfl l0 hM20 (fun _ => R_mv rfl) rfl (gN rfl) rfl ?_
    refine WO_pure (.int .i64 (band .i64 a0_kind 255)) rfl l0 hM20 (fun _ => R_and rfl rfl) rfl (gN rfl) rfl ?_
    refine WO_pure (.int .i64 a1_other) rfl l0 hM20 (fun _ => R_mv rfl) rfl (gN rfl) rfl ?_
    refine WO_pure (.int .i64 (band .i64 a1_other 255)) rfl l0 hM20 (fun _ => R_and rfl rfl) rfl (gN rfl) rfl ?_
    refine WO_pure (.bool (decide ((band .i64 a0_kind 255) = (band .i64 a1_other 255)))) rfl l0 hM20 (fun _ => R_eql rfl rfl) rfl (gN rfl) rfl ?_
    refine WO_pure (.bool (decide ((band .i64 a0_kind 255) = (band .i64 a1_other 255)))) rfl l0 hM20 (fun _ => R_mv rfl) rfl (gN rfl) rfl ?_
    refine WO_meet (al := true) (l1 := [.o 11 2, .o 12 2, .o 13 0, .o 14 2]) [35, 36, 37, 38] NX (fun l w K => l = [(38, (.bool (decide (((band .i64 a0_kind 255) = (band .i64 a1_other 255)) ∧ (a2_a = a3_b)))))] ∧ Ext NX w20 K17 w K ∧ Models w K) ?_ ?_
    · rcases Classical.em ((band .i64 a0_kind 255) = (band .i64 a1_other 255)) with hp21 | hp21
      · skip
        refine WO_pure a2_a_v rfl l0 hM20 (fun _ => R_mv rfl) rfl (gY rfl rfl rfl (decide_eq_true hp21)) rfl ?_
        refine WO_pure a3_b_v rfl l0 hM20 (fun _ => R_mv rfl) rfl (gY rfl rfl rfl (decide_eq_true hp21)) rfl ?_
        refine WO_eff0 rfl (gY rfl rfl rfl (decide_eq_true hp21)) rfl (St_call (R_call Try.call27 rfl) ((alike_c hM20 (h_a2_a.mono (hS7.le.trans (hS9.le.trans (hS13.le.trans (hS17.le.trans hS20.le))))) (h_a3_b.mono (hS7.le.trans (hS9.le.trans (hS13.le.trans (hS17.le.trans hS20.le)))))).mono ?_))
        rintro _ w22 ⟨K22, v22_0, rfl, hS22, hM22, hV22_0⟩
        refine ⟨v22_0, rfl, ?_⟩
        refine ⟨K22, hS22, hM22, ?_⟩
        have hE22 := hE20.andN hS22
        obtain rfl := bool_form hV22_0
        refine WO_pure (.bool (decide (((band .i64 a0_kind 255) = (band .i64 a1_other 255)) ∧ (a2_a = a3_b)))) rfl l0 hM22 (fun _ => R_pick1 rfl (decide_eq_true hp21) rfl (and_T hp21)) rfl (gN rfl) rfl ?_
        exact WO_end [(38, (.bool (decide (((band .i64 a0_kind 255) = (band .i64 a1_other 255)) ∧ (a2_a = a3_b)))))] K22 rfl ⟨rfl, ((Ext.refl _ _ _).andN hS22), hM22⟩ (by repeat (first | exact Off.refl _ _ | refine Off.updO ?_ rfl _ | refine Off.updN ?_ _ | refine Off.lay ?_ rfl)) ⟨rfl, trivial⟩
      · skip
        refine WO_skip _ hM20 l0 rfl (gF rfl rfl rfl (decide_eq_false hp21)) rfl ?_
        refine WO_skip _ hM20 l0 rfl (gF rfl rfl rfl (decide_eq_false hp21)) rfl ?_
        refine WO_skip _ hM20 l0 rfl (gF rfl rfl rfl (decide_eq_false hp21)) rfl ?_
        refine WO_pure (.bool (decide (((band .i64 a0_kind 255) = (band .i64 a1_other 255)) ∧ (a2_a = a3_b)))) rfl l0 hM20 (fun _ => R_pick2 rfl (decide_eq_false hp21) rfl (and_F hp21)) rfl (gN rfl) rfl ?_
        exact WO_end [(38, (.bool (decide (((band .i64 a0_kind 255) = (band .i64 a1_other 255)) ∧ (a2_a = a3_b)))))] K17 rfl ⟨rfl, (Ext.refl _ _ _), hM20⟩ (by repeat (first | exact Off.refl _ _ | refine Off.updO ?_ rfl _ | refine Off.updN ?_ _ | refine Off.lay ?_ rfl)) ⟨rfl, trivial⟩
    rintro l σ23 w23 K23 ⟨rfl, hS23, hM23⟩
    have hE23 := hE20.andN hS23
    refine WO_pure (.bool (decide ((decide ((preimage a0_kind a2_a) = (preimage a1_other a3_b))) = (decide (((band .i64 a0_kind 255) = (band .i64 a1_other 255)) ∧ (a2_a = a3_b)))))) rfl l0 hM23 (fun _ => R_eqb rfl rfl Try.underlying4) rfl (gN rfl) rfl ?_
    refine WO_pure (.bool (decide ((decide ((preimage a0_kind a2_a) = (preimage a1_other a3_b))) = (decide (((band .i64 a0_kind 255) = (band .i64 a1_other 255)) ∧ (a2_a = a3_b)))))) rfl l0 hM23 (fun _ => R_mv rfl) rfl (gN rfl) rfl ?_
    refine WO_meet (al := true) (l1 := [.o 17 0, .o 18 2]) [41, 42] NX (fun l w K => l = [(42, (.bool (decide (((decide ((preimage a0_kind a2_a) = (preimage a1_other a3_b))) = (decide (((band .i64 a0_kind 255) = (band .i64 a1_other 255)) ∧ (a2_a = a3_b)))) ∧ (true = true)))))] ∧ Ext NX w23 K23 w K ∧ Models w K) ?_ ?_
    · rcases Classical.em ((decide ((preimage a0_kind a2_a) = (preimage a1_other a3_b))) = (decide (((band .i64 a0_kind 255) = (band .i64 a1_other 255)) ∧ (a2_a = a3_b)))) with hp24 | hp24
      · skip
        refine WO_eff0 rfl (gY rfl rfl rfl (decide_eq_true hp24)) rfl (St_call (R_call Try.call14 rfl) ((awake3_c hM23 ).mono ?_))
        rintro _ w25 ⟨K25, v25_0, rfl, hS25, hM25, hV25_0⟩
        refine ⟨v25_0, rfl, ?_⟩
        refine ⟨K25, hS25, hM25, ?_⟩
        have hE25 := hE23.andN hS25
        obtain rfl := bool_form hV25_0
        refine WO_pure (.bool (decide (((decide ((preimage a0_kind a2_a) = (preimage a1_other a3_b))) = (decide (((band .i64 a0_kind 255) = (band .i64 a1_other 255)) ∧ (a2_a = a3_b)))) ∧ (true = true)))) rfl l0 hM25 (fun _ => R_pick1 rfl (decide_eq_true hp24) rfl (and_T' hp24)) rfl (gN rfl) rfl ?_
        exact WO_end [(42, (.bool (decide (((decide ((preimage a0_kind a2_a) = (preimage a1_other a3_b))) = (decide (((band .i64 a0_kind 255) = (band .i64 a1_other 255)) ∧ (a2_a = a3_b)))) ∧ (true = true)))))] K25 rfl ⟨rfl, ((Ext.refl _ _ _).andN hS25), hM25⟩ (by repeat (first | exact Off.refl _ _ | refine Off.updO ?_ rfl _ | refine Off.updN ?_ _ | refine Off.lay ?_ rfl)) ⟨rfl, trivial⟩
      · skip
        refine WO_skip _ hM23 l0 rfl (gF rfl rfl rfl (decide_eq_false hp24)) rfl ?_
        refine WO_pure (.bool (decide (((decide ((preimage a0_kind a2_a) = (preimage a1_other a3_b))) = (decide (((band .i64 a0_kind 255) = (band .i64 a1_other 255)) ∧ (a2_a = a3_b)))) ∧ (true = true)))) rfl l0 hM23 (fun _ => R_pick2 rfl (decide_eq_false hp24) rfl (and_F hp24)) rfl (gN rfl) rfl ?_
        exact WO_end [(42, (.bool (decide (((decide ((preimage a0_kind a2_a) = (preimage a1_other a3_b))) = (decide (((band .i64 a0_kind 255) = (band .i64 a1_other 255)) ∧ (a2_a = a3_b)))) ∧ (true = true)))))] K23 rfl ⟨rfl, (Ext.refl _ _ _), hM23⟩ (by repeat (first | exact Off.refl _ _ | refine Off.updO ?_ rfl _ | refine Off.updN ?_ _ | refine Off.lay ?_ rfl)) ⟨rfl, trivial⟩
    rintro l σ26 w26 K26 ⟨rfl, hS26, hM26⟩
    have hE26 := hE23.andN hS26
    refine WO_pure (.bool (decide (((decide ((preimage a0_kind a2_a) = (preimage a1_other a3_b))) = (decide (((band .i64 a0_kind 255) = (band .i64 a1_other 255)) ∧ (a2_a = a3_b)))) ∧ (true = true)))) rfl l0 hM26 (fun _ => R_as rfl) rfl (gN rfl) rfl ?_
    refine WO_nil ?_
    refine WP_ret ?_
    exact endR_ret hR (v := (.bool (decide (((decide ((preimage a0_kind a2_a) = (preimage a1_other a3_b))) = (decide (((band .i64 a0_kind 255) = (band .i64 a1_other 255)) ∧ (a2_a = a3_b)))) ∧ (true = true))))) (resE_1 rfl rfl) ⟨K26, (.bool (decide (((decide ((preimage a0_kind a2_a) = (preimage a1_other a3_b))) = (decide (((band .i64 a0_kind 255) = (band .i64 a1_other 255)) ∧ (a2_a = a3_b)))) ∧ (true = true)))), (decide (((decide ((preimage a0_kind a2_a) = (preimage a1_other a3_b))) = (decide (((band .i64 a0_kind 255) = (band .i64 a1_other 255)) ∧ (a2_a = a3_b)))) ∧ (true = true))), rfl, h, hE26, hM26, bool_V⟩
theorem SealApart_c {w0 : World} {K0 : Ghost} {a0_kind_v : Value} {a0_kind : Int} {a1_other_v : Value} {a1_other : Int} {a2_a_v : Value} {a2_a : (List (List UInt8))} {a3_b_v : Value} {a3_b : (List (List UInt8))} (hM0 : Models w0 K0) (h_a0_kind : (Kd.int .i64).V K0 a0_kind a0_kind_v) (h_a1_other : (Kd.int .i64).V K0 a1_other a1_other_v) (h_a2_a : kd_l_l_u8.V K0 a2_a a2_a_v) (h_a3_b : kd_l_l_u8.V K0 a3_b a3_b_v) : Calls Try.prog 6 #[a0_kind_v, a1_other_v, a2_a_v, a3_b_v] w0 (fun e w' => ∃ (K' : Ghost) (r0 : Value), e = .returned r0 ∧ Ext NX w0 K0 w' K' ∧ Models w' K' ∧ Kd.bool.V K' true r0) := by
  refine (SealApart_walk hM0 h_a0_kind h_a1_other h_a2_a h_a3_b (SealApart_ok h_a0_kind.wf h_a1_other.wf h_a2_a.wf h_a3_b.wf)).mono ?_
  rintro _ w' ⟨K', r0, o0, rfl, rfl, hF⟩
  exact ⟨K', r0, rfl, hF⟩
end Go.Proofs.Ytfbhiilolpamaaa
