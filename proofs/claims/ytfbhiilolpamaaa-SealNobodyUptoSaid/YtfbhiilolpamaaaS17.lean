/- Each function that stands here: what its call must answer for (_VC), that it does (_ok), the walk through its code (_walk), its contract (_c). -/
import Derived.Test.YtfbhiilolpamaaaS16
import Derived.Test.YtfbhiilolpamaaaChecked
import Derived.Test.YtfbhiilolpamaaaB21
import Derived.Test.YtfbhiilolpamaaaP8
set_option linter.unusedVariables false
set_option maxRecDepth 100000
set_option maxHeartbeats 2000000
namespace Go.Proofs.Ytfbhiilolpamaaa
open Go Go.RowKit Go.Inc
def SealNobody_VC (a0_x : (Int × (Int × ((List (List UInt8)) × ((List UInt8) × (List UInt8)))))) (Q : Bool → Prop) : Prop :=
  ((¬ light [a0_x]) → Q true) ∧ ((¬ (¬ light [a0_x])) → (a0_x.2.2.2.2.length ≤ 140737488355328 ∧ bookRoom (none : BookA)) ∧ ((bookFits (none : BookA)) ∧ ((kd_l_u8.wf (bookFind (none : BookA) a0_x.2.2.2.1)) → ((clashPre [(none : Option (((List ((List UInt8) × (List UInt8))) × Unit) × Int)), (none : Option (((List ((List UInt8) × (List UInt8))) × Unit) × Int))]) ∧ ((kd_l_u8.wf ((clashA [(none : Option (((List ((List UInt8) × (List UInt8))) × Unit) × Int)), (none : Option (((List ((List UInt8) × (List UInt8))) × Unit) × Int))]).1)) → ((kd_l_u8.wf ((clashA [(none : Option (((List ((List UInt8) × (List UInt8))) × Unit) × Int)), (none : Option (((List ((List UInt8) × (List UInt8))) × Unit) × Int))]).2.1)) → ((clashPre ([] : List (Option (((List ((List UInt8) × (List UInt8))) × Unit) × Int)))) ∧ ((kd_l_u8.wf ((clashA ([] : List (Option (((List ((List UInt8) × (List UInt8))) × Unit) × Int)))).1)) → ((kd_l_u8.wf ((clashA ([] : List (Option (((List ((List UInt8) × (List UInt8))) × Unit) × Int)))).2.1)) → ((1 + blobRoom a0_x.2.2.1 ≤ 140737488355328 ∧ bookRoom (none : BookA)) ∧ ((kd_a32_u8.wf (sealOf a0_x.2.1 a0_x.2.2.1)) → ((1 + blobRoom a0_x.2.2.1 ≤ 70368744177664) ∧ ((kd_a32_u8.wf (sealOf a0_x.2.1 a0_x.2.2.1)) → (((((sealOf a0_x.2.1 a0_x.2.2.1) = (sealOf a0_x.2.1 a0_x.2.2.1)) ∧ ((bookCalls (none : BookA)) = 0)) → ((bookFits (none : BookA)) ∧ ((kd_l_l_u8.wf (bookAll (none : BookA))) → (True)))) ∧ (Q (decide (((((((((sealOf a0_x.2.1 a0_x.2.2.1) = (sealOf a0_x.2.1 a0_x.2.2.1)) ∧ ((bookCalls (none : BookA)) = 0)) ∧ (((bookAll (none : BookA)).length : Int) = 0)) ∧ (((bookFind (none : BookA) a0_x.2.2.2.1).length : Int) = 0)) ∧ (¬ ((bookHas (none : BookA) a0_x.2.2.2.1) = true))) ∧ (¬ (((clashA [(none : Option (((List ((List UInt8) × (List UInt8))) × Unit) × Int)), (none : Option (((List ((List UInt8) × (List UInt8))) × Unit) × Int))]).2.2) = true))) ∧ (¬ (((clashA ([] : List (Option (((List ((List UInt8) × (List UInt8))) × Unit) × Int)))).2.2) = true))) ∧ (true = true))))))))))))))))))
theorem SealNobody_ok {a0_x : (Int × (Int × ((List (List UInt8)) × ((List UInt8) × (List UInt8)))))} (w_0 : kd_Sincipitlaw03_Act.wf a0_x) : SealNobody_VC a0_x (fun o0 => o0 = true) := by
  unfold SealNobody_VC
  refine ⟨fun _ => rfl, fun hl => ?_⟩
  have hl := Decidable.not_not.1 hl
  have rp := room_light hl (a := a0_x) (by simp)
  have fit : bookFits none := by rintro y h; cases h
  have room : bookRoom none := by rintro y h; cases h
  have c1 : clashA [(none : BookF), none] = ([], [], false) := rfl
  have c2 : clashA ([] : List BookF) = ([], [], false) := rfl
  refine ⟨⟨by omega, room⟩, fit, fun _ => ⟨⟨by simp [notesF], by simp [notesF]⟩, fun _ _ => ⟨⟨by simp [notesF], by simp [notesF]⟩, fun _ _ => ⟨⟨by omega, room⟩, fun _ => ⟨by omega, fun _ => ⟨fun _ => ⟨fit, fun _ => trivial⟩, ?_⟩⟩⟩⟩⟩⟩
  rw [c1, c2]
  simp [bookCalls, bookAll, bookFind, bookHas]

theorem SealNobody_walk {w0 : World} {K0 : Ghost} {a0_x_v : Value} {a0_x : (Int × (Int × ((List (List UInt8)) × ((List UInt8) × (List UInt8)))))} {Q : Bool → Prop} (hM0 : Models w0 K0) (h_a0_x : kd_Sincipitlaw03_Act.V K0 a0_x a0_x_v) (h : SealNobody_VC a0_x Q) : Calls Try.prog 4 #[a0_x_v] w0 (fun e w' => ∃ (K' : Ghost) (r0 : Value) (o0 : Bool), e = .returned r0 ∧ Q o0 ∧ Ext NX w0 K0 w' K' ∧ Models w' K' ∧ Kd.bool.V K' o0 r0) := by
  unfold SealNobody_VC at h
  have hE0 : Ext NX w0 K0 w0 K0 := Ext.refl _ _ _
  refine calls_gen fun R hR => ?_
  refine calls_env (args := [a0_x_v]) Try.func4 rfl (Nat.le_of_ble_eq_true rfl) ?_
  refine WP_seq ?_
  refine WP_region ?_
  refine WL_eff rfl rfl (St_B (S_box hM0 rfl h_a0_x) ?_)
  rintro b2 w2 (hB2 : Bx kd_Sincipitlaw03_Act _ _ _ _ _ a0_x) hS2 hM2 hge2
  have hE2 := hE0.andN hS2
  refine WL_pure (.bool false) (R_as rfl) rfl rfl ?_
  refine WL_nil ?_
  refine WP_seq ?_
  refine WP_seq ?_
  refine WP_region ?_
  refine WL_L hM2 (S_ldB (Foc.id _) rfl ty41 hB2 (by first | rfl | simp | omega) (fun h => h)) rfl rfl ?_
  rintro v4 (hV4 : kd_Sincipitlaw03_Act.V _ a0_x _)
  refine WL_eff rfl rfl (St_S0 (S_bsl (k := kd_Sincipitlaw03_Act) (l := [(a0_x, v4)]) hM2 rfl (by intro p hp; simp only [List.mem_cons, List.not_mem_nil, or_false] at hp; subst hp; exact hV4) rfl Try.underlying22 ty41 rfl rfl) ?_)
  rintro v6 w6 K6 (hO6 : Own kd_Sincipitlaw03_Act 41 w6 K6 [a0_x] v6) hS6 hM6 hg6
  have hE6 := hE2.andN hS6
  refine WL_eff rfl rfl (St_call (R_call Try.call13 rfl) ((heavy_c hM6 hO6.V).mono ?_))
  rintro _ w8 ⟨K8, v8_0, rfl, hS8, hM8, hV8_0⟩
  refine ⟨v8_0, rfl, ?_⟩
  have hE8 := hE6.andN hS8
  obtain rfl := bool_form hV8_0
  refine WL_nil ?_
  refine WP_cond (decide (¬ light [a0_x])) rfl (fun hc9 => ?_) (fun hc9 => ?_)
  · have hd9 : ¬ light [a0_x] := dec_t hc9
    have h := h.1 hd9
    refine WP_seq ?_
    refine WP_region ?_
    refine WL_eff rfl rfl (St_call (R_call Try.call14 rfl) ((awake3_c hM8 ).mono ?_))
    rintro _ w10 ⟨K10, v10_0, rfl, hS10, hM10, hV10_0⟩
    refine ⟨v10_0, rfl, ?_⟩
    have hE10 := hE8.andN hS10
    obtain rfl := bool_form hV10_0
    refine WL_pure (.bool true) (R_as rfl) rfl rfl ?_
    refine WL_nil ?_
    refine WP_ret ?_
    exact endR_ret hR (v := (.bool true)) (resE_1 rfl rfl) ⟨K10, (.bool true), true, rfl, h, hE10, hM10, bool_V⟩
  · have hd9 : ¬ (¬ light [a0_x]) := dec_f hc9
    have h := h.2 hd9
    refine WP_skip ?_
    refine WP_seq ?_
    refine WP_region ?_
    refine WL_pure (.pointer none) (R_as rfl) rfl rfl ?_
    refine WL_nil ?_
    refine WP_seq ?_
    refine WP_region ?_
    refine WL_pure (.pointer none) (R_mv rfl) rfl rfl ?_
    refine WL_pure (.pointer (some ⟨b2, 0 + 3, none⟩)) (R_fa rfl Try.underlying41 rfl rfl ty23 rfl) rfl rfl ?_
    have hR12 := ((hB2.extN hS6).extN hS8)
    refine WL_L hM8 (S_ldB (Foc.trans (Foc.snd (Kd.int .i64) (Kd.pr (Kd.int .i64) (Kd.pr kd_l_l_u8 (Kd.pr kd_a32_u8 kd_l_u8)))) (Foc.trans (Foc.snd (Kd.int .i64) (Kd.pr kd_l_l_u8 (Kd.pr kd_a32_u8 kd_l_u8))) (Foc.trans (Foc.snd kd_l_l_u8 (Kd.pr kd_a32_u8 kd_l_u8)) (Foc.fst kd_a32_u8 kd_l_u8)))) rfl ty23 hR12 (by first | rfl | simp | omega) (fun h => h)) rfl rfl ?_
    rintro v11 (hV11 : kd_a32_u8.V _ a0_x.2.2.2.1 _)
    refine WL_pure (.pointer (some ⟨b2, 0 + 35, none⟩)) (R_fa rfl Try.underlying41 rfl rfl ty39 rfl) rfl rfl ?_
    refine WL_L hM8 (S_ldB (Foc.trans (Foc.snd (Kd.int .i64) (Kd.pr (Kd.int .i64) (Kd.pr kd_l_l_u8 (Kd.pr kd_a32_u8 kd_l_u8)))) (Foc.trans (Foc.snd (Kd.int .i64) (Kd.pr kd_l_l_u8 (Kd.pr kd_a32_u8 kd_l_u8))) (Foc.trans (Foc.snd kd_l_l_u8 (Kd.pr kd_a32_u8 kd_l_u8)) (Foc.snd kd_a32_u8 kd_l_u8)))) rfl ty39 hR12 (by first | rfl | simp | omega) (fun h => h)) rfl rfl ?_
    rintro v14 (hV14 : kd_l_u8.V _ a0_x.2.2.2.2 _)
    have hR16 := (hO6.extN hS8)
    have hR18 : BookR w8 K8 (.pointer none) NX (none : BookA) := BookE.nil
    obtain ⟨hp19, h⟩ := h
    refine WL_eff rfl rfl (St_call (R_call Try.call19 rfl) ((NoteO_c hM8 hR18 hV11 hV14 hp19).mono ?_))
    rintro _ w17 ⟨K17, u17_0, rfl, hS17, hM17, hu17_0, hxu17_0⟩
    refine ⟨(.tuple #[]), rfl, ?_⟩
    have hE17 := hE8.comp hS17 (fun c hx hlt => (fun g hg _ => hg.elim) c hx hlt)
    have hR20 := (hR12.ext hS17 (fun hx => (fun g hg hx => (fun g hg _ => hg.elim) g hx hg) b2 rfl hx))
    have hR21 := (hR16.ext hS17 (fun g hg hx => (fun g hg hx => (fun g hg _ => hg.elim) g hx hg) g hg hx))
    have hs22 : ∀ g, u17_0 g → ¬ (g = b2) := fun g hg hy => (hxu17_0 g hg).elim (fun hx => (fun g hg _ => hg.elim) g hx hy) (fun hx => lt_eq hR12.lt hy hx)
    have hs23 : ∀ g, u17_0 g → ¬ (ob v6 = some g) := fun g hg hy => (hxu17_0 g hg).elim (fun hx => (fun g hg _ => hg.elim) g hx hy) (fun hx => absurd (hR16.lt _ hy) (Nat.not_lt.2 hx))
    refine WL_nil ?_
    refine WP_seq ?_
    refine WP_region ?_
    refine WL_pure (.pointer none) (R_mv rfl) rfl rfl ?_
    refine WL_pure (.pointer (some ⟨b2, 0 + 3, none⟩)) (R_fa rfl Try.underlying41 rfl rfl ty23 rfl) rfl rfl ?_
    refine WL_L hM17 (S_ldB (Foc.trans (Foc.snd (Kd.int .i64) (Kd.pr (Kd.int .i64) (Kd.pr kd_l_l_u8 (Kd.pr kd_a32_u8 kd_l_u8)))) (Foc.trans (Foc.snd (Kd.int .i64) (Kd.pr kd_l_l_u8 (Kd.pr kd_a32_u8 kd_l_u8))) (Foc.trans (Foc.snd kd_l_l_u8 (Kd.pr kd_a32_u8 kd_l_u8)) (Foc.fst kd_a32_u8 kd_l_u8)))) rfl ty23 hR20 (by first | rfl | simp | omega) (fun h => h)) rfl rfl ?_
    rintro v24 (hV24 : kd_a32_u8.V _ a0_x.2.2.2.1 _)
    have hR27 : BookR w17 K17 (.pointer none) NX (none : BookA) := BookE.nil
    obtain ⟨hp28, h⟩ := h
    refine WL_eff rfl rfl (St_call (R_call Try.call16 rfl) ((FindO_c hM17 hR27 hV24 hp28).mono ?_))
    rintro _ w26 ⟨K26, v26_0, v26_1, rfl, hS26, hM26, hO26_0, hg26_0, hV26_1⟩
    refine ⟨(.tuple #[v26_0, v26_1]), rfl, ?_⟩
    have hE26 := hE17.andN hS26
    have h := h hO26_0.wf
    obtain rfl := bool_form hV26_1
    refine WL_pure (.tuple #[v26_0, (.bool (bookHas (none : BookA) a0_x.2.2.2.1))]) (R_mv rfl) rfl rfl ?_
    refine WL_pure v26_0 (R_ext rfl rfl) rfl rfl ?_
    refine WL_pure (.bool (bookHas (none : BookA) a0_x.2.2.2.1)) (R_ext rfl rfl) rfl rfl ?_
    refine WL_pure v26_0 (R_as rfl) rfl rfl ?_
    refine WL_pure (.bool (bookHas (none : BookA) a0_x.2.2.2.1)) (R_as rfl) rfl rfl ?_
    refine WL_nil ?_
    refine WP_seq ?_
    refine WP_region ?_
    refine WL_pure (.pointer none) (R_mv rfl) rfl rfl ?_
    refine WL_eff rfl rfl (St_S0 (S_bsl (k := kd_p_Sseal_BookF) (l := [((none : Option (((List ((List UInt8) × (List UInt8))) × Unit) × Int)), (.pointer none)), ((none : Option (((List ((List UInt8) × (List UInt8))) × Unit) × Int)), (.pointer none))]) hM26 rfl (by intro p hp; simp only [List.mem_cons, List.not_mem_nil, or_false] at hp; rcases hp with rfl | rfl; exact ptr_V0; exact ptr_V0) rfl Try.underlying61 ty26b rfl rfl) ?_)
    rintro v30 w30 K30 (hO30 : Own kd_p_Sseal_BookF 26 w30 K30 [(none : Option (((List ((List UInt8) × (List UInt8))) × Unit) × Int)), (none : Option (((List ((List UInt8) × (List UInt8))) × Unit) × Int))] v30) hS30 hM30 hg30
    have hE30 := hE26.andN hS30
    have hR32 := (hu17_0.extN hS26)
    have hR33 := (hR27.extN hS26)
    obtain ⟨hp35, h⟩ := h
    refine WL_eff rfl rfl (St_call (R_call Try.call20 rfl) ((Clash_c hM30 hO30.V hp35).mono ?_))
    rintro _ w34 ⟨K34, v34_0, v34_1, v34_2, rfl, hS34, hM34, hV34_0, hV34_1, hV34_2⟩
    refine ⟨(.tuple #[v34_0, v34_1, v34_2]), rfl, ?_⟩
    have hE34 := hE30.andN hS34
    have h := h hV34_0.wf
    have h := h hV34_1.wf
    obtain rfl := bool_form hV34_2
    refine WL_pure (.tuple #[v34_0, v34_1, (.bool ((clashA [(none : Option (((List ((List UInt8) × (List UInt8))) × Unit) × Int)), (none : Option (((List ((List UInt8) × (List UInt8))) × Unit) × Int))]).2.2))]) (R_mv rfl) rfl rfl ?_
    refine WL_pure v34_0 (R_ext rfl rfl) rfl rfl ?_
    refine WL_pure v34_1 (R_ext rfl rfl) rfl rfl ?_
    refine WL_pure (.bool ((clashA [(none : Option (((List ((List UInt8) × (List UInt8))) × Unit) × Int)), (none : Option (((List ((List UInt8) × (List UInt8))) × Unit) × Int))]).2.2)) (R_ext rfl rfl) rfl rfl ?_
    refine WL_pure v34_0 (R_as rfl) rfl rfl ?_
    refine WL_pure v34_1 (R_as rfl) rfl rfl ?_
    refine WL_pure (.bool ((clashA [(none : Option (((List ((List UInt8) × (List UInt8))) × Unit) × Int)), (none : Option (((List ((List UInt8) × (List UInt8))) × Unit) × Int))]).2.2)) (R_as rfl) rfl rfl ?_
    refine WL_nil ?_
    refine WP_seq ?_
    refine WP_region ?_
    have hR38 : Own kd_p_Sseal_BookF 26 w34 K34 ([] : List (Option (((List ((List UInt8) × (List UInt8))) × Unit) × Int))) (.slice none 0 0) := Own.nil
    obtain ⟨hp40, h⟩ := h
    refine WL_eff rfl rfl (St_call (R_call Try.call20 rfl) ((Clash_c hM34 hR38.V hp40).mono ?_))
    rintro _ w39 ⟨K39, v39_0, v39_1, v39_2, rfl, hS39, hM39, hV39_0, hV39_1, hV39_2⟩
    refine ⟨(.tuple #[v39_0, v39_1, v39_2]), rfl, ?_⟩
    have hE39 := hE34.andN hS39
    have h := h hV39_0.wf
    have h := h hV39_1.wf
    obtain rfl := bool_form hV39_2
    refine WL_pure (.tuple #[v39_0, v39_1, (.bool ((clashA ([] : List (Option (((List ((List UInt8) × (List UInt8))) × Unit) × Int)))).2.2))]) (R_mv rfl) rfl rfl ?_
    refine WL_pure v39_0 (R_ext rfl rfl) rfl rfl ?_
    refine WL_pure v39_1 (R_ext rfl rfl) rfl rfl ?_
    refine WL_pure (.bool ((clashA ([] : List (Option (((List ((List UInt8) × (List UInt8))) × Unit) × Int)))).2.2)) (R_ext rfl rfl) rfl rfl ?_
    refine WL_pure v39_0 (R_as rfl) rfl rfl ?_
    refine WL_pure v39_1 (R_as rfl) rfl rfl ?_
    refine WL_pure (.bool ((clashA ([] : List (Option (((List ((List UInt8) × (List UInt8))) × Unit) × Int)))).2.2)) (R_as rfl) rfl rfl ?_
    refine WL_nil ?_
    refine WP_seq ?_
    have hR43 := ((((hR20.extN hS26).extN hS30).extN hS34).extN hS39)
    refine WP_ordD (K := K39) (fun c => w39.heap.size ≤ c) [.o 0 3, .o 1 3, .o 2 3, .o 3 3, .o 4 3, .o 6 3, .o 7 3, .o 8 3, .o 9 3, .o 5 1, .o 10 1, .o 11 3, .o 12 3, .o 13 3, .o 14 1, .o 15 3, .o 16 3, .o 17 3, .o 18 3, .o 19 1, .o 20 3, .o 21 3, .o 22 3, .o 23 3, .o 24 3, .o 25 3, .o 26 3, .o 27 3, .o 28 3, .o 29 3, .o 30 3, .o 31 3, .o 32 3, .o 33 3, .o 34 3, .o 35 3, .o 36 3, .o 37 3, .o 38 3, .o 39 3, .o 40 3, .o 41 1, .o 42 3, .o 43 3] (by kernel_rfl) (by kernel_rfl) hM39 ?_
    rintro w44 hS44 hM44
    have hE44 := hE39.andN hS44
    refine WO_pure (.pointer none) rfl l3 hM44 (fun _ => R_mv rfl) rfl (gN rfl) rfl ?_
    refine WO_pure (.pointer (some ⟨b2, 0 + 1, none⟩)) rfl l3 hM44 (fun _ => R_fa rfl Try.underlying41 rfl rfl ty3 rfl) rfl (gN rfl) rfl ?_
    have hR46 := (hR43.extN hS44)
    refine WO_L hM44 (S_ldB (Foc.trans (Foc.snd (Kd.int .i64) (Kd.pr (Kd.int .i64) (Kd.pr kd_l_l_u8 (Kd.pr kd_a32_u8 kd_l_u8)))) (Foc.fst (Kd.int .i64) (Kd.pr kd_l_l_u8 (Kd.pr kd_a32_u8 kd_l_u8)))) rfl ty3 hR46 (by first | rfl | simp | omega) (fun hx => absurd hR43.lt (Nat.not_lt.2 hx))) rfl (gN rfl) rfl ?_
    rintro v45 (hV45 : (Kd.int .i64).V _ a0_x.2.1 _)
    obtain rfl := int_form hV45
    refine WO_pure (.pointer (some ⟨b2, 0 + 2, none⟩)) rfl l3 hM44 (fun _ => R_fa rfl Try.underlying41 rfl rfl ty38 rfl) rfl (gN rfl) rfl ?_
    refine WO_L hM44 (S_ldB (Foc.trans (Foc.snd (Kd.int .i64) (Kd.pr (Kd.int .i64) (Kd.pr kd_l_l_u8 (Kd.pr kd_a32_u8 kd_l_u8)))) (Foc.trans (Foc.snd (Kd.int .i64) (Kd.pr kd_l_l_u8 (Kd.pr kd_a32_u8 kd_l_u8))) (Foc.fst kd_l_l_u8 (Kd.pr kd_a32_u8 kd_l_u8)))) rfl ty38 hR46 (by first | rfl | simp | omega) (fun hx => absurd hR43.lt (Nat.not_lt.2 hx))) rfl (gN rfl) rfl ?_
    rintro v47 (hV47 : kd_l_l_u8.V _ a0_x.2.2.1 _)
    refine WO_pure (.pointer (some ⟨b2, 0 + 1, none⟩)) rfl l3 hM44 (fun _ => R_fa rfl Try.underlying41 rfl rfl ty3 rfl) rfl (gN rfl) rfl ?_
    refine WO_L hM44 (S_ldB (Foc.trans (Foc.snd (Kd.int .i64) (Kd.pr (Kd.int .i64) (Kd.pr kd_l_l_u8 (Kd.pr kd_a32_u8 kd_l_u8)))) (Foc.fst (Kd.int .i64) (Kd.pr kd_l_l_u8 (Kd.pr kd_a32_u8 kd_l_u8)))) rfl ty3 hR46 (by first | rfl | simp | omega) (fun hx => absurd hR43.lt (Nat.not_lt.2 hx))) rfl (gN rfl) rfl ?_
    rintro v49 (hV49 : (Kd.int .i64).V _ a0_x.2.1 _)
    obtain rfl := int_form hV49
    refine WO_pure (.pointer (some ⟨b2, 0 + 2, none⟩)) rfl l3 hM44 (fun _ => R_fa rfl Try.underlying41 rfl rfl ty38 rfl) rfl (gN rfl) rfl ?_
    refine WO_L hM44 (S_ldB (Foc.trans (Foc.snd (Kd.int .i64) (Kd.pr (Kd.int .i64) (Kd.pr kd_l_l_u8 (Kd.pr kd_a32_u8 kd_l_u8)))) (Foc.trans (Foc.snd (Kd.int .i64) (Kd.pr kd_l_l_u8 (Kd.pr kd_a32_u8 kd_l_u8))) (Foc.fst kd_l_l_u8 (Kd.pr kd_a32_u8 kd_l_u8)))) rfl ty38 hR46 (by first | rfl | simp | omega) (fun hx => absurd hR43.lt (Nat.not_lt.2 hx))) rfl (gN rfl) rfl ?_
    rintro v50 (hV50 : kd_l_l_u8.V _ a0_x.2.2.1 _)
    have hR52 := (((((hR21.extN hS26).extN hS30).extN hS34).extN hS39).extN hS44)
    have hR53 := (((((hu17_0.extN hS26).extN hS30).extN hS34).extN hS39).extN hS44)
    have hR54 := (((((hR27.extN hS26).extN hS30).extN hS34).extN hS39).extN hS44)
    have hR55 := ((((hO26_0.extN hS30).extN hS34).extN hS39).extN hS44)
    have hR56 := (((hO30.extN hS34).extN hS39).extN hS44)
    have hR57 := ((hR38.extN hS39).extN hS44)
    have hR59 : BookR w44 K39 (.pointer none) NX (none : BookA) := BookE.nil
    obtain ⟨hp60, h⟩ := h
    refine WO_eff rfl (gN rfl) rfl (St_call (R_call Try.call21 rfl) ((Of_c hM44 hR59 (int_V (hV45).wf) hV47 hp60).mono ?_))
    rintro _ w58 ⟨K58, v58_0, u58_0, rfl, hS58, hM58, hV58_0, hu58_0, hxu58_0⟩
    refine ⟨v58_0, rfl, ?_⟩
    refine ⟨K58, (hS58.weak (fun c hlt hx => (hx.elim))), hM58, ?_⟩
    have hE58 := hE44.comp hS58 (fun c hx hlt => (fun g hg _ => hg.elim) c hx hlt)
    have hR61 := (hR46.ext hS58 (fun hx => (fun g hg hx => (fun g hg _ => hg.elim) g hx hg) b2 rfl hx))
    have hR62 := (hR52.ext hS58 (fun g hg hx => (fun g hg hx => (fun g hg _ => hg.elim) g hx hg) g hg hx))
    have hR63 := (hR53.ext hS58 (fun g hg hx => (fun g hg hx => (fun g hg _ => hg.elim) g hx hg) g hg hx))
    have hR64 := (hR54.ext hS58 (fun g hg hx => (fun g hg hx => (fun g hg _ => hg.elim) g hx hg) g hg hx))
    have hR65 := (hR55.ext hS58 (fun g hg hx => (fun g hg hx => (fun g hg _ => hg.elim) g hx hg) g hg hx))
    have hR66 := (hR56.ext hS58 (fun g hg hx => (fun g hg hx => (fun g hg _ => hg.elim) g hx hg) g hg hx))
    have hR67 := (hR57.ext hS58 (fun g hg hx => (fun g hg hx => (fun g hg _ => hg.elim) g hx hg) g hg hx))
    have hs68 : ∀ g, u58_0 g → ¬ (g = b2) := fun g hg hy => (hxu58_0 g hg).elim (fun hx => (fun g hg _ => hg.elim) g hx hy) (fun hx => lt_eq hR46.lt hy hx)
    have hs69 : ∀ g, u58_0 g → ¬ (ob v6 = some g) := fun g hg hy => (hxu58_0 g hg).elim (fun hx => (fun g hg _ => hg.elim) g hx hy) (fun hx => absurd (hR52.lt _ hy) (Nat.not_lt.2 hx))
    have hs70 : ∀ g, u58_0 g → ¬ (u17_0 g) := fun g hg hy => (hxu58_0 g hg).elim (fun hx => (fun g hg _ => hg.elim) g hx hy) (fun hx => absurd (hR53.lt _ hy) (Nat.not_lt.2 hx))
    have hs71 : ∀ g, u58_0 g → ¬ (NX g) := fun g hg hy => (hxu58_0 g hg).elim (fun hx => (fun g hg _ => hg.elim) g hx hy) (fun hx => absurd (hR54.lt _ hy) (Nat.not_lt.2 hx))
    have hs72 : ∀ g, u58_0 g → ¬ (ob v26_0 = some g) := fun g hg hy => (hxu58_0 g hg).elim (fun hx => (fun g hg _ => hg.elim) g hx hy) (fun hx => absurd (hR55.lt _ hy) (Nat.not_lt.2 hx))
    have hs73 : ∀ g, u58_0 g → ¬ (ob v30 = some g) := fun g hg hy => (hxu58_0 g hg).elim (fun hx => (fun g hg _ => hg.elim) g hx hy) (fun hx => absurd (hR56.lt _ hy) (Nat.not_lt.2 hx))
    have hs74 : ∀ g, u58_0 g → ¬ (ob (.slice none 0 0) = some g) := fun g hg hy => (hxu58_0 g hg).elim (fun hx => (fun g hg _ => hg.elim) g hx hy) (fun hx => absurd (hR57.lt _ hy) (Nat.not_lt.2 hx))
    have h := h hV58_0.wf
    obtain ⟨hp77, h⟩ := h
    refine WO_eff rfl (gN rfl) rfl (St_call (R_call Try.call22 rfl) ((ROf_c hM58 (int_V (hV49).wf) (hV50.mono hS58.le) hp77).mono ?_))
    rintro _ w76 ⟨K76, v76_0, rfl, hS76, hM76, hV76_0⟩
    refine ⟨v76_0, rfl, ?_⟩
    refine ⟨K76, hS76.ofN, hM76, ?_⟩
    have hE76 := hE58.andN hS76
    have h := h hV76_0.wf
    refine WO_pure (.bool (decide ((sealOf a0_x.2.1 a0_x.2.2.1) = (sealOf a0_x.2.1 a0_x.2.2.1)))) rfl l3 hM76 (fun _ => R_aeql rfl rfl (hV58_0.mono hS76.le) hV76_0 Try.underlying23 Try.underlying5 ty5b (by kernel_rfl)) rfl (gN rfl) rfl ?_
    refine WO_pure (.bool (decide ((sealOf a0_x.2.1 a0_x.2.2.1) = (sealOf a0_x.2.1 a0_x.2.2.1)))) rfl l3 hM76 (fun _ => R_mv rfl) rfl (gN rfl) rfl ?_
    refine WO_meet (al := false) (l1 := [.o 13 3, .o 14 1, .o 15 3, .o 16 3]) [54, 55, 56, 57] (fun c => w39.heap.size ≤ c) (fun l w K => l = [(57, (.bool (decide (((sealOf a0_x.2.1 a0_x.2.2.1) = (sealOf a0_x.2.1 a0_x.2.2.1)) ∧ ((bookCalls (none : BookA)) = 0)))))] ∧ Ext NX w76 K76 w K ∧ Models w K) ?_ ?_
    · rcases Classical.em ((sealOf a0_x.2.1 a0_x.2.2.1) = (sealOf a0_x.2.1 a0_x.2.2.1)) with hp79 | hp79
      · skip
        refine WO_pure (.pointer none) rfl l3 hM76 (fun _ => R_mv rfl) rfl (gY rfl rfl rfl (decide_eq_true hp79)) rfl ?_
        have hR80 := (hR61.extN hS76)
        have hR81 := (hR62.extN hS76)
        have hR82 := (hR63.extN hS76)
        have hR83 := (hR64.extN hS76)
        have hR84 := (hR65.extN hS76)
        have hR85 := (hR66.extN hS76)
        have hR86 := (hR67.extN hS76)
        have hR87 := (hu58_0.extN hS76)
        have hR89 : BookR w76 K76 (.pointer none) NX (none : BookA) := BookE.nil
        refine WO_eff rfl (gY rfl rfl rfl (decide_eq_true hp79)) rfl (St_call (R_call Try.call23 rfl) ((CallsO_c hM76 hR89).mono ?_))
        rintro _ w88 ⟨K88, v88_0, rfl, hS88, hM88, hV88_0⟩
        refine ⟨v88_0, rfl, ?_⟩
        refine ⟨K88, hS88.ofN, hM88, ?_⟩
        have hE88 := hE76.andN hS88
        obtain rfl := int_form hV88_0
        refine WO_pure (.bool (decide ((bookCalls (none : BookA)) = 0))) rfl l3 hM88 (fun _ => R_eql rfl rfl) rfl (gY rfl rfl rfl (decide_eq_true hp79)) rfl ?_
        refine WO_pure (.bool (decide (((sealOf a0_x.2.1 a0_x.2.2.1) = (sealOf a0_x.2.1 a0_x.2.2.1)) ∧ ((bookCalls (none : BookA)) = 0)))) rfl l3 hM88 (fun _ => R_pick1 rfl (decide_eq_true hp79) rfl (and_T hp79)) rfl (gN rfl) rfl ?_
        exact WO_end [(57, (.bool (decide (((sealOf a0_x.2.1 a0_x.2.2.1) = (sealOf a0_x.2.1 a0_x.2.2.1)) ∧ ((bookCalls (none : BookA)) = 0)))))] K88 rfl ⟨rfl, ((Ext.refl _ _ _).andN hS88), hM88⟩ (by repeat (first | exact Off.refl _ _ | refine Off.updO ?_ rfl _ | refine Off.updN ?_ _ | refine Off.lay ?_ rfl)) ⟨rfl, trivial⟩
      · skip
        refine WO_skip _ hM76 l3 rfl (gF rfl rfl rfl (decide_eq_false hp79)) rfl ?_
        refine WO_skip _ hM76 l1 rfl (gF rfl rfl rfl (decide_eq_false hp79)) rfl ?_
        refine WO_skip _ hM76 l3 rfl (gF rfl rfl rfl (decide_eq_false hp79)) rfl ?_
        refine WO_pure (.bool (decide (((sealOf a0_x.2.1 a0_x.2.2.1) = (sealOf a0_x.2.1 a0_x.2.2.1)) ∧ ((bookCalls (none : BookA)) = 0)))) rfl l3 hM76 (fun _ => R_pick2 rfl (decide_eq_false hp79) rfl (and_F hp79)) rfl (gN rfl) rfl ?_
        exact WO_end [(57, (.bool (decide (((sealOf a0_x.2.1 a0_x.2.2.1) = (sealOf a0_x.2.1 a0_x.2.2.1)) ∧ ((bookCalls (none : BookA)) = 0)))))] K76 rfl ⟨rfl, (Ext.refl _ _ _), hM76⟩ (by repeat (first | exact Off.refl _ _ | refine Off.updO ?_ rfl _ | refine Off.updN ?_ _ | refine Off.lay ?_ rfl)) ⟨rfl, trivial⟩
    rintro l σ90 w90 K90 ⟨rfl, hS90, hM90⟩
    have hE90 := hE76.andN hS90
    refine WO_pure (.bool (decide (((sealOf a0_x.2.1 a0_x.2.2.1) = (sealOf a0_x.2.1 a0_x.2.2.1)) ∧ ((bookCalls (none : BookA)) = 0)))) rfl l3 hM90 (fun _ => R_mv rfl) rfl (gN rfl) rfl ?_
    obtain ⟨hq91, h⟩ := h
    refine WO_meet (al := false) (l1 := [.o 18 3, .o 19 1, .o 20 3, .o 21 3, .o 22 3]) [59, 60, 61, 62, 63] (fun c => w39.heap.size ≤ c) (fun l w K => l = [(63, (.bool (decide ((((sealOf a0_x.2.1 a0_x.2.2.1) = (sealOf a0_x.2.1 a0_x.2.2.1)) ∧ ((bookCalls (none : BookA)) = 0)) ∧ (((bookAll (none : BookA)).length : Int) = 0)))))] ∧ Ext NX w90 K90 w K ∧ Models w K) ?_ ?_
    · rcases Classical.em (((sealOf a0_x.2.1 a0_x.2.2.1) = (sealOf a0_x.2.1 a0_x.2.2.1)) ∧ ((bookCalls (none : BookA)) = 0)) with hp91 | hp91
      · skip
        have h := hq91 hp91
        refine WO_pure (.pointer none) rfl l3 hM90 (fun _ => R_mv rfl) rfl (gY rfl rfl rfl (decide_eq_true hp91)) rfl ?_
        have hR92 := ((hR61.extN hS76).extN hS90)
        have hR93 := ((hR62.extN hS76).extN hS90)
        have hR94 := ((hR63.extN hS76).extN hS90)
        have hR95 := ((hR64.extN hS76).extN hS90)
        have hR96 := ((hR65.extN hS76).extN hS90)
        have hR97 := ((hR66.extN hS76).extN hS90)
        have hR98 := ((hR67.extN hS76).extN hS90)
        have hR99 := ((hu58_0.extN hS76).extN hS90)
        have hR101 : BookR w90 K90 (.pointer none) NX (none : BookA) := BookE.nil
        obtain ⟨hp102, h⟩ := h
        refine WO_eff rfl (gY rfl rfl rfl (decide_eq_true hp91)) rfl (St_call (R_call Try.call24 rfl) ((AllO_c hM90 hR101 hp102).mono ?_))
        rintro _ w100 ⟨K100, v100_0, rfl, hS100, hM100, hO100_0, hg100_0⟩
        refine ⟨v100_0, rfl, ?_⟩
        refine ⟨K100, hS100.ofN, hM100, ?_⟩
        have hE100 := hE90.andN hS100
        have h := h hO100_0.wf
        refine WO_pure (.int .i64 ((bookAll (none : BookA)).length : Int)) rfl l3 hM100 (fun _ => R_len rfl hO100_0.V Try.underlying38) rfl (gY rfl rfl rfl (decide_eq_true hp91)) rfl ?_
        refine WO_pure (.bool (decide (((bookAll (none : BookA)).length : Int) = 0))) rfl l3 hM100 (fun _ => R_eql rfl rfl) rfl (gY rfl rfl rfl (decide_eq_true hp91)) rfl ?_
        refine WO_pure (.bool (decide ((((sealOf a0_x.2.1 a0_x.2.2.1) = (sealOf a0_x.2.1 a0_x.2.2.1)) ∧ ((bookCalls (none : BookA)) = 0)) ∧ (((bookAll (none : BookA)).length : Int) = 0)))) rfl l3 hM100 (fun _ => R_pick1 rfl (decide_eq_true hp91) rfl (and_T hp91)) rfl (gN rfl) rfl ?_
        exact WO_end [(63, (.bool (decide ((((sealOf a0_x.2.1 a0_x.2.2.1) = (sealOf a0_x.2.1 a0_x.2.2.1)) ∧ ((bookCalls (none : BookA)) = 0)) ∧ (((bookAll (none : BookA)).length : Int) = 0)))))] K100 rfl ⟨rfl, ((Ext.refl _ _ _).andN hS100), hM100⟩ (by repeat (first | exact Off.refl _ _ | refine Off.updO ?_ rfl _ | refine Off.updN ?_ _ | refine Off.lay ?_ rfl)) ⟨rfl, trivial⟩
      · skip
        refine WO_skip _ hM90 l3 rfl (gF rfl rfl rfl (decide_eq_false hp91)) rfl ?_
        refine WO_skip _ hM90 l1 rfl (gF rfl rfl rfl (decide_eq_false hp91)) rfl ?_
        refine WO_skip _ hM90 l3 rfl (gF rfl rfl rfl (decide_eq_false hp91)) rfl ?_
        refine WO_skip _ hM90 l3 rfl (gF rfl rfl rfl (decide_eq_false hp91)) rfl ?_
        refine WO_pure (.bool (decide ((((sealOf a0_x.2.1 a0_x.2.2.1) = (sealOf a0_x.2.1 a0_x.2.2.1)) ∧ ((bookCalls (none : BookA)) = 0)) ∧ (((bookAll (none : BookA)).length : Int) = 0)))) rfl l3 hM90 (fun _ => R_pick2 rfl (decide_eq_false hp91) rfl (and_F hp91)) rfl (gN rfl) rfl ?_
        exact WO_end [(63, (.bool (decide ((((sealOf a0_x.2.1 a0_x.2.2.1) = (sealOf a0_x.2.1 a0_x.2.2.1)) ∧ ((bookCalls (none : BookA)) = 0)) ∧ (((bookAll (none : BookA)).length : Int) = 0)))))] K90 rfl ⟨rfl, (Ext.refl _ _ _), hM90⟩ (by repeat (first | exact Off.refl _ _ | refine Off.updO ?_ rfl _ | refine Off.updN ?_ _ | refine Off.lay ?_ rfl)) ⟨rfl, trivial⟩
    rintro l σ104 w104 K104 ⟨rfl, hS104, hM104⟩
    have hE104 := hE90.andN hS104
    refine WO_pure (.bool (decide ((((sealOf a0_x.2.1 a0_x.2.2.1) = (sealOf a0_x.2.1 a0_x.2.2.1)) ∧ ((bookCalls (none : BookA)) = 0)) ∧ (((bookAll (none : BookA)).length : Int) = 0)))) rfl l3 hM104 (fun _ => R_mv rfl) rfl (gN rfl) rfl ?_
    refine WO_meet (al := false) (l1 := [.o 24 3, .o 25 3, .o 26 3, .o 27 3]) [65, 66, 67, 68] (fun c => w39.heap.size ≤ c) (fun l w K => l = [(68, (.bool (decide (((((sealOf a0_x.2.1 a0_x.2.2.1) = (sealOf a0_x.2.1 a0_x.2.2.1)) ∧ ((bookCalls (none : BookA)) = 0)) ∧ (((bookAll (none : BookA)).length : Int) = 0)) ∧ (((bookFind (none : BookA) a0_x.2.2.2.1).length : Int) = 0)))))] ∧ Ext NX w104 K104 w K ∧ Models w K) ?_ ?_
    · rcases Classical.em ((((sealOf a0_x.2.1 a0_x.2.2.1) = (sealOf a0_x.2.1 a0_x.2.2.1)) ∧ ((bookCalls (none : BookA)) = 0)) ∧ (((bookAll (none : BookA)).length : Int) = 0)) with hp105 | hp105
      · skip
        refine WO_pure v26_0 rfl l3 hM104 (fun _ => R_mv rfl) rfl (gY rfl rfl rfl (decide_eq_true hp105)) rfl ?_
        refine WO_pure (.int .i64 ((bookFind (none : BookA) a0_x.2.2.2.1).length : Int)) rfl l3 hM104 (fun _ => R_len rfl (hR65.V.mono (hS76.le.trans (hS90.le.trans hS104.le))) Try.underlying39) rfl (gY rfl rfl rfl (decide_eq_true hp105)) rfl ?_
        refine WO_pure (.bool (decide (((bookFind (none : BookA) a0_x.2.2.2.1).length : Int) = 0))) rfl l3 hM104 (fun _ => R_eql rfl rfl) rfl (gY rfl rfl rfl (decide_eq_true hp105)) rfl ?_
        refine WO_pure (.bool (decide (((((sealOf a0_x.2.1 a0_x.2.2.1) = (sealOf a0_x.2.1 a0_x.2.2.1)) ∧ ((bookCalls (none : BookA)) = 0)) ∧ (((bookAll (none : BookA)).length : Int) = 0)) ∧ (((bookFind (none : BookA) a0_x.2.2.2.1).length : Int) = 0)))) rfl l3 hM104 (fun _ => R_pick1 rfl (decide_eq_true hp105) rfl (and_T hp105)) rfl (gN rfl) rfl ?_
        exact WO_end [(68, (.bool (decide (((((sealOf a0_x.2.1 a0_x.2.2.1) = (sealOf a0_x.2.1 a0_x.2.2.1)) ∧ ((bookCalls (none : BookA)) = 0)) ∧ (((bookAll (none : BookA)).length : Int) = 0)) ∧ (((bookFind (none : BookA) a0_x.2.2.2.1).length : Int) = 0)))))] K104 rfl ⟨rfl, (Ext.refl _ _ _), hM104⟩ (by repeat (first | exact Off.refl _ _ | refine Off.updO ?_ rfl _ | refine Off.updN ?_ _ | refine Off.lay ?_ rfl)) ⟨rfl, trivial⟩
      · skip
        refine WO_skip _ hM104 l3 rfl (gF rfl rfl rfl (decide_eq_false hp105)) rfl ?_
        refine WO_skip _ hM104 l3 rfl (gF rfl rfl rfl (decide_eq_false hp105)) rfl ?_
        refine WO_skip _ hM104 l3 rfl (gF rfl rfl rfl (decide_eq_false hp105)) rfl ?_
        refine WO_pure (.bool (decide (((((sealOf a0_x.2.1 a0_x.2.2.1) = (sealOf a0_x.2.1 a0_x.2.2.1)) ∧ ((bookCalls (none : BookA)) = 0)) ∧ (((bookAll (none : BookA)).length : Int) = 0)) ∧ (((bookFind (none : BookA) a0_x.2.2.2.1).length : Int) = 0)))) rfl l3 hM104 (fun _ => R_pick2 rfl (decide_eq_false hp105) rfl (and_F hp105)) rfl (gN rfl) rfl ?_
        exact WO_end [(68, (.bool (decide (((((sealOf a0_x.2.1 a0_x.2.2.1) = (sealOf a0_x.2.1 a0_x.2.2.1)) ∧ ((bookCalls (none : BookA)) = 0)) ∧ (((bookAll (none : BookA)).length : Int) = 0)) ∧ (((bookFind (none : BookA) a0_x.2.2.2.1).length : Int) = 0)))))] K104 rfl ⟨rfl, (Ext.refl _ _ _), hM104⟩ (by repeat (first | exact Off.refl _ _ | refine Off.updO ?_ rfl _ | refine Off.updN ?_ _ | refine Off.lay ?_ rfl)) ⟨rfl, trivial⟩
    rintro l σ106 w106 K106 ⟨rfl, hS106, hM106⟩
    have hE106 := hE104.andN hS106
    refine WO_pure (.bool (decide (((((sealOf a0_x.2.1 a0_x.2.2.1) = (sealOf a0_x.2.1 a0_x.2.2.1)) ∧ ((bookCalls (none : BookA)) = 0)) ∧ (((bookAll (none : BookA)).length : Int) = 0)) ∧ (((bookFind (none : BookA) a0_x.2.2.2.1).length : Int) = 0)))) rfl l3 hM106 (fun _ => R_mv rfl) rfl (gN rfl) rfl ?_
    refine WO_meet (al := false) (l1 := [.o 29 3, .o 30 3, .o 31 3]) [70, 71, 72] (fun c => w39.heap.size ≤ c) (fun l w K => l = [(72, (.bool (decide ((((((sealOf a0_x.2.1 a0_x.2.2.1) = (sealOf a0_x.2.1 a0_x.2.2.1)) ∧ ((bookCalls (none : BookA)) = 0)) ∧ (((bookAll (none : BookA)).length : Int) = 0)) ∧ (((bookFind (none : BookA) a0_x.2.2.2.1).length : Int) = 0)) ∧ (¬ ((bookHas (none : BookA) a0_x.2.2.2.1) = true))))))] ∧ Ext NX w106 K106 w K ∧ Models w K) ?_ ?_
    · rcases Classical.em (((((sealOf a0_x.2.1 a0_x.2.2.1) = (sealOf a0_x.2.1 a0_x.2.2.1)) ∧ ((bookCalls (none : BookA)) = 0)) ∧ (((bookAll (none : BookA)).length : Int) = 0)) ∧ (((bookFind (none : BookA) a0_x.2.2.2.1).length : Int) = 0)) with hp107 | hp107
      · skip
        refine WO_pure (.bool (bookHas (none : BookA) a0_x.2.2.2.1)) rfl l3 hM106 (fun _ => R_mv rfl) rfl (gY rfl rfl rfl (decide_eq_true hp107)) rfl ?_
        refine WO_pure (.bool (decide (¬ ((bookHas (none : BookA) a0_x.2.2.2.1) = true)))) rfl l3 hM106 (fun _ => R_notb rfl) rfl (gY rfl rfl rfl (decide_eq_true hp107)) rfl ?_
        refine WO_pure (.bool (decide ((((((sealOf a0_x.2.1 a0_x.2.2.1) = (sealOf a0_x.2.1 a0_x.2.2.1)) ∧ ((bookCalls (none : BookA)) = 0)) ∧ (((bookAll (none : BookA)).length : Int) = 0)) ∧ (((bookFind (none : BookA) a0_x.2.2.2.1).length : Int) = 0)) ∧ (¬ ((bookHas (none : BookA) a0_x.2.2.2.1) = true))))) rfl l3 hM106 (fun _ => R_pick1 rfl (decide_eq_true hp107) rfl (and_T hp107)) rfl (gN rfl) rfl ?_
        exact WO_end [(72, (.bool (decide ((((((sealOf a0_x.2.1 a0_x.2.2.1) = (sealOf a0_x.2.1 a0_x.2.2.1)) ∧ ((bookCalls (none : BookA)) = 0)) ∧ (((bookAll (none : BookA)).length : Int) = 0)) ∧ (((bookFind (none : BookA) a0_x.2.2.2.1).length : Int) = 0)) ∧ (¬ ((bookHas (none : BookA) a0_x.2.2.2.1) = true))))))] K106 rfl ⟨rfl, (Ext.refl _ _ _), hM106⟩ (by repeat (first | exact Off.refl _ _ | refine Off.updO ?_ rfl _ | refine Off.updN ?_ _ | refine Off.lay ?_ rfl)) ⟨rfl, trivial⟩
      · skip
        refine WO_skip _ hM106 l3 rfl (gF rfl rfl rfl (decide_eq_false hp107)) rfl ?_
        refine WO_skip _ hM106 l3 rfl (gF rfl rfl rfl (decide_eq_false hp107)) rfl ?_
        refine WO_pure (.bool (decide ((((((sealOf a0_x.2.1 a0_x.2.2.1) = (sealOf a0_x.2.1 a0_x.2.2.1)) ∧ ((bookCalls (none : BookA)) = 0)) ∧ (((bookAll (none : BookA)).length : Int) = 0)) ∧ (((bookFind (none : BookA) a0_x.2.2.2.1).length : Int) = 0)) ∧ (¬ ((bookHas (none : BookA) a0_x.2.2.2.1) = true))))) rfl l3 hM106 (fun _ => R_pick2 rfl (decide_eq_false hp107) rfl (and_F hp107)) rfl (gN rfl) rfl ?_
        exact WO_end [(72, (.bool (decide ((((((sealOf a0_x.2.1 a0_x.2.2.1) = (sealOf a0_x.2.1 a0_x.2.2.1)) ∧ ((bookCalls (none : BookA)) = 0)) ∧ (((bookAll (none : BookA)).length : Int) = 0)) ∧ (((bookFind (none : BookA) a0_x.2.2.2.1).length : Int) = 0)) ∧ (¬ ((bookHas (none : BookA) a0_x.2.2.2.1) = true))))))] K106 rfl ⟨rfl, (Ext.refl _ _ _), hM106⟩ (by repeat (first | exact Off.refl _ _ | refine Off.updO ?_ rfl _ | refine Off.updN ?_ _ | refine Off.lay ?_ rfl)) ⟨rfl, trivial⟩
    rintro l σ108 w108 K108 ⟨rfl, hS108, hM108⟩
    have hE108 := hE106.andN hS108
    refine WO_pure (.bool (decide ((((((sealOf a0_x.2.1 a0_x.2.2.1) = (sealOf a0_x.2.1 a0_x.2.2.1)) ∧ ((bookCalls (none : BookA)) = 0)) ∧ (((bookAll (none : BookA)).length : Int) = 0)) ∧ (((bookFind (none : BookA) a0_x.2.2.2.1).length : Int) = 0)) ∧ (¬ ((bookHas (none : BookA) a0_x.2.2.2.1) = true))))) rfl l3 hM108 (fun _ => R_mv rfl) rfl (gN rfl) rfl ?_
    refine WO_meet (al := false) (l1 := [.o 33 3, .o 34 3, .o 35 3]) [74, 75, 76] (fun c => w39.heap.size ≤ c) (fun l w K => l = [(76, (.bool (decide (((((((sealOf a0_x.2.1 a0_x.2.2.1) = (sealOf a0_x.2.1 a0_x.2.2.1)) ∧ ((bookCalls (none : BookA)) = 0)) ∧ (((bookAll (none : BookA)).length : Int) = 0)) ∧ (((bookFind (none : BookA) a0_x.2.2.2.1).length : Int) = 0)) ∧ (¬ ((bookHas (none : BookA) a0_x.2.2.2.1) = true))) ∧ (¬ (((clashA [(none : Option (((List ((List UInt8) × (List UInt8))) × Unit) × Int)), (none : Option (((List ((List UInt8) × (List UInt8))) × Unit) × Int))]).2.2) = true))))))] ∧ Ext NX w108 K108 w K ∧ Models w K) ?_ ?_
    · rcases Classical.em ((((((sealOf a0_x.2.1 a0_x.2.2.1) = (sealOf a0_x.2.1 a0_x.2.2.1)) ∧ ((bookCalls (none : BookA)) = 0)) ∧ (((bookAll (none : BookA)).length : Int) = 0)) ∧ (((bookFind (none : BookA) a0_x.2.2.2.1).length : Int) = 0)) ∧ (¬ ((bookHas (none : BookA) a0_x.2.2.2.1) = true))) with hp109 | hp109
      · skip
        refine WO_pure (.bool ((clashA [(none : Option (((List ((List UInt8) × (List UInt8))) × Unit) × Int)), (none : Option (((List ((List UInt8) × (List UInt8))) × Unit) × Int))]).2.2)) rfl l3 hM108 (fun _ => R_mv rfl) rfl (gY rfl rfl rfl (decide_eq_true hp109)) rfl ?_
        refine WO_pure (.bool (decide (¬ (((clashA [(none : Option (((List ((List UInt8) × (List UInt8))) × Unit) × Int)), (none : Option (((List ((List UInt8) × (List UInt8))) × Unit) × Int))]).2.2) = true)))) rfl l3 hM108 (fun _ => R_notb rfl) rfl (gY rfl rfl rfl (decide_eq_true hp109)) rfl ?_
        refine WO_pure (.bool (decide (((((((sealOf a0_x.2.1 a0_x.2.2.1) = (sealOf a0_x.2.1 a0_x.2.2.1)) ∧ ((bookCalls (none : BookA)) = 0)) ∧ (((bookAll (none : BookA)).length : Int) = 0)) ∧ (((bookFind (none : BookA) a0_x.2.2.2.1).length : Int) = 0)) ∧ (¬ ((bookHas (none : BookA) a0_x.2.2.2.1) = true))) ∧ (¬ (((clashA [(none : Option (((List ((List UInt8) × (List UInt8))) × Unit) × Int)), (none : Option (((List ((List UInt8) × (List UInt8))) × Unit) × Int))]).2.2) = true))))) rfl l3 hM108 (fun _ => R_pick1 rfl (decide_eq_true hp109) rfl (and_T hp109)) rfl (gN rfl) rfl ?_
        exact WO_end [(76, (.bool (decide (((((((sealOf a0_x.2.1 a0_x.2.2.1) = (sealOf a0_x.2.1 a0_x.2.2.1)) ∧ ((bookCalls (none : BookA)) = 0)) ∧ (((bookAll (none : BookA)).length : Int) = 0)) ∧ (((bookFind (none : BookA) a0_x.2.2.2.1).length : Int) = 0)) ∧ (¬ ((bookHas (none : BookA) a0_x.2.2.2.1) = true))) ∧ (¬ (((clashA [(none : Option (((List ((List UInt8) × (List UInt8))) × Unit) × Int)), (none : Option (((List ((List UInt8) × (List UInt8))) × Unit) × Int))]).2.2) = true))))))] K108 rfl ⟨rfl, (Ext.refl _ _ _), hM108⟩ (by repeat (first | exact Off.refl _ _ | refine Off.updO ?_ rfl _ | refine Off.updN ?_ _ | refine Off.lay ?_ rfl)) ⟨rfl, trivial⟩
      · skip
        refine WO_skip _ hM108 l3 rfl (gF rfl rfl rfl (decide_eq_false hp109)) rfl ?_
        refine WO_skip _ hM108 l3 rfl (gF rfl rfl rfl (decide_eq_false hp109)) rfl ?_
        refine WO_pure (.bool (decide (((((((sealOf a0_x.2.1 a0_x.2.2.1) = (sealOf a0_x.2.1 a0_x.2.2.1)) ∧ ((bookCalls (none : BookA)) = 0)) ∧ (((bookAll (none : BookA)).length : Int) = 0)) ∧ (((bookFind (none : BookA) a0_x.2.2.2.1).length : Int) = 0)) ∧ (¬ ((bookHas (none : BookA) a0_x.2.2.2.1) = true))) ∧ (¬ (((clashA [(none : Option (((List ((List UInt8) × (List UInt8))) × Unit) × Int)), (none : Option (((List ((List UInt8) × (List UInt8))) × Unit) × Int))]).2.2) = true))))) rfl l3 hM108 (fun _ => R_pick2 rfl (decide_eq_false hp109) rfl (and_F hp109)) rfl (gN rfl) rfl ?_
        exact WO_end [(76, (.bool (decide (((((((sealOf a0_x.2.1 a0_x.2.2.1) = (sealOf a0_x.2.1 a0_x.2.2.1)) ∧ ((bookCalls (none : BookA)) = 0)) ∧ (((bookAll (none : BookA)).length : Int) = 0)) ∧ (((bookFind (none : BookA) a0_x.2.2.2.1).length : Int) = 0)) ∧ (¬ ((bookHas (none : BookA) a0_x.2.2.2.1) = true))) ∧ (¬ (((clashA [(none : Option (((List ((List UInt8) × (List UInt8))) × Unit) × Int)), (none : Option (((List ((List UInt8) × (List UInt8))) × Unit) × Int))]).2.2) = true))))))] K108 rfl ⟨rfl, (Ext.refl _ _ _), hM108⟩ (by repeat (first | exact Off.refl _ _ | refine Off.updO ?_ rfl _ | refine Off.updN ?_ _ | refine Off.lay ?_ rfl)) ⟨rfl, trivial⟩
    rintro l σ110 w110 K110 ⟨rfl, hS110, hM110⟩
    have hE110 := hE108.andN hS110
    refine WO_pure (.bool (decide (((((((sealOf a0_x.2.1 a0_x.2.2.1) = (sealOf a0_x.2.1 a0_x.2.2.1)) ∧ ((bookCalls (none : BookA)) = 0)) ∧ (((bookAll (none : BookA)).length : Int) = 0)) ∧ (((bookFind (none : BookA) a0_x.2.2.2.1).length : Int) = 0)) ∧ (¬ ((bookHas (none : BookA) a0_x.2.2.2.1) = true))) ∧ (¬ (((clashA [(none : Option (((List ((List UInt8) × (List UInt8))) × Unit) × Int)), (none : Option (((List ((List UInt8) × (List UInt8))) × Unit) × Int))]).2.2) = true))))) rfl l3 hM110 (fun _ => R_mv rfl) rfl (gN rfl) rfl ?_
    refine WO_meet (al := false) (l1 := [.o 37 3, .o 38 3, .o 39 3]) [78, 79, 80] (fun c => w39.heap.size ≤ c) (fun l w K => l = [(80, (.bool (decide ((((((((sealOf a0_x.2.1 a0_x.2.2.1) = (sealOf a0_x.2.1 a0_x.2.2.1)) ∧ ((bookCalls (none : BookA)) = 0)) ∧ (((bookAll (none : BookA)).length : Int) = 0)) ∧ (((bookFind (none : BookA) a0_x.2.2.2.1).length : Int) = 0)) ∧ (¬ ((bookHas (none : BookA) a0_x.2.2.2.1) = true))) ∧ (¬ (((clashA [(none : Option (((List ((List UInt8) × (List UInt8))) × Unit) × Int)), (none : Option (((List ((List UInt8) × (List UInt8))) × Unit) × Int))]).2.2) = true))) ∧ (¬ (((clashA ([] : List (Option (((List ((List UInt8) × (List UInt8))) × Unit) × Int)))).2.2) = true))))))] ∧ Ext NX w110 K110 w K ∧ Models w K) ?_ ?_
    · rcases Classical.em (((((((sealOf a0_x.2.1 a0_x.2.2.1) = (sealOf a0_x.2.1 a0_x.2.2.1)) ∧ ((bookCalls (none : BookA)) = 0)) ∧ (((bookAll (none : BookA)).length : Int) = 0)) ∧ (((bookFind (none : BookA) a0_x.2.2.2.1).length : Int) = 0)) ∧ (¬ ((bookHas (none : BookA) a0_x.2.2.2.1) = true))) ∧ (¬ (((clashA [(none : Option (((List ((List UInt8) × (List UInt8))) × Unit) × Int)), (none : Option (((List ((List UInt8) × (List UInt8))) × Unit) × Int))]).2.2) = true))) with hp111 | hp111
      · skip
        refine WO_pure (.bool ((clashA ([] : List (Option (((List ((List UInt8) × (List UInt8))) × Unit) × Int)))).2.2)) rfl l3 hM110 (fun _ => R_mv rfl) rfl (gY rfl rfl rfl (decide_eq_true hp111)) rfl ?_
        refine WO_pure (.bool (decide (¬ (((clashA ([] : List (Option (((List ((List UInt8) × (List UInt8))) × Unit) × Int)))).2.2) = true)))) rfl l3 hM110 (fun _ => R_notb rfl) rfl (gY rfl rfl rfl (decide_eq_true hp111)) rfl ?_
        refine WO_pure (.bool (decide ((((((((sealOf a0_x.2.1 a0_x.2.2.1) = (sealOf a0_x.2.1 a0_x.2.2.1)) ∧ ((bookCalls (none : BookA)) = 0)) ∧ (((bookAll (none : BookA)).length : Int) = 0)) ∧ (((bookFind (none : BookA) a0_x.2.2.2.1).length : Int) = 0)) ∧ (¬ ((bookHas (none : BookA) a0_x.2.2.2.1) = true))) ∧ (¬ (((clashA [(none : Option (((List ((List UInt8) × (List UInt8))) × Unit) × Int)), (none : Option (((List ((List UInt8) × (List UInt8))) × Unit) × Int))]).2.2) = true))) ∧ (¬ (((clashA ([] : List (Option (((List ((List UInt8) × (List UInt8))) × Unit) × Int)))).2.2) = true))))) rfl l3 hM110 (fun _ => R_pick1 rfl (decide_eq_true hp111) rfl (and_T hp111)) rfl (gN rfl) rfl ?_
        exact WO_end [(80, (.bool (decide ((((((((sealOf a0_x.2.1 a0_x.2.2.1) = (sealOf a0_x.2.1 a0_x.2.2.1)) ∧ ((bookCalls (none : BookA)) = 0)) ∧ (((bookAll (none : BookA)).length : Int) = 0)) ∧ (((bookFind (none : BookA) a0_x.2.2.2.1).length : Int) = 0)) ∧ (¬ ((bookHas (none : BookA) a0_x.2.2.2.1) = true))) ∧ (¬ (((clashA [(none : Option (((List ((List UInt8) × (List UInt8))) × Unit) × Int)), (none : Option (((List ((List UInt8) × (List UInt8))) × Unit) × Int))]).2.2) = true))) ∧ (¬ (((clashA ([] : List (Option (((List ((List UInt8) × (List UInt8))) × Unit) × Int)))).2.2) = true))))))] K110 rfl ⟨rfl, (Ext.refl _ _ _), hM110⟩ (by repeat (first | exact Off.refl _ _ | refine Off.updO ?_ rfl _ | refine Off.updN ?_ _ | refine Off.lay ?_ rfl)) ⟨rfl, trivial⟩
      · skip
        refine WO_skip _ hM110 l3 rfl (gF rfl rfl rfl (decide_eq_false hp111)) rfl ?_
        refine WO_skip _ hM110 l3 rfl (gF rfl rfl rfl (decide_eq_false hp111)) rfl ?_
        refine WO_pure (.bool (decide ((((((((sealOf a0_x.2.1 a0_x.2.2.1) = (sealOf a0_x.2.1 a0_x.2.2.1)) ∧ ((bookCalls (none : BookA)) = 0)) ∧ (((bookAll (none : BookA)).length : Int) = 0)) ∧ (((bookFind (none : BookA) a0_x.2.2.2.1).length : Int) = 0)) ∧ (¬ ((bookHas (none : BookA) a0_x.2.2.2.1) = true))) ∧ (¬ (((clashA [(none : Option (((List ((List UInt8) × (List UInt8))) × Unit) × Int)), (none : Option (((List ((List UInt8) × (List UInt8))) × Unit) × Int))]).2.2) = true))) ∧ (¬ (((clashA ([] : List (Option (((List ((List UInt8) × (List UInt8))) × Unit) × Int)))).2.2) = true))))) rfl l3 hM110 (fun _ => R_pick2 rfl (decide_eq_false hp111) rfl (and_F hp111)) rfl (gN rfl) rfl ?_
        exact WO_end [(80, (.bool (decide ((((((((sealOf a0_x.2.1 a0_x.2.2.1) = (sealOf a0_x.2.1 a0_x.2.2.1)) ∧ ((bookCalls (none : BookA)) = 0)) ∧ (((bookAll (none : BookA)).length : Int) = 0)) ∧ (((bookFind (none : BookA) a0_x.2.2.2.1).length : Int) = 0)) ∧ (¬ ((bookHas (none : BookA) a0_x.2.2.2.1) = true))) ∧ (¬ (((clashA [(none : Option (((List ((List UInt8) × (List UInt8))) × Unit) × Int)), (none : Option (((List ((List UInt8) × (List UInt8))) × Unit) × Int))]).2.2) = true))) ∧ (¬ (((clashA ([] : List (Option (((List ((List UInt8) × (List UInt8))) × Unit) × Int)))).2.2) = true))))))] K110 rfl ⟨rfl, (Ext.refl _ _ _), hM110⟩ (by repeat (first | exact Off.refl _ _ | refine Off.updO ?_ rfl _ | refine Off.updN ?_ _ | refine Off.lay ?_ rfl)) ⟨rfl, trivial⟩
    rintro l σ112 w112 K112 ⟨rfl, hS112, hM112⟩
    have hE112 := hE110.andN hS112
    refine WO_pure (.bool (decide ((((((((sealOf a0_x.2.1 a0_x.2.2.1) = (sealOf a0_x.2.1 a0_x.2.2.1)) ∧ ((bookCalls (none : BookA)) = 0)) ∧ (((bookAll (none : BookA)).length : Int) = 0)) ∧ (((bookFind (none : BookA) a0_x.2.2.2.1).length : Int) = 0)) ∧ (¬ ((bookHas (none : BookA) a0_x.2.2.2.1) = true))) ∧ (¬ (((clashA [(none : Option (((List ((List UInt8) × (List UInt8))) × Unit) × Int)), (none : Option (((List ((List UInt8) × (List UInt8))) × Unit) × Int))]).2.2) = true))) ∧ (¬ (((clashA ([] : List (Option (((List ((List UInt8) × (List UInt8))) × Unit) × Int)))).2.2) = true))))) rfl l3 hM112 (fun _ => R_mv rfl) rfl (gN rfl) rfl ?_
    refine WO_meet (al := false) (l1 := [.o 41 1, .o 42 3]) [82, 83] (fun c => w39.heap.size ≤ c) (fun l w K => l = [(83, (.bool (decide (((((((((sealOf a0_x.2.1 a0_x.2.2.1) = (sealOf a0_x.2.1 a0_x.2.2.1)) ∧ ((bookCalls (none : BookA)) = 0)) ∧ (((bookAll (none : BookA)).length : Int) = 0)) ∧ (((bookFind (none : BookA) a0_x.2.2.2.1).length : Int) = 0)) ∧ (¬ ((bookHas (none : BookA) a0_x.2.2.2.1) = true))) ∧ (¬ (((clashA [(none : Option (((List ((List UInt8) × (List UInt8))) × Unit) × Int)), (none : Option (((List ((List UInt8) × (List UInt8))) × Unit) × Int))]).2.2) = true))) ∧ (¬ (((clashA ([] : List (Option (((List ((List UInt8) × (List UInt8))) × Unit) × Int)))).2.2) = true))) ∧ (true = true)))))] ∧ Ext NX w112 K112 w K ∧ Models w K) ?_ ?_
    · rcases Classical.em ((((((((sealOf a0_x.2.1 a0_x.2.2.1) = (sealOf a0_x.2.1 a0_x.2.2.1)) ∧ ((bookCalls (none : BookA)) = 0)) ∧ (((bookAll (none : BookA)).length : Int) = 0)) ∧ (((bookFind (none : BookA) a0_x.2.2.2.1).length : Int) = 0)) ∧ (¬ ((bookHas (none : BookA) a0_x.2.2.2.1) = true))) ∧ (¬ (((clashA [(none : Option (((List ((List UInt8) × (List UInt8))) × Unit) × Int)), (none : Option (((List ((List UInt8) × (List UInt8))) × Unit) × Int))]).2.2) = true))) ∧ (¬ (((clashA ([] : List (Option (((List ((List UInt8) × (List UInt8))) × Unit) × Int)))).2.2) = true))) with hp113 | hp113
      · skip
        refine WO_eff rfl (gY rfl rfl rfl (decide_eq_true hp113)) rfl (St_call (R_call Try.call14 rfl) ((awake3_c hM112 ).mono ?_))
        rintro _ w114 ⟨K114, v114_0, rfl, hS114, hM114, hV114_0⟩
        refine ⟨v114_0, rfl, ?_⟩
        refine ⟨K114, hS114.ofN, hM114, ?_⟩
        have hE114 := hE112.andN hS114
        obtain rfl := bool_form hV114_0
        refine WO_pure (.bool (decide (((((((((sealOf a0_x.2.1 a0_x.2.2.1) = (sealOf a0_x.2.1 a0_x.2.2.1)) ∧ ((bookCalls (none : BookA)) = 0)) ∧ (((bookAll (none : BookA)).length : Int) = 0)) ∧ (((bookFind (none : BookA) a0_x.2.2.2.1).length : Int) = 0)) ∧ (¬ ((bookHas (none : BookA) a0_x.2.2.2.1) = true))) ∧ (¬ (((clashA [(none : Option (((List ((List UInt8) × (List UInt8))) × Unit) × Int)), (none : Option (((List ((List UInt8) × (List UInt8))) × Unit) × Int))]).2.2) = true))) ∧ (¬ (((clashA ([] : List (Option (((List ((List UInt8) × (List UInt8))) × Unit) × Int)))).2.2) = true))) ∧ (true = true)))) rfl l3 hM114 (fun _ => R_pick1 rfl (decide_eq_true hp113) rfl (and_T' hp113)) rfl (gN rfl) rfl ?_
        exact WO_end [(83, (.bool (decide (((((((((sealOf a0_x.2.1 a0_x.2.2.1) = (sealOf a0_x.2.1 a0_x.2.2.1)) ∧ ((bookCalls (none : BookA)) = 0)) ∧ (((bookAll (none : BookA)).length : Int) = 0)) ∧ (((bookFind (none : BookA) a0_x.2.2.2.1).length : Int) = 0)) ∧ (¬ ((bookHas (none : BookA) a0_x.2.2.2.1) = true))) ∧ (¬ (((clashA [(none : Option (((List ((List UInt8) × (List UInt8))) × Unit) × Int)), (none : Option (((List ((List UInt8) × (List UInt8))) × Unit) × Int))]).2.2) = true))) ∧ (¬ (((clashA ([] : List (Option (((List ((List UInt8) × (List UInt8))) × Unit) × Int)))).2.2) = true))) ∧ (true = true)))))] K114 rfl ⟨rfl, ((Ext.refl _ _ _).andN hS114), hM114⟩ (by repeat (first | exact Off.refl _ _ | refine Off.updO ?_ rfl _ | refine Off.updN ?_ _ | refine Off.lay ?_ rfl)) ⟨rfl, trivial⟩
      · skip
        refine WO_skip _ hM112 l1 rfl (gF rfl rfl rfl (decide_eq_false hp113)) rfl ?_
        refine WO_pure (.bool (decide (((((((((sealOf a0_x.2.1 a0_x.2.2.1) = (sealOf a0_x.2.1 a0_x.2.2.1)) ∧ ((bookCalls (none : BookA)) = 0)) ∧ (((bookAll (none : BookA)).length : Int) = 0)) ∧ (((bookFind (none : BookA) a0_x.2.2.2.1).length : Int) = 0)) ∧ (¬ ((bookHas (none : BookA) a0_x.2.2.2.1) = true))) ∧ (¬ (((clashA [(none : Option (((List ((List UInt8) × (List UInt8))) × Unit) × Int)), (none : Option (((List ((List UInt8) × (List UInt8))) × Unit) × Int))]).2.2) = true))) ∧ (¬ (((clashA ([] : List (Option (((List ((List UInt8) × (List UInt8))) × Unit) × Int)))).2.2) = true))) ∧ (true = true)))) rfl l3 hM112 (fun _ => R_pick2 rfl (decide_eq_false hp113) rfl (and_F hp113)) rfl (gN rfl) rfl ?_
        exact WO_end [(83, (.bool (decide (((((((((sealOf a0_x.2.1 a0_x.2.2.1) = (sealOf a0_x.2.1 a0_x.2.2.1)) ∧ ((bookCalls (none : BookA)) = 0)) ∧ (((bookAll (none : BookA)).length : Int) = 0)) ∧ (((bookFind (none : BookA) a0_x.2.2.2.1).length : Int) = 0)) ∧ (¬ ((bookHas (none : BookA) a0_x.2.2.2.1) = true))) ∧ (¬ (((clashA [(none : Option (((List ((List UInt8) × (List UInt8))) × Unit) × Int)), (none : Option (((List ((List UInt8) × (List UInt8))) × Unit) × Int))]).2.2) = true))) ∧ (¬ (((clashA ([] : List (Option (((List ((List UInt8) × (List UInt8))) × Unit) × Int)))).2.2) = true))) ∧ (true = true)))))] K112 rfl ⟨rfl, (Ext.refl _ _ _), hM112⟩ (by repeat (first | exact Off.refl _ _ | refine Off.updO ?_ rfl _ | refine Off.updN ?_ _ | refine Off.lay ?_ rfl)) ⟨rfl, trivial⟩
    rintro l σ115 w115 K115 ⟨rfl, hS115, hM115⟩
    have hE115 := hE112.andN hS115
    refine WO_pure (.bool (decide (((((((((sealOf a0_x.2.1 a0_x.2.2.1) = (sealOf a0_x.2.1 a0_x.2.2.1)) ∧ ((bookCalls (none : BookA)) = 0)) ∧ (((bookAll (none : BookA)).length : Int) = 0)) ∧ (((bookFind (none : BookA) a0_x.2.2.2.1).length : Int) = 0)) ∧ (¬ ((bookHas (none : BookA) a0_x.2.2.2.1) = true))) ∧ (¬ (((clashA [(none : Option (((List ((List UInt8) × (List UInt8))) × Unit) × Int)), (none : Option (((List ((List UInt8) × (List UInt8))) × Unit) × Int))]).2.2) = true))) ∧ (¬ (((clashA ([] : List (Option (((List ((List UInt8) × (List UInt8))) × Unit) × Int)))).2.2) = true))) ∧ (true = true)))) rfl l3 hM115 (fun _ => R_as rfl) rfl (gN rfl) rfl ?_
    refine WO_nil ?_
    refine WP_ret ?_
    exact endR_ret hR (v := (.bool (decide (((((((((sealOf a0_x.2.1 a0_x.2.2.1) = (sealOf a0_x.2.1 a0_x.2.2.1)) ∧ ((bookCalls (none : BookA)) = 0)) ∧ (((bookAll (none : BookA)).length : Int) = 0)) ∧ (((bookFind (none : BookA) a0_x.2.2.2.1).length : Int) = 0)) ∧ (¬ ((bookHas (none : BookA) a0_x.2.2.2.1) = true))) ∧ (¬ (((clashA [(none : Option (((List ((List UInt8) × (List UInt8))) × Unit) × Int)), (none : Option (((List ((List UInt8) × (List UInt8))) × Unit) × Int))]).2.2) = true))) ∧ (¬ (((clashA ([] : List (Option (((List ((List UInt8) × (List UInt8))) × Unit) × Int)))).2.2) = true))) ∧ (true = true))))) (resE_1 rfl rfl) ⟨K115, (.bool (decide (((((((((sealOf a0_x.2.1 a0_x.2.2.1) = (sealOf a0_x.2.1 a0_x.2.2.1)) ∧ ((bookCalls (none : BookA)) = 0)) ∧ (((bookAll (none : BookA)).length : Int) = 0)) ∧ (((bookFind (none : BookA) a0_x.2.2.2.1).length : Int) = 0)) ∧ (¬ ((bookHas (none : BookA) a0_x.2.2.2.1) = true))) ∧ (¬ (((clashA [(none : Option (((List ((List UInt8) × (List UInt8))) × Unit) × Int)), (none : Option (((List ((List UInt8) × (List UInt8))) × Unit) × Int))]).2.2) = true))) ∧ (¬ (((clashA ([] : List (Option (((List ((List UInt8) × (List UInt8))) × Unit) × Int)))).2.2) = true))) ∧ (true = true)))), (decide (((((((((sealOf a0_x.2.1 a0_x.2.2.1) = (sealOf a0_x.2.1 a0_x.2.2.1)) ∧ ((bookCalls (none : BookA)) = 0)) ∧ (((bookAll (none : BookA)).length : Int) = 0)) ∧ (((bookFind (none : BookA) a0_x.2.2.2.1).length : Int) = 0)) ∧ (¬ ((bookHas (none : BookA) a0_x.2.2.2.1) = true))) ∧ (¬ (((clashA [(none : Option (((List ((List UInt8) × (List UInt8))) × Unit) × Int)), (none : Option (((List ((List UInt8) × (List UInt8))) × Unit) × Int))]).2.2) = true))) ∧ (¬ (((clashA ([] : List (Option (((List ((List UInt8) × (List UInt8))) × Unit) × Int)))).2.2) = true))) ∧ (true = true))), rfl, h, hE115, hM115, bool_V⟩
theorem SealNobody_c {w0 : World} {K0 : Ghost} {a0_x_v : Value} {a0_x : (Int × (Int × ((List (List UInt8)) × ((List UInt8) × (List UInt8)))))} (hM0 : Models w0 K0) (h_a0_x : kd_Sincipitlaw03_Act.V K0 a0_x a0_x_v) : Calls Try.prog 4 #[a0_x_v] w0 (fun e w' => ∃ (K' : Ghost) (r0 : Value), e = .returned r0 ∧ Ext NX w0 K0 w' K' ∧ Models w' K' ∧ Kd.bool.V K' true r0) := by
  refine (SealNobody_walk hM0 h_a0_x (SealNobody_ok h_a0_x.wf)).mono ?_
  rintro _ w' ⟨K', r0, o0, rfl, rfl, hF⟩
  exact ⟨K', r0, rfl, hF⟩
end Go.Proofs.Ytfbhiilolpamaaa
