/- Each function that stands here: what its call must answer for (_VC), that it does (_ok), the walk through its code (_walk), its contract (_c). -/
import Derived.Test.YtfbhiilolpamaaaS7
import Derived.Test.YtfbhiilolpamaaaChecked
set_option linter.unusedVariables false
set_option maxRecDepth 100000
set_option maxHeartbeats 2000000
namespace Go.Proofs.Ytfbhiilolpamaaa
open Go Go.RowKit Go.Inc
def OfB_VC (a0_k_0_0 : (List ((List UInt8) × (List UInt8)))) (a0_k_0_1 : (List ((List UInt8) × Int))) (a0_k_1 : Int) (a1_kind : Int) (a2_parts : (List (List UInt8))) (Q : (List UInt8) → (List ((List UInt8) × (List UInt8))) → (List ((List UInt8) × Int)) → Int → Prop) : Prop :=
  (1 + blobRoom a2_parts ≤ 140737488355328) ∧ ((kd_l_u8.wf (preimage a1_kind a2_parts)) → (((1 + [(preimage a1_kind a2_parts)].length) * 24 ≤ 140737488355328 ∧ [(preimage a1_kind a2_parts)].flatten.length ≤ 140737488355328) ∧ ((kd_a32_u8.wf (sha256 [(preimage a1_kind a2_parts)])) → ((BookInv a0_k_0_0 a0_k_0_1 ∧ (preimage a1_kind a2_parts).length ≤ 140737488355328 ∧ (a0_k_0_0.length + 1) * 64 ≤ 140737488355328) ∧ (Q (sha256 [(preimage a1_kind a2_parts)]) (addL a0_k_0_0 (sha256 [(preimage a1_kind a2_parts)]) (preimage a1_kind a2_parts)) (addM a0_k_0_0 a0_k_0_1 (sha256 [(preimage a1_kind a2_parts)]) (preimage a1_kind a2_parts)) (IntKind.i64.wrap (a0_k_1 + 1)))))))
theorem OfB_ok {a0_k_0_0 : (List ((List UInt8) × (List UInt8)))} {a0_k_0_1 : (List ((List UInt8) × Int))} {a0_k_1 : Int} {a1_kind : Int} {a2_parts : (List (List UInt8))} (w_0 : (Kd.int .i64).wf a1_kind) (w_1 : kd_l_l_u8.wf a2_parts) (hp : BookInv a0_k_0_0 a0_k_0_1 ∧ 1 + blobRoom a2_parts ≤ 140737488355328 ∧ (a0_k_0_0.length + 1) * 64 ≤ 140737488355328) : OfB_VC a0_k_0_0 a0_k_0_1 a0_k_1 a1_kind a2_parts (fun o0 o1 o2 o3 => o0 = (sealOf a1_kind a2_parts) ∧ o1 = (addL a0_k_0_0 (sealOf a1_kind a2_parts) (preimage a1_kind a2_parts)) ∧ o2 = (addM a0_k_0_0 a0_k_0_1 (sealOf a1_kind a2_parts) (preimage a1_kind a2_parts)) ∧ o3 = (IntKind.i64.wrap (a0_k_1 + 1))) := by
  obtain ⟨h1, h2, h3⟩ := hp
  have hl := preimage_len a1_kind h2
  unfold OfB_VC
  exact ⟨h2, fun _ => ⟨⟨by simp, by simpa using by omega⟩, fun _ => ⟨⟨h1, by omega, h3⟩, rfl, rfl, rfl, rfl⟩⟩⟩

theorem OfB_walk {w0 : World} {K0 : Ghost} {a0_k_b : Nat} {a0_k_pre a0_k_post : List Value} {a0_k_0_0v : Value} {a0_k_0_0 : (List ((List UInt8) × (List UInt8)))} {a0_k_0_1v : Value} {a0_k_0_1 : (List ((List UInt8) × Int))} {a0_k_1 : Int} {a1_kind_v : Value} {a1_kind : Int} {a2_parts_v : Value} {a2_parts : (List (List UInt8))} {Q : (List UInt8) → (List ((List UInt8) × (List UInt8))) → (List ((List UInt8) × Int)) → Int → Prop} (hM0 : Models w0 K0) (h_a0_k_B : Bx kd_Sseal_Book w0 K0 a0_k_b a0_k_pre a0_k_post ((a0_k_0_0v, a0_k_0_1v), a0_k_1)) (h_a0_k_0_0 : Own kd_Sseal_note 90 w0 K0 a0_k_0_0 a0_k_0_0v) (h_a0_k_0_1 : Mp kd_a32_u8 (Kd.int .i64) w0 K0 a0_k_0_1 a0_k_0_1v) (h_a1_kind : (Kd.int .i64).V K0 a1_kind a1_kind_v) (h_a2_parts : kd_l_l_u8.V K0 a2_parts a2_parts_v) (h : OfB_VC a0_k_0_0 a0_k_0_1 a0_k_1 a1_kind a2_parts Q) : Calls Try.prog 21 #[(.pointer (some ⟨a0_k_b, a0_k_pre.length, none⟩)), a1_kind_v, a2_parts_v] w0 (fun e w' => ∃ (K' : Ghost) (r0 : Value) (u0_0_0 : Value) (u0_0_1 : Value) (o0 : (List UInt8)) (o1 : (List ((List UInt8) × (List UInt8)))) (o2 : (List ((List UInt8) × Int))) (o3 : Int), e = .returned r0 ∧ Q o0 o1 o2 o3 ∧ Ext (fun c => c = a0_k_b ∨ ob a0_k_0_0v = some c ∨ mb a0_k_0_1v = some c) w0 K0 w' K' ∧ Models w' K' ∧ kd_a32_u8.V K' o0 r0 ∧ Bx kd_Sseal_Book w' K' a0_k_b a0_k_pre a0_k_post ((u0_0_0, u0_0_1), o3) ∧ Own kd_Sseal_note 90 w' K' o1 u0_0_0 ∧ (∀ g, ob u0_0_0 = some g → ob a0_k_0_0v = some g ∨ w0.heap.size ≤ g) ∧ Mp kd_a32_u8 (Kd.int .i64) w' K' o2 u0_0_1 ∧ (∀ g, mb u0_0_1 = some g → mb a0_k_0_1v = some g ∨ w0.heap.size ≤ g)) := by
  unfold OfB_VC at h
  obtain rfl := int_form h_a1_kind
  have hE0 : Ext (fun c => c = a0_k_b ∨ ob a0_k_0_0v = some c ∨ mb a0_k_0_1v = some c) w0 K0 w0 K0 := Ext.refl _ _ _
  refine calls_gen fun R hR => ?_
  refine calls_env (args := [(.pointer (some ⟨a0_k_b, a0_k_pre.length, none⟩)), (.int .i64 a1_kind), a2_parts_v]) Try.func21 rfl (Nat.le_of_ble_eq_true rfl) ?_
  refine WP_seq ?_
  refine WP_region ?_
  refine WL_eff rfl rfl (St_B (S_alloc hM0 ty23) ?_)
  rintro b5 w5 (hB5 : Bx kd_a32_u8 _ _ _ _ _ (List.replicate 32 0)) hS5 hM5 hge5
  have hE5 := hE0.andN hS5
  refine WL_nil ?_
  refine WP_seq ?_
  refine WP_region ?_
  refine WL_pure (.int .i64 a1_kind) (R_mv rfl) rfl rfl ?_
  refine WL_pure a2_parts_v (R_mv rfl) rfl rfl ?_
  have hR7 := (h_a0_k_0_0.extN hS5)
  have hR8 := (h_a0_k_0_1.extN hS5)
  have hR9 := (h_a0_k_B.extN hS5)
  obtain ⟨hp11, h⟩ := h
  refine WL_eff rfl rfl (St_call (R_call Try.call26 rfl) ((Preimage_c hM5 (int_V (h_a1_kind).wf) (h_a2_parts.mono hS5.le) hp11).mono ?_))
  rintro _ w10 ⟨K10, v10_0, rfl, hS10, hM10, hO10_0, hg10_0⟩
  refine ⟨v10_0, rfl, ?_⟩
  have hE10 := hE5.andN hS10
  have h := h hO10_0.wf
  refine WL_pure v10_0 (R_as rfl) rfl rfl ?_
  refine WL_nil ?_
  refine WP_seq ?_
  refine WP_region ?_
  refine WL_pure v10_0 (R_mv rfl) rfl rfl ?_
  refine WL_eff rfl rfl (St_S0 (S_bsl (k := kd_l_u8) (l := [((preimage a1_kind a2_parts), v10_0)]) hM10 rfl (by intro p hp; simp only [List.mem_cons, List.not_mem_nil, or_false] at hp; subst hp; exact hO10_0.V) rfl Try.underlying38 ty39 rfl rfl) ?_)
  rintro v13 w13 K13 (hO13 : Own kd_l_u8 39 w13 K13 [(preimage a1_kind a2_parts)] v13) hS13 hM13 hg13
  have hE13 := hE10.andN hS13
  obtain ⟨hp16, h⟩ := h
  refine WL_eff rfl rfl (St_call (R_call Try.call49 rfl) ((ShaSum_c hM13 hO13.V hp16).mono ?_))
  rintro _ w15 ⟨K15, v15_0, rfl, hS15, hM15, hV15_0⟩
  refine ⟨v15_0, rfl, ?_⟩
  have hE15 := hE13.andN hS15
  have h := h hV15_0.wf
  refine WL_eff rfl rfl (St_B (S_alloc hM15 ty23) ?_)
  rintro b18 w18 (hB18 : Bx kd_a32_u8 _ _ _ _ _ (List.replicate 32 0)) hS18 hM18 hge18
  have hE18 := hE15.andN hS18
  have hR20 := (((hR9.extN hS10).extN hS13).extN hS15)
  have hR21 := (((hB5.extN hS10).extN hS13).extN hS15)
  refine WL_eff rfl rfl (St_St (S_stB (Foc.id _) hM18 rfl rfl (hV15_0.mono hS18.le) ty23 hB18 (by first | rfl | simp | omega)) ?_)
  rintro w22 (hB22 : Bx kd_a32_u8 _ _ b18 [] [] (sha256 [(preimage a1_kind a2_parts)])) hS22 hM22
  have hE22 := hE18.comp hS22 (fun c hx hlt => (by subst hx; exact (fun hlt => absurd hlt (Nat.not_lt.2 (Nat.le_trans hE15.size hge18))) hlt))
  refine WL_nil ?_
  refine WP_seq ?_
  refine WP_seq ?_
  refine WP_region ?_
  refine WL_pure (.pointer (some ⟨a0_k_b, a0_k_pre.length, none⟩)) (R_mv rfl) rfl rfl ?_
  refine WL_pure (.bool true) (R_pne rfl rfl Try.underlying26) rfl rfl ?_
  refine WL_nil ?_
  refine WP_cond true rfl (fun _ => ?_) (fun hc => by cases hc)
  refine WP_seq ?_
  refine WP_region ?_
  refine WL_pure (.pointer (some ⟨a0_k_b, a0_k_pre.length, none⟩)) (R_mv rfl) rfl rfl ?_
  refine WL_pure (.pointer (some ⟨a0_k_b, a0_k_pre.length, none⟩)) (R_nilck rfl) rfl rfl ?_
  refine WL_pure (.pointer (some ⟨a0_k_b, a0_k_pre.length + 2, none⟩)) (R_fa rfl Try.underlying32 rfl rfl ty3 rfl) rfl rfl ?_
  have hR24 := ((((hR9.extN hS10).extN hS13).extN hS15).extN hS18)
  have hR25 := (hR24.ext hS22 (fun hx => (fun he => (ne_new hge18 hR20.lt) he.symm) hx))
  refine WL_L hM22 (S_ldB (Foc.snd kd_Sseal_notes (Kd.int .i64)) rfl ty3 hR25 (by first | rfl | simp | omega) (fun h => h)) rfl rfl ?_
  rintro v23 (hV23 : (Kd.int .i64).V _ a0_k_1 _)
  obtain rfl := int_form hV23
  refine WL_pure (.int .i64 (IntKind.i64.wrap (a0_k_1 + 1))) (R_add rfl rfl) rfl rfl ?_
  refine WL_pure (.pointer (some ⟨a0_k_b, a0_k_pre.length, none⟩)) (R_nilck rfl) rfl rfl ?_
  refine WL_pure (.pointer (some ⟨a0_k_b, a0_k_pre.length + 2, none⟩)) (R_fa rfl Try.underlying32 rfl rfl ty3 rfl) rfl rfl ?_
  refine WL_eff rfl rfl (St_St (S_stB (Foc.snd kd_Sseal_notes (Kd.int .i64)) hM22 rfl rfl (int_V (wrap_wf _ _)) ty3 hR25 (by first | rfl | simp | omega)) ?_)
  rintro w26 (hB26 : Bx kd_Sseal_Book _ _ a0_k_b a0_k_pre a0_k_post ((a0_k_0_0v, a0_k_0_1v), (IntKind.i64.wrap (a0_k_1 + 1)))) hS26 hM26
  have hE26 := hE22.comp hS26 (fun c hx hlt => (by subst hx; exact (fun _ => (.inl rfl)) hlt))
  refine WL_nil ?_
  have hR27 := (hB22.ext hS26 (fun hx => (ne_new hge18 hR20.lt) hx))
  have hR28 := ((((hR7.extN hS10).extN hS13).extN hS15).extN hS18)
  have hR29 := (hR28.ext hS22 (fun g hg hx => (fun g hg hx => hR28.box hB18 (hg.trans (congrArg some hx))) g hg hx))
  have hR30 := (hR29.ext hS26 (fun g hg hx => (fun g hg hx => hR29.box hR25 (hg.trans (congrArg some hx))) g hg hx))
  have hR31 := ((((hR8.extN hS10).extN hS13).extN hS15).extN hS18)
  have hR32 := (hR31.ext hS22 (fun g hg hx => (fun g hg hx => hR31.box hB18 (hg.trans (congrArg some hx))) g hg hx))
  have hR33 := (hR32.ext hS26 (fun g hg hx => (fun g hg hx => hR32.box hR25 (hg.trans (congrArg some hx))) g hg hx))
  refine WP_ordD (K := K15) (fun c => c = a0_k_b ∨ ob a0_k_0_0v = some c ∨ mb a0_k_0_1v = some c ∨ w26.heap.size ≤ c) [.o 0 2, .o 1 2, .o 2 2, .o 3 2, .o 4 2, .o 5 1] (by kernel_rfl) (by kernel_rfl) hM26 ?_
  rintro w34 hS34 hM34
  have hE34 := hE26.andN hS34
  refine WO_pure (.pointer (some ⟨a0_k_b, a0_k_pre.length, none⟩)) rfl l0 hM34 (fun _ => R_mv rfl) rfl (gN rfl) rfl ?_
  refine WO_pure (.pointer (some ⟨a0_k_b, a0_k_pre.length, none⟩)) rfl l0 hM34 (fun _ => R_nilck rfl) rfl (gN rfl) rfl ?_
  refine WO_pure (.pointer (some ⟨a0_k_b, a0_k_pre.length + 0, none⟩)) rfl l0 hM34 (fun _ => R_fa rfl Try.underlying32 rfl rfl ty30 rfl) rfl (gN rfl) rfl ?_
  have hR36 := (hR27.extN hS34)
  refine WO_L0 hM34 (S_ldB (Foc.id _) rfl ty23 hR36 (by first | rfl | simp | omega) (fun h => h)) rfl (gN rfl) rfl ?_
  rintro v35 (hV35 : kd_a32_u8.V _ (sha256 [(preimage a1_kind a2_parts)]) _)
  refine WO_pure v10_0 rfl l0 hM34 (fun _ => R_mv rfl) rfl (gN rfl) rfl ?_
  have hR38 := (hR30.extN hS34)
  have hR39 := (hR33.extN hS34)
  have hR40 := (hB26.extN hS34)
  have hR41 := ((((hB5.extN hS10).extN hS13).extN hS15).extN hS18)
  have hR42 := (hR41.ext hS22 (fun hx => (fun he => (ne_new hge18 hR21.lt) he.symm) hx))
  have hR43 := ((hR42.ext hS26 (fun hx => (ne_new hge5 h_a0_k_B.lt) hx)).extN hS34)
  have hR44 := (((hO10_0.extN hS13).extN hS15).extN hS18)
  have hR45 := (hR44.ext hS22 (fun g hg hx => (fun g hg hx => hR44.box hB18 (hg.trans (congrArg some hx))) g hg hx))
  have hR46 := ((hR45.ext hS26 (fun g hg hx => (fun g hg hx => hR45.box hR25 (hg.trans (congrArg some hx))) g hg hx)).extN hS34)
  have hR47 := ((hO13.extN hS15).extN hS18)
  have hR48 := (hR47.ext hS22 (fun g hg hx => (fun g hg hx => hR47.box hB18 (hg.trans (congrArg some hx))) g hg hx))
  have hR49 := ((hR48.ext hS26 (fun g hg hx => (fun g hg hx => hR48.box hR25 (hg.trans (congrArg some hx))) g hg hx)).extN hS34)
  obtain ⟨p51, q51, hl51, hB51, hback51⟩ := Bx.sub (Foc.fst kd_Sseal_notes (Kd.int .i64)) hR40
  obtain ⟨hp52, h⟩ := h
  refine WO_eff rfl (gN rfl) rfl (St_call (R_call Try.call47 (mapC (show (Value.pointer (some ⟨a0_k_b, a0_k_pre.length + 0, none⟩)) = .pointer (some ⟨a0_k_b, ((a0_k_pre : List Value) ++ p51).length, none⟩) from by rw [List.length_append, hl51]; first | done | simp) (mapC rfl (mapC rfl mapN)))) ((add_c hM34 hB51 hR38 hR39 hV35 hR46.V hp52).mono ?_))
  rintro _ w50 ⟨K50, u50_0_0, u50_0_1, rfl, hS50, hM50, hB50_m0, hu50_0_0, hxu50_0_0, hu50_0_1, hxu50_0_1⟩
  refine ⟨(.tuple #[]), rfl, ?_⟩
  refine ⟨K50, (hS50.weak (fun c hlt hx => Or.elim hx (fun hx => (.inl (hx))) (fun hx => Or.elim hx (fun hx => (.inr (.inl (hx)))) (fun hx => (.inr (.inr (.inl (hx)))))))), hM50, ?_⟩
  have hE50 := hE34.comp hS50 (fun c hx hlt => Or.elim hx (fun hx => (by subst hx; exact (fun _ => (.inl rfl)) hlt)) (fun hx => Or.elim hx (fun hx => (fun g hg _ => (.inr (.inl hg))) c hx hlt) (fun hx => (fun g hg _ => (.inr (.inr (hg)))) c hx hlt)))
  have hf53 : ∀ g, ob u50_0_0 = some g → g < w0.heap.size → g = a0_k_b ∨ ob a0_k_0_0v = some g ∨ mb a0_k_0_1v = some g := fun g hg hlt => (hxu50_0_0 g hg).elim (fun hx => (fun g hg _ => (.inr (.inl hg))) g hx hlt) (fun hx => absurd hlt (Nat.not_lt.2 (Nat.le_trans hE34.size hx)))
  have hf54 : ∀ g, mb u50_0_1 = some g → g < w0.heap.size → g = a0_k_b ∨ ob a0_k_0_0v = some g ∨ mb a0_k_0_1v = some g := fun g hg hlt => (hxu50_0_1 g hg).elim (fun hx => (fun g hg _ => (.inr (.inr (hg)))) g hx hlt) (fun hx => absurd hlt (Nat.not_lt.2 (Nat.le_trans hE34.size hx)))
  have hB50_w : Bx kd_Sseal_Book w50 K50 a0_k_b a0_k_pre a0_k_post ((u50_0_0, u50_0_1), (IntKind.i64.wrap (a0_k_1 + 1))) := hback51 hS50.le hB50_m0
  refine WO_nil ?_
  refine WP_seq ?_
  refine WP_region ?_
  have hR56 := (hR36.ext hS50 (fun hx => Or.elim hx (fun hx => (ne_new hge18 hR20.lt) hx) (fun hx => Or.elim hx (fun hx => (hR38.box hR36) hx) (fun hx => (hR39.box hR36) hx))))
  refine WL_L hM50 (S_ldB (Foc.id _) rfl ty23 hR56 (by first | rfl | simp | omega) (fun h => h)) rfl rfl ?_
  rintro v55 (hV55 : kd_a32_u8.V _ (sha256 [(preimage a1_kind a2_parts)]) _)
  have hR59 := (hR43.ext hS50 (fun hx => Or.elim hx (fun hx => (ne_new hge5 h_a0_k_B.lt) hx) (fun hx => Or.elim hx (fun hx => (hR38.box hR43) hx) (fun hx => (hR39.box hR43) hx))))
  refine WL_eff rfl rfl (St_St (S_stB (Foc.id _) hM50 rfl rfl hV55 ty23 hR59 (by first | rfl | simp | omega)) ?_)
  rintro w58 (hB58 : Bx kd_a32_u8 _ _ b5 [] [] (sha256 [(preimage a1_kind a2_parts)])) hS58 hM58
  have hE58 := hE50.comp hS58 (fun c hx hlt => (by subst hx; exact (fun hlt => absurd hlt (Nat.not_lt.2 (Nat.le_trans hE0.size hge5))) hlt))
  refine WL_nil ?_
  refine WP_ret ?_
  refine endS_ret hR (resE_B rfl rfl ty23 hB58) ?_
  rintro v60 hV60
  have hR61 := (hu50_0_0.ext hS58 (fun g hg hx => (fun g hg hx => hu50_0_0.box hR59 (hg.trans (congrArg some hx))) g hg hx))
  have hR62 := (hu50_0_1.ext hS58 (fun g hg hx => (fun g hg hx => hu50_0_1.box hR59 (hg.trans (congrArg some hx))) g hg hx))
  have hR63 := (hB50_w.ext hS58 (fun hx => (fun he => (ne_new hge5 h_a0_k_B.lt) he.symm) hx))
  exact ⟨K50, v60, u50_0_0, u50_0_1, (sha256 [(preimage a1_kind a2_parts)]), (addL a0_k_0_0 (sha256 [(preimage a1_kind a2_parts)]) (preimage a1_kind a2_parts)), (addM a0_k_0_0 a0_k_0_1 (sha256 [(preimage a1_kind a2_parts)]) (preimage a1_kind a2_parts)), (IntKind.i64.wrap (a0_k_1 + 1)), rfl, h, hE58, hM58, hV60, hR63, hR61, (fun g hg => ((hxu50_0_0 g hg).elim (fun hz => (.inl hz)) (fun hz => .inr (Nat.le_trans hE34.size hz)))), hR62, (fun g hg => ((hxu50_0_1 g hg).elim (fun hz => (.inl hz)) (fun hz => .inr (Nat.le_trans hE34.size hz))))⟩
theorem OfB_c {w0 : World} {K0 : Ghost} {a0_k_b : Nat} {a0_k_pre a0_k_post : List Value} {a0_k_0_0v : Value} {a0_k_0_0 : (List ((List UInt8) × (List UInt8)))} {a0_k_0_1v : Value} {a0_k_0_1 : (List ((List UInt8) × Int))} {a0_k_1 : Int} {a1_kind_v : Value} {a1_kind : Int} {a2_parts_v : Value} {a2_parts : (List (List UInt8))} (hM0 : Models w0 K0) (h_a0_k_B : Bx kd_Sseal_Book w0 K0 a0_k_b a0_k_pre a0_k_post ((a0_k_0_0v, a0_k_0_1v), a0_k_1)) (h_a0_k_0_0 : Own kd_Sseal_note 90 w0 K0 a0_k_0_0 a0_k_0_0v) (h_a0_k_0_1 : Mp kd_a32_u8 (Kd.int .i64) w0 K0 a0_k_0_1 a0_k_0_1v) (h_a1_kind : (Kd.int .i64).V K0 a1_kind a1_kind_v) (h_a2_parts : kd_l_l_u8.V K0 a2_parts a2_parts_v) (hp : BookInv a0_k_0_0 a0_k_0_1 ∧ 1 + blobRoom a2_parts ≤ 140737488355328 ∧ (a0_k_0_0.length + 1) * 64 ≤ 140737488355328) : Calls Try.prog 21 #[(.pointer (some ⟨a0_k_b, a0_k_pre.length, none⟩)), a1_kind_v, a2_parts_v] w0 (fun e w' => ∃ (K' : Ghost) (r0 : Value) (u0_0_0 : Value) (u0_0_1 : Value), e = .returned r0 ∧ Ext (fun c => c = a0_k_b ∨ ob a0_k_0_0v = some c ∨ mb a0_k_0_1v = some c) w0 K0 w' K' ∧ Models w' K' ∧ kd_a32_u8.V K' (sealOf a1_kind a2_parts) r0 ∧ Bx kd_Sseal_Book w' K' a0_k_b a0_k_pre a0_k_post ((u0_0_0, u0_0_1), (IntKind.i64.wrap (a0_k_1 + 1))) ∧ Own kd_Sseal_note 90 w' K' (addL a0_k_0_0 (sealOf a1_kind a2_parts) (preimage a1_kind a2_parts)) u0_0_0 ∧ (∀ g, ob u0_0_0 = some g → ob a0_k_0_0v = some g ∨ w0.heap.size ≤ g) ∧ Mp kd_a32_u8 (Kd.int .i64) w' K' (addM a0_k_0_0 a0_k_0_1 (sealOf a1_kind a2_parts) (preimage a1_kind a2_parts)) u0_0_1 ∧ (∀ g, mb u0_0_1 = some g → mb a0_k_0_1v = some g ∨ w0.heap.size ≤ g)) := by
  refine (OfB_walk hM0 h_a0_k_B h_a0_k_0_0 h_a0_k_0_1 h_a1_kind h_a2_parts (OfB_ok h_a1_kind.wf h_a2_parts.wf hp)).mono ?_
  rintro _ w' ⟨K', r0, u0, u1, o0, o1, o2, o3, rfl, ⟨rfl, rfl, rfl, rfl⟩, hF⟩
  exact ⟨K', r0, u0, u1, rfl, hF⟩
def OfN_VC (a1_kind : Int) (a2_parts : (List (List UInt8))) (Q : (List UInt8) → Prop) : Prop :=
  (1 + blobRoom a2_parts ≤ 140737488355328) ∧ ((kd_l_u8.wf (preimage a1_kind a2_parts)) → (((1 + [(preimage a1_kind a2_parts)].length) * 24 ≤ 140737488355328 ∧ [(preimage a1_kind a2_parts)].flatten.length ≤ 140737488355328) ∧ ((kd_a32_u8.wf (sha256 [(preimage a1_kind a2_parts)])) → (Q (sha256 [(preimage a1_kind a2_parts)])))))
theorem OfN_ok {a1_kind : Int} {a2_parts : (List (List UInt8))} (w_0 : (Kd.int .i64).wf a1_kind) (w_1 : kd_l_l_u8.wf a2_parts) (hp : 1 + blobRoom a2_parts ≤ 140737488355328) : OfN_VC a1_kind a2_parts (fun o0 => o0 = (sealOf a1_kind a2_parts)) := by
  have hl := preimage_len a1_kind hp
  unfold OfN_VC
  exact ⟨hp, fun _ => ⟨⟨by simp, by simpa using by omega⟩, fun _ => rfl⟩⟩

theorem OfN_walk {w0 : World} {K0 : Ghost} {a1_kind_v : Value} {a1_kind : Int} {a2_parts_v : Value} {a2_parts : (List (List UInt8))} {Q : (List UInt8) → Prop} (hM0 : Models w0 K0) (h_a1_kind : (Kd.int .i64).V K0 a1_kind a1_kind_v) (h_a2_parts : kd_l_l_u8.V K0 a2_parts a2_parts_v) (h : OfN_VC a1_kind a2_parts Q) : Calls Try.prog 21 #[(.pointer none), a1_kind_v, a2_parts_v] w0 (fun e w' => ∃ (K' : Ghost) (r0 : Value) (o0 : (List UInt8)), e = .returned r0 ∧ Q o0 ∧ Ext NX w0 K0 w' K' ∧ Models w' K' ∧ kd_a32_u8.V K' o0 r0) := by
  unfold OfN_VC at h
  obtain rfl := int_form h_a1_kind
  have hE0 : Ext NX w0 K0 w0 K0 := Ext.refl _ _ _
  refine calls_gen fun R hR => ?_
  refine calls_env (args := [(.pointer none), (.int .i64 a1_kind), a2_parts_v]) Try.func21 rfl (Nat.le_of_ble_eq_true rfl) ?_
  refine WP_seq ?_
  refine WP_region ?_
  refine WL_eff rfl rfl (St_B (S_alloc hM0 ty23) ?_)
  rintro b2 w2 (hB2 : Bx kd_a32_u8 _ _ _ _ _ (List.replicate 32 0)) hS2 hM2 hge2
  have hE2 := hE0.andN hS2
  refine WL_nil ?_
  refine WP_seq ?_
  refine WP_region ?_
  refine WL_pure (.int .i64 a1_kind) (R_mv rfl) rfl rfl ?_
  refine WL_pure a2_parts_v (R_mv rfl) rfl rfl ?_
  obtain ⟨hp5, h⟩ := h
  refine WL_eff rfl rfl (St_call (R_call Try.call26 rfl) ((Preimage_c hM2 (int_V (h_a1_kind).wf) (h_a2_parts.mono hS2.le) hp5).mono ?_))
  rintro _ w4 ⟨K4, v4_0, rfl, hS4, hM4, hO4_0, hg4_0⟩
  refine ⟨v4_0, rfl, ?_⟩
  have hE4 := hE2.andN hS4
  have h := h hO4_0.wf
  refine WL_pure v4_0 (R_as rfl) rfl rfl ?_
  refine WL_nil ?_
  refine WP_seq ?_
  refine WP_region ?_
  refine WL_pure v4_0 (R_mv rfl) rfl rfl ?_
  refine WL_eff rfl rfl (St_S0 (S_bsl (k := kd_l_u8) (l := [((preimage a1_kind a2_parts), v4_0)]) hM4 rfl (by intro p hp; simp only [List.mem_cons, List.not_mem_nil, or_false] at hp; subst hp; exact hO4_0.V) rfl Try.underlying38 ty39 rfl rfl) ?_)
  rintro v7 w7 K7 (hO7 : Own kd_l_u8 39 w7 K7 [(preimage a1_kind a2_parts)] v7) hS7 hM7 hg7
  have hE7 := hE4.andN hS7
  obtain ⟨hp10, h⟩ := h
  refine WL_eff rfl rfl (St_call (R_call Try.call49 rfl) ((ShaSum_c hM7 hO7.V hp10).mono ?_))
  rintro _ w9 ⟨K9, v9_0, rfl, hS9, hM9, hV9_0⟩
  refine ⟨v9_0, rfl, ?_⟩
  have hE9 := hE7.andN hS9
  have h := h hV9_0.wf
  refine WL_eff rfl rfl (St_B (S_alloc hM9 ty23) ?_)
  rintro b12 w12 (hB12 : Bx kd_a32_u8 _ _ _ _ _ (List.replicate 32 0)) hS12 hM12 hge12
  have hE12 := hE9.andN hS12
  have hR14 := (((hB2.extN hS4).extN hS7).extN hS9)
  refine WL_eff rfl rfl (St_St (S_stB (Foc.id _) hM12 rfl rfl (hV9_0.mono hS12.le) ty23 hB12 (by first | rfl | simp | omega)) ?_)
  rintro w15 (hB15 : Bx kd_a32_u8 _ _ b12 [] [] (sha256 [(preimage a1_kind a2_parts)])) hS15 hM15
  have hE15 := hE12.comp hS15 (fun c hx hlt => (by subst hx; exact (fun hlt => absurd hlt (Nat.not_lt.2 (Nat.le_trans hE9.size hge12))) hlt))
  refine WL_nil ?_
  refine WP_seq ?_
  refine WP_seq ?_
  refine WP_region ?_
  refine WL_pure (.pointer none) (R_mv rfl) rfl rfl ?_
  refine WL_pure (.bool false) (R_pne0 rfl rfl Try.underlying26) rfl rfl ?_
  refine WL_nil ?_
  refine WP_cond false rfl (fun hc => by cases hc) (fun _ => ?_)
  refine WP_skip ?_
  refine WP_seq ?_
  refine WP_region ?_
  refine WL_L hM15 (S_ldB (Foc.id _) rfl ty23 hB15 (by first | rfl | simp | omega) (fun h => h)) rfl rfl ?_
  rintro v16 (hV16 : kd_a32_u8.V _ (sha256 [(preimage a1_kind a2_parts)]) _)
  have hR19 := ((((hB2.extN hS4).extN hS7).extN hS9).extN hS12)
  have hR20 := (hR19.ext hS15 (fun hx => (fun he => (ne_new hge12 hR14.lt) he.symm) hx))
  refine WL_eff rfl rfl (St_St (S_stB (Foc.id _) hM15 rfl rfl hV16 ty23 hR20 (by first | rfl | simp | omega)) ?_)
  rintro w18 (hB18 : Bx kd_a32_u8 _ _ b2 [] [] (sha256 [(preimage a1_kind a2_parts)])) hS18 hM18
  have hE18 := hE15.comp hS18 (fun c hx hlt => (by subst hx; exact (fun hlt => absurd hlt (Nat.not_lt.2 (Nat.le_trans hE0.size hge2))) hlt))
  refine WL_nil ?_
  refine WP_ret ?_
  refine endS_ret hR (resE_B rfl rfl ty23 hB18) ?_
  rintro v21 hV21
  exact ⟨K9, v21, (sha256 [(preimage a1_kind a2_parts)]), rfl, h, hE18, hM18, hV21⟩
theorem OfN_c {w0 : World} {K0 : Ghost} {a1_kind_v : Value} {a1_kind : Int} {a2_parts_v : Value} {a2_parts : (List (List UInt8))} (hM0 : Models w0 K0) (h_a1_kind : (Kd.int .i64).V K0 a1_kind a1_kind_v) (h_a2_parts : kd_l_l_u8.V K0 a2_parts a2_parts_v) (hp : 1 + blobRoom a2_parts ≤ 140737488355328) : Calls Try.prog 21 #[(.pointer none), a1_kind_v, a2_parts_v] w0 (fun e w' => ∃ (K' : Ghost) (r0 : Value), e = .returned r0 ∧ Ext NX w0 K0 w' K' ∧ Models w' K' ∧ kd_a32_u8.V K' (sealOf a1_kind a2_parts) r0) := by
  refine (OfN_walk hM0 h_a1_kind h_a2_parts (OfN_ok h_a1_kind.wf h_a2_parts.wf hp)).mono ?_
  rintro _ w' ⟨K', r0, o0, rfl, rfl, hF⟩
  exact ⟨K', r0, rfl, hF⟩
def NoteN_VC (a1_s : (List UInt8)) (a2_b : (List UInt8)) (Q : Prop) : Prop :=
  Q
theorem NoteN_ok {a1_s : (List UInt8)} {a2_b : (List UInt8)} (w_0 : kd_a32_u8.wf a1_s) (w_1 : kd_l_u8.wf a2_b) : NoteN_VC a1_s a2_b (True) := by
  trivial

theorem NoteN_walk {w0 : World} {K0 : Ghost} {a1_s_v : Value} {a1_s : (List UInt8)} {a2_b_v : Value} {a2_b : (List UInt8)} {Q : Prop} (hM0 : Models w0 K0) (h_a1_s : kd_a32_u8.V K0 a1_s a1_s_v) (h_a2_b : kd_l_u8.V K0 a2_b a2_b_v) (h : NoteN_VC a1_s a2_b Q) : Calls Try.prog 19 #[(.pointer none), a1_s_v, a2_b_v] w0 (fun e w' => ∃ (K' : Ghost), e = .returned (.tuple #[]) ∧ Q ∧ Ext NX w0 K0 w' K' ∧ Models w' K') := by
  unfold NoteN_VC at h
  have hE0 : Ext NX w0 K0 w0 K0 := Ext.refl _ _ _
  refine calls_gen fun R hR => ?_
  refine calls_env (args := [(.pointer none), a1_s_v, a2_b_v]) Try.func19 rfl (Nat.le_of_ble_eq_true rfl) ?_
  refine WP_seq ?_
  refine WP_region ?_
  refine WL_eff rfl rfl (St_B (S_box hM0 rfl h_a1_s) ?_)
  rintro b3 w3 (hB3 : Bx kd_a32_u8 _ _ _ _ _ a1_s) hS3 hM3 hge3
  have hE3 := hE0.andN hS3
  refine WL_nil ?_
  refine WP_seq ?_
  refine WP_region ?_
  refine WL_pure (.pointer none) (R_mv rfl) rfl rfl ?_
  refine WL_pure (.bool false) (R_pne0 rfl rfl Try.underlying26) rfl rfl ?_
  refine WL_nil ?_
  refine WP_cond false rfl (fun hc => by cases hc) (fun _ => ?_)
  refine WP_skip ?_
  exact endR_nrm hR (v := (.tuple #[])) (resE_0 rfl) ⟨K0, rfl, h, hE3, hM3⟩
theorem NoteN_c {w0 : World} {K0 : Ghost} {a1_s_v : Value} {a1_s : (List UInt8)} {a2_b_v : Value} {a2_b : (List UInt8)} (hM0 : Models w0 K0) (h_a1_s : kd_a32_u8.V K0 a1_s a1_s_v) (h_a2_b : kd_l_u8.V K0 a2_b a2_b_v) : Calls Try.prog 19 #[(.pointer none), a1_s_v, a2_b_v] w0 (fun e w' => ∃ (K' : Ghost), e = .returned (.tuple #[]) ∧ Ext NX w0 K0 w' K' ∧ Models w' K') := by
  refine (NoteN_walk hM0 h_a1_s h_a2_b (NoteN_ok h_a1_s.wf h_a2_b.wf)).mono ?_
  rintro _ w' ⟨K', rfl, -, hF⟩
  exact ⟨K', rfl, hF⟩
def CallsN_VC  (Q : Int → Prop) : Prop :=
  Q 0
theorem CallsN_ok  : CallsN_VC  (fun o0 => o0 = (0 : Int)) := by
  rfl

theorem CallsN_walk {w0 : World} {K0 : Ghost}  {Q : Int → Prop} (hM0 : Models w0 K0)  (h : CallsN_VC  Q) : Calls Try.prog 23 #[(.pointer none)] w0 (fun e w' => ∃ (K' : Ghost) (r0 : Value) (o0 : Int), e = .returned r0 ∧ Q o0 ∧ Ext NX w0 K0 w' K' ∧ Models w' K' ∧ (Kd.int .i64).V K' o0 r0) := by
  unfold CallsN_VC at h
  have hE0 : Ext NX w0 K0 w0 K0 := Ext.refl _ _ _
  refine calls_gen fun R hR => ?_
  refine calls_env (args := [(.pointer none)]) Try.func23 rfl (Nat.le_of_ble_eq_true rfl) ?_
  refine WP_seq ?_
  refine WP_region ?_
  refine WL_pure (.int .i64 0) (R_as rfl) rfl rfl ?_
  refine WL_nil ?_
  refine WP_seq ?_
  refine WP_seq ?_
  refine WP_region ?_
  refine WL_pure (.pointer none) (R_mv rfl) rfl rfl ?_
  refine WL_pure (.bool true) (R_peq0 rfl rfl Try.underlying26) rfl rfl ?_
  refine WL_nil ?_
  refine WP_cond true rfl (fun _ => ?_) (fun hc => by cases hc)
  refine WP_seq ?_
  refine WP_region ?_
  refine WL_pure (.int .i64 0) (R_as rfl) rfl rfl ?_
  refine WL_nil ?_
  refine WP_ret ?_
  exact endR_ret hR (v := (.int .i64 0)) (resE_1 rfl rfl) ⟨K0, (.int .i64 0), 0, rfl, h, hE0, hM0, (int_V (show (Kd.int .i64).wf 0 from by constructor <;> decide))⟩
theorem CallsN_c {w0 : World} {K0 : Ghost}  (hM0 : Models w0 K0)  : Calls Try.prog 23 #[(.pointer none)] w0 (fun e w' => ∃ (K' : Ghost) (r0 : Value), e = .returned r0 ∧ Ext NX w0 K0 w' K' ∧ Models w' K' ∧ (Kd.int .i64).V K' (0 : Int) r0) := by
  refine (CallsN_walk hM0  (CallsN_ok)).mono ?_
  rintro _ w' ⟨K', r0, o0, rfl, rfl, hF⟩
  exact ⟨K', r0, rfl, hF⟩
def FindN_VC (a1_s : (List UInt8)) (Q : (List UInt8) → Bool → Prop) : Prop :=
  Q ([] : List UInt8) false
theorem FindN_ok {a1_s : (List UInt8)} (w_0 : kd_a32_u8.wf a1_s) : FindN_VC a1_s (fun o0 o1 => o0 = ([] : List UInt8) ∧ o1 = false) := by
  exact ⟨rfl, rfl⟩

theorem FindN_walk {w0 : World} {K0 : Ghost} {a1_s_v : Value} {a1_s : (List UInt8)} {Q : (List UInt8) → Bool → Prop} (hM0 : Models w0 K0) (h_a1_s : kd_a32_u8.V K0 a1_s a1_s_v) (h : FindN_VC a1_s Q) : Calls Try.prog 16 #[(.pointer none), a1_s_v] w0 (fun e w' => ∃ (K' : Ghost) (r0 : Value) (r1 : Value) (o0 : (List UInt8)) (o1 : Bool), e = .returned (.tuple #[r0, r1]) ∧ Q o0 o1 ∧ Ext NX w0 K0 w' K' ∧ Models w' K' ∧ Own Kd.byte 5 w' K' o0 r0 ∧ (∀ g, ob r0 = some g → w0.heap.size ≤ g) ∧ Kd.bool.V K' o1 r1) := by
  unfold FindN_VC at h
  have hE0 : Ext NX w0 K0 w0 K0 := Ext.refl _ _ _
  refine calls_gen fun R hR => ?_
  refine calls_env (args := [(.pointer none), a1_s_v]) Try.func16 rfl (Nat.le_of_ble_eq_true rfl) ?_
  refine WP_seq ?_
  refine WP_region ?_
  refine WL_eff rfl rfl (St_B (S_box hM0 rfl h_a1_s) ?_)
  rintro b2 w2 (hB2 : Bx kd_a32_u8 _ _ _ _ _ a1_s) hS2 hM2 hge2
  have hE2 := hE0.andN hS2
  have hR4 : Own Kd.byte 5 w2 K0 ([] : List UInt8) (.slice none 0 0) := Own.nil
  refine WL_pure (.slice none 0 0) (R_as rfl) rfl rfl ?_
  refine WL_pure (.bool false) (R_as rfl) rfl rfl ?_
  refine WL_nil ?_
  refine WP_seq ?_
  refine WP_seq ?_
  refine WP_region ?_
  refine WL_pure (.pointer none) (R_mv rfl) rfl rfl ?_
  refine WL_pure (.bool true) (R_peq0 rfl rfl Try.underlying26) rfl rfl ?_
  refine WL_nil ?_
  refine WP_cond true rfl (fun _ => ?_) (fun hc => by cases hc)
  refine WP_seq ?_
  refine WP_region ?_
  have hR5 : Own Kd.byte 5 w2 K0 ([] : List UInt8) (.slice none 0 0) := Own.nil
  refine WL_pure (.slice none 0 0) (R_as rfl) rfl rfl ?_
  refine WL_pure (.bool false) (R_as rfl) rfl rfl ?_
  refine WL_nil ?_
  refine WP_ret ?_
  exact endR_ret hR (v := (.tuple #[(.slice none 0 0), (.bool false)])) (resE_2 rfl rfl rfl) ⟨K0, (.slice none 0 0), (.bool false), ([] : List UInt8), false, rfl, h, hE2, hM2, hR5, (fun g hg => nilS hg), bool_V⟩
theorem FindN_c {w0 : World} {K0 : Ghost} {a1_s_v : Value} {a1_s : (List UInt8)} (hM0 : Models w0 K0) (h_a1_s : kd_a32_u8.V K0 a1_s a1_s_v) : Calls Try.prog 16 #[(.pointer none), a1_s_v] w0 (fun e w' => ∃ (K' : Ghost) (r0 : Value) (r1 : Value), e = .returned (.tuple #[r0, r1]) ∧ Ext NX w0 K0 w' K' ∧ Models w' K' ∧ Own Kd.byte 5 w' K' ([] : List UInt8) r0 ∧ (∀ g, ob r0 = some g → w0.heap.size ≤ g) ∧ Kd.bool.V K' false r1) := by
  refine (FindN_walk hM0 h_a1_s (FindN_ok h_a1_s.wf)).mono ?_
  rintro _ w' ⟨K', r0, r1, o0, o1, rfl, ⟨rfl, rfl⟩, hF⟩
  exact ⟨K', r0, r1, rfl, hF⟩
def AllN_VC  (Q : (List (List UInt8)) → Prop) : Prop :=
  Q ([] : List (List UInt8))
theorem AllN_ok  : AllN_VC  (fun o0 => o0 = ([] : List (List UInt8))) := by
  rfl

theorem AllN_walk {w0 : World} {K0 : Ghost}  {Q : (List (List UInt8)) → Prop} (hM0 : Models w0 K0)  (h : AllN_VC  Q) : Calls Try.prog 24 #[(.pointer none)] w0 (fun e w' => ∃ (K' : Ghost) (r0 : Value) (o0 : (List (List UInt8))), e = .returned r0 ∧ Q o0 ∧ Ext NX w0 K0 w' K' ∧ Models w' K' ∧ Own kd_l_u8 39 w' K' o0 r0 ∧ (∀ g, ob r0 = some g → w0.heap.size ≤ g)) := by
  unfold AllN_VC at h
  have hE0 : Ext NX w0 K0 w0 K0 := Ext.refl _ _ _
  refine calls_gen fun R hR => ?_
  refine calls_env (args := [(.pointer none)]) Try.func24 rfl (Nat.le_of_ble_eq_true rfl) ?_
  refine WP_seq ?_
  refine WP_region ?_
  have hR1 : Own kd_l_u8 39 w0 K0 ([] : List (List UInt8)) (.slice none 0 0) := Own.nil
  refine WL_pure (.slice none 0 0) (R_as rfl) rfl rfl ?_
  refine WL_nil ?_
  refine WP_seq ?_
  refine WP_seq ?_
  refine WP_region ?_
  refine WL_pure (.pointer none) (R_mv rfl) rfl rfl ?_
  refine WL_pure (.bool true) (R_peq0 rfl rfl Try.underlying26) rfl rfl ?_
  refine WL_nil ?_
  refine WP_cond true rfl (fun _ => ?_) (fun hc => by cases hc)
  refine WP_seq ?_
  refine WP_region ?_
  have hR2 : Own kd_l_u8 39 w0 K0 ([] : List (List UInt8)) (.slice none 0 0) := Own.nil
  refine WL_pure (.slice none 0 0) (R_as rfl) rfl rfl ?_
  refine WL_nil ?_
  refine WP_ret ?_
  exact endR_ret hR (v := (.slice none 0 0)) (resE_1 rfl rfl) ⟨K0, (.slice none 0 0), ([] : List (List UInt8)), rfl, h, hE0, hM0, hR2, (fun g hg => nilS hg)⟩
theorem AllN_c {w0 : World} {K0 : Ghost}  (hM0 : Models w0 K0)  : Calls Try.prog 24 #[(.pointer none)] w0 (fun e w' => ∃ (K' : Ghost) (r0 : Value), e = .returned r0 ∧ Ext NX w0 K0 w' K' ∧ Models w' K' ∧ Own kd_l_u8 39 w' K' ([] : List (List UInt8)) r0 ∧ (∀ g, ob r0 = some g → w0.heap.size ≤ g)) := by
  refine (AllN_walk hM0  (AllN_ok)).mono ?_
  rintro _ w' ⟨K', r0, o0, rfl, rfl, hF⟩
  exact ⟨K', r0, rfl, hF⟩
theorem Of_c {w0 : World} {K0 : Ghost} {a0_k_v : Value} {a0_k_F : Nat → Prop} {a0_k : BookA} {a1_kind_v : Value} {a1_kind : Int} {a2_parts_v : Value} {a2_parts : (List (List UInt8))} (hM0 : Models w0 K0) (h_a0_k : BookR w0 K0 a0_k_v a0_k_F a0_k) (h_a1_kind : (Kd.int .i64).V K0 a1_kind a1_kind_v) (h_a2_parts : kd_l_l_u8.V K0 a2_parts a2_parts_v) (hp : 1 + blobRoom a2_parts ≤ 140737488355328 ∧ bookRoom a0_k) : Calls Try.prog 21 #[a0_k_v, a1_kind_v, a2_parts_v] w0 (fun e w' => ∃ (K' : Ghost) (r0 : Value) (F0 : Nat → Prop), e = .returned r0 ∧ Ext a0_k_F w0 K0 w' K' ∧ Models w' K' ∧ kd_a32_u8.V K' (sealOf a1_kind a2_parts) r0 ∧ BookR w' K' a0_k_v F0 (bookOf a0_k a1_kind a2_parts) ∧ (∀ g, F0 g → a0_k_F g ∨ w0.heap.size ≤ g)) := by
  cases a0_k with
  | none =>
    obtain ⟨rfl, rfl⟩ := h_a0_k
    refine (OfN_c hM0 h_a1_kind h_a2_parts hp.1).mono ?_
    rintro _ w' ⟨K', r0, rfl, hE, hM, hr0⟩
    exact ⟨K', r0, NX, rfl, hE, hM, hr0, ⟨rfl, rfl⟩, fun g hg => hg.elim⟩
  | some x =>
    obtain ⟨b, pre, post, lv, mv, m, rfl, hB, hO, hm, hi, hF, hlt⟩ := h_a0_k
    refine (OfB_c hM0 hB hO hm h_a1_kind h_a2_parts ⟨hi, hp.1, hp.2 x rfl⟩).mono ?_
    rintro _ w' ⟨K', r0, u0, u1, rfl, hE, hM, hr0, hB', hO', hx, hm', hy⟩
    refine ⟨K', r0, _, rfl, hE.weak (fun g hg hx => hF g hx), hM, hr0, BookE.mk hB' hO' hm' (addInv hi _ _), fun g hg => ?_⟩
    rcases hg with rfl | hg | hg
    · exact .inl (hF _ (.inl rfl))
    · exact (hx g hg).imp (fun h => hF g (.inr (.inl h))) id
    · exact (hy g hg).imp (fun h => hF g (.inr (.inr h))) id

theorem NoteO_c {w0 : World} {K0 : Ghost} {a0_k_v : Value} {a0_k_F : Nat → Prop} {a0_k : BookA} {a1_s_v : Value} {a1_s : (List UInt8)} {a2_b_v : Value} {a2_b : (List UInt8)} (hM0 : Models w0 K0) (h_a0_k : BookR w0 K0 a0_k_v a0_k_F a0_k) (h_a1_s : kd_a32_u8.V K0 a1_s a1_s_v) (h_a2_b : kd_l_u8.V K0 a2_b a2_b_v) (hp : a2_b.length ≤ 140737488355328 ∧ bookRoom a0_k) : Calls Try.prog 19 #[a0_k_v, a1_s_v, a2_b_v] w0 (fun e w' => ∃ (K' : Ghost) (F0 : Nat → Prop), e = .returned (.tuple #[]) ∧ Ext a0_k_F w0 K0 w' K' ∧ Models w' K' ∧ BookR w' K' a0_k_v F0 (bookNote a0_k a1_s a2_b) ∧ (∀ g, F0 g → a0_k_F g ∨ w0.heap.size ≤ g)) := by
  cases a0_k with
  | none =>
    obtain ⟨rfl, rfl⟩ := h_a0_k
    refine (NoteN_c hM0 h_a1_s h_a2_b ).mono ?_
    rintro _ w' ⟨K', rfl, hE, hM⟩
    exact ⟨K', NX, rfl, hE, hM, ⟨rfl, rfl⟩, fun g hg => hg.elim⟩
  | some x =>
    obtain ⟨b, pre, post, lv, mv, m, rfl, hB, hO, hm, hi, hF, hlt⟩ := h_a0_k
    refine (Note_c hM0 hB hO hm h_a1_s h_a2_b ⟨hi, hp.1, hp.2 x rfl⟩).mono ?_
    rintro _ w' ⟨K', u0, u1, rfl, hE, hM, hB', hO', hx, hm', hy⟩
    refine ⟨K', _, rfl, hE.weak (fun g hg hx => hF g hx), hM, BookE.mk hB' hO' hm' (addInv hi _ _), fun g hg => ?_⟩
    rcases hg with rfl | hg | hg
    · exact .inl (hF _ (.inl rfl))
    · exact (hx g hg).imp (fun h => hF g (.inr (.inl h))) id
    · exact (hy g hg).imp (fun h => hF g (.inr (.inr h))) id

theorem CallsO_c {w0 : World} {K0 : Ghost} {a0_k_v : Value} {a0_k_F : Nat → Prop} {a0_k : BookA} (hM0 : Models w0 K0) (h_a0_k : BookR w0 K0 a0_k_v a0_k_F a0_k) : Calls Try.prog 23 #[a0_k_v] w0 (fun e w' => ∃ (K' : Ghost) (r0 : Value), e = .returned r0 ∧ Ext NX w0 K0 w' K' ∧ Models w' K' ∧ (Kd.int .i64).V K' (bookCalls a0_k) r0) := by
  cases a0_k with
  | none =>
    obtain ⟨rfl, rfl⟩ := h_a0_k
    exact (CallsN_c hM0  )
  | some x =>
    obtain ⟨b, pre, post, lv, mv, m, rfl, hB, hO, hm, hi, hF, hlt⟩ := h_a0_k
    exact (Calls_c hM0 hB hO hm  )

theorem FindO_c {w0 : World} {K0 : Ghost} {a0_k_v : Value} {a0_k_F : Nat → Prop} {a0_k : BookA} {a1_s_v : Value} {a1_s : (List UInt8)} (hM0 : Models w0 K0) (h_a0_k : BookR w0 K0 a0_k_v a0_k_F a0_k) (h_a1_s : kd_a32_u8.V K0 a1_s a1_s_v) (hp : bookFits a0_k) : Calls Try.prog 16 #[a0_k_v, a1_s_v] w0 (fun e w' => ∃ (K' : Ghost) (r0 : Value) (r1 : Value), e = .returned (.tuple #[r0, r1]) ∧ Ext NX w0 K0 w' K' ∧ Models w' K' ∧ Own Kd.byte 5 w' K' (bookFind a0_k a1_s) r0 ∧ (∀ g, ob r0 = some g → w0.heap.size ≤ g) ∧ Kd.bool.V K' (bookHas a0_k a1_s) r1) := by
  cases a0_k with
  | none =>
    obtain ⟨rfl, rfl⟩ := h_a0_k
    exact (FindN_c hM0 h_a1_s )
  | some x =>
    obtain ⟨b, pre, post, lv, mv, m, rfl, hB, hO, hm, hi, hF, hlt⟩ := h_a0_k
    exact (Find_c hM0 hB hO hm h_a1_s ⟨hi, (hp x rfl).2⟩)

theorem AllO_c {w0 : World} {K0 : Ghost} {a0_k_v : Value} {a0_k_F : Nat → Prop} {a0_k : BookA} (hM0 : Models w0 K0) (h_a0_k : BookR w0 K0 a0_k_v a0_k_F a0_k) (hp : bookFits a0_k) : Calls Try.prog 24 #[a0_k_v] w0 (fun e w' => ∃ (K' : Ghost) (r0 : Value), e = .returned r0 ∧ Ext NX w0 K0 w' K' ∧ Models w' K' ∧ Own kd_l_u8 39 w' K' (bookAll a0_k) r0 ∧ (∀ g, ob r0 = some g → w0.heap.size ≤ g)) := by
  cases a0_k with
  | none =>
    obtain ⟨rfl, rfl⟩ := h_a0_k
    exact (AllN_c hM0  )
  | some x =>
    obtain ⟨b, pre, post, lv, mv, m, rfl, hB, hO, hm, hi, hF, hlt⟩ := h_a0_k
    exact (AllNotes_c hM0 hB hO hm  (hp x rfl))

end Go.Proofs.Ytfbhiilolpamaaa
