/- Each function that stands here: what its call must answer for (_VC), that it does (_ok), the walk through its code (_walk), its contract (_c). -/
import Derived.Test.YtfbhiilolpamaaaS4
import Derived.Test.YtfbhiilolpamaaaChecked
set_option linter.unusedVariables false
set_option maxRecDepth 100000
set_option maxHeartbeats 2000000
namespace Go.Proofs.Ytfbhiilolpamaaa
open Go Go.RowKit Go.Inc
def AllNotes_VC (a0_k_0_0 : (List ((List UInt8) × (List UInt8)))) (a0_k_0_1 : (List ((List UInt8) × Int))) (a0_k_1 : Int) (Q : (List (List UInt8)) → Prop) : Prop :=
  ∃ (I7 : (List (List UInt8)) → Int → Prop) (μ7 : (List (List UInt8)) → Int → Nat), I7 ([] : List (List UInt8)) 0 ∧ ∀ (out7 : (List (List UInt8))) (i7 : Int), I7 out7 i7 → (kd_l_l_u8.wf out7) → ((Kd.int .i64).wf i7) → (((i7 < (a0_k_0_0.length : Int)) → (0 ≤ i7 ∧ i7 < (a0_k_0_0.length : Int)) ∧ ((((ix a0_k_0_0 i7).2).length ≤ 140737488355328) ∧ ((kd_l_u8.wf ((ix a0_k_0_0 i7).2)) → (((out7.length + [((ix a0_k_0_0 i7).2)].length) * 24 ≤ 140737488355328) ∧ (I7 (out7 ++ [((ix a0_k_0_0 i7).2)]) (i7 + 1) ∧ μ7 (out7 ++ [((ix a0_k_0_0 i7).2)]) (i7 + 1) < μ7 out7 i7))))) ∧ ((¬ (i7 < (a0_k_0_0.length : Int))) → Q out7))
theorem AllNotes_ok {a0_k_0_0 : (List ((List UInt8) × (List UInt8)))} {a0_k_0_1 : (List ((List UInt8) × Int))} {a0_k_1 : Int} (hp : a0_k_0_0.length * 24 ≤ 140737488355328 ∧ ∀ x ∈ a0_k_0_0, x.2.length ≤ 140737488355328) : AllNotes_VC a0_k_0_0 a0_k_0_1 a0_k_1 (fun o0 => o0 = (a0_k_0_0.map Prod.snd)) := by
  obtain ⟨h1, h2⟩ := hp
  unfold AllNotes_VC
  refine ⟨fun out i => ∃ j : Nat, i = (j : Int) ∧ j ≤ a0_k_0_0.length ∧ out = (a0_k_0_0.take j).map Prod.snd, fun _ i => a0_k_0_0.length - i.toNat, ⟨0, rfl, by omega, rfl⟩, ?_⟩
  rintro out i ⟨j, rfl, hj, rfl⟩ _ _
  refine ⟨fun hlt => ⟨⟨by omega, hlt⟩, h2 _ (ix_mem (by omega) hlt), fun _ => ⟨?_, ⟨j + 1, by omega, by omega, ?_⟩, ?_⟩⟩, fun hge => ?_⟩
  · simp only [List.length_map, List.length_take, List.length_cons, List.length_nil]
    omega
  · rw [take_step hlt]
    simp
  · show a0_k_0_0.length - ((j : Int) + 1).toNat < a0_k_0_0.length - (j : Int).toNat
    omega
  · have : j = a0_k_0_0.length := by omega
    subst this
    rw [List.take_length]

theorem AllNotes_walk {w0 : World} {K0 : Ghost} {a0_k_b : Nat} {a0_k_pre a0_k_post : List Value} {a0_k_0_0v : Value} {a0_k_0_0 : (List ((List UInt8) × (List UInt8)))} {a0_k_0_1v : Value} {a0_k_0_1 : (List ((List UInt8) × Int))} {a0_k_1 : Int} {Q : (List (List UInt8)) → Prop} (hM0 : Models w0 K0) (h_a0_k_B : Bx kd_Sseal_Book w0 K0 a0_k_b a0_k_pre a0_k_post ((a0_k_0_0v, a0_k_0_1v), a0_k_1)) (h_a0_k_0_0 : Own kd_Sseal_note 90 w0 K0 a0_k_0_0 a0_k_0_0v) (h_a0_k_0_1 : Mp kd_a32_u8 (Kd.int .i64) w0 K0 a0_k_0_1 a0_k_0_1v) (h : AllNotes_VC a0_k_0_0 a0_k_0_1 a0_k_1 Q) : Calls Try.prog 24 #[(.pointer (some ⟨a0_k_b, a0_k_pre.length, none⟩))] w0 (fun e w' => ∃ (K' : Ghost) (r0 : Value) (o0 : (List (List UInt8))), e = .returned r0 ∧ Q o0 ∧ Ext NX w0 K0 w' K' ∧ Models w' K' ∧ Own kd_l_u8 39 w' K' o0 r0 ∧ (∀ g, ob r0 = some g → w0.heap.size ≤ g)) := by
  unfold AllNotes_VC at h
  have hE0 : Ext NX w0 K0 w0 K0 := Ext.refl _ _ _
  refine calls_gen fun R hR => ?_
  refine calls_env (args := [(.pointer (some ⟨a0_k_b, a0_k_pre.length, none⟩))]) Try.func24 rfl (Nat.le_of_ble_eq_true rfl) ?_
  refine WP_seq ?_
  refine WP_region ?_
  have hR4 : Own kd_l_u8 39 w0 K0 ([] : List (List UInt8)) (.slice none 0 0) := Own.nil
  refine WL_pure (.slice none 0 0) (R_as rfl) rfl rfl ?_
  refine WL_nil ?_
  refine WP_seq ?_
  refine WP_seq ?_
  refine WP_region ?_
  refine WL_pure (.pointer (some ⟨a0_k_b, a0_k_pre.length, none⟩)) (R_mv rfl) rfl rfl ?_
  refine WL_pure (.bool false) (R_peq rfl rfl Try.underlying26) rfl rfl ?_
  refine WL_nil ?_
  refine WP_cond false rfl (fun hc => by cases hc) (fun _ => ?_)
  refine WP_skip ?_
  refine WP_seq ?_
  refine WP_region ?_
  have hR5 : Own kd_l_u8 39 w0 K0 ([] : List (List UInt8)) (.slice none 0 0) := Own.nil
  refine WL_pure (.slice none 0 0) (R_as rfl) rfl rfl ?_
  refine WL_nil ?_
  refine WP_seq ?_
  refine WP_seq ?_
  refine WP_region ?_
  refine WL_pure (.pointer (some ⟨a0_k_b, a0_k_pre.length, none⟩)) (R_mv rfl) rfl rfl ?_
  refine WL_pure (.pointer (some ⟨a0_k_b, a0_k_pre.length, none⟩)) (R_nilck rfl) rfl rfl ?_
  refine WL_pure (.pointer (some ⟨a0_k_b, a0_k_pre.length + 0, none⟩)) (R_fa rfl Try.underlying32 rfl rfl ty30 rfl) rfl rfl ?_
  refine WL_pure (.pointer (some ⟨a0_k_b, a0_k_pre.length + 0 + 0, none⟩)) (R_fa rfl Try.underlying30 rfl rfl ty27r rfl) rfl rfl ?_
  refine WL_L hM0 (S_ldB (Foc.trans (Foc.fst kd_Sseal_notes (Kd.int .i64)) (Foc.fst Kd.rsl Kd.rmp)) rfl ty27r h_a0_k_B (by first | rfl | simp | omega) (fun h => h)) rfl rfl ?_
  rintro v6 (hV6 : Kd.rsl.V _ a0_k_0_0v _)
  obtain rfl := rw_form hV6
  refine WL_pure (.int .i64 (a0_k_0_0.length : Int)) (R_len rfl h_a0_k_0_0.V Try.underlying27) rfl rfl ?_
  refine WL_pure (.int .i64 0) (R_mv rfl) rfl rfl ?_
  refine WL_nil ?_
  refine WP_block ?_
  obtain ⟨I7, μ7, h0, h⟩ := h
  refine WP_loopE (ι := (List (List UInt8)) × Int) [3, 5, 14, 15, 16, 17, 18, 19, 20, 21, 22, 23, 24] (fun s l w => ∃ K u3, I7 s.1 s.2 ∧ l = [(3, u3), (14, (.int .i64 s.2))] ∧ Ext (fun c => ob (.slice none 0 0) = some c) w0 K0 w K ∧ Models w K ∧ (Kd.int .i64).wf s.2 ∧ Own kd_l_u8 39 w K s.1 u3 ∧ (∀ g, ob u3 = some g → ob (.slice none 0 0) = some g ∨ w0.heap.size ≤ g)) (fun s => μ7 s.1 s.2) (([] : List (List UInt8)), 0) [(3, (.slice none 0 0)), (14, (.int .i64 0))]
    ⟨K0, (.slice none 0 0), h0, rfl, Ext.refl _ _ _, hM0, (show (Kd.int .i64).wf 0 from by constructor <;> decide), hR5, (fun g hg => .inr (nilS hg))⟩ (by repeat (first | exact trivial | refine ⟨rfl, ?_⟩)) ?_
  rintro ⟨out7, i7⟩ l σ7 w8 ⟨K8, u3_7, hI, rfl, hX8, hM8, hw7_14, hL7_u3, ho7_u3⟩
  dsimp only at hI hw7_14 hL7_u3 ho7_u3
  have hE8 := hE0.comp hX8 (fun c hx hlt => (fun g hg _ => nilS hg) c hx hlt)
  have hR9 := (hR4.ext hX8 (fun g hg hx => (fun g hg hx => (fun g hg _ => nilS hg) g hx hg) g hg hx))
  have h := h out7 i7 hI hL7_u3.wf hw7_14
  refine WP_seq ?_
  refine WP_region ?_
  refine WL_pure (.bool (decide (i7 < (a0_k_0_0.length : Int)))) (R_lss rfl rfl) rfl rfl ?_
  refine WL_nil ?_
  refine WP_seq ?_
  refine WP_cond (decide (i7 < (a0_k_0_0.length : Int))) rfl (fun hc10 => ?_) (fun hc10 => ?_)
  · have hd10 : i7 < (a0_k_0_0.length : Int) := dec_t hc10
    have h := h.1 hd10
    refine WP_skip ?_
    refine WP_seq ?_
    refine WP_block ?_
    refine WP_seq ?_
    refine WP_region ?_
    obtain ⟨hp12, h⟩ := h
    refine WL_P (S_ixs rfl (h_a0_k_0_0.V.mono hX8.le) rfl Try.underlying27 ty90 hp12.1 hp12.2) rfl rfl ?_
    rintro b11 o11 hP11
    refine WL_L hM8 (S_ld rfl ty90 hP11) rfl rfl ?_
    rintro v14 (hV14 : kd_Sseal_note.V _ (ix a0_k_0_0 i7) _)
    refine WL_eff rfl rfl (St_B (S_alloc hM8 ty90) ?_)
    rintro b16 w16 (hB16 : Bx kd_Sseal_note _ _ _ _ _ ((List.replicate 32 0), ([] : List UInt8))) hS16 hM16 hge16
    have hE16 := hE8.andN hS16
    have hR18 := (h_a0_k_B.ext hX8 (fun hx => (hR5.box h_a0_k_B) hx))
    refine WL_eff rfl rfl (St_St (S_stB (Foc.id _) hM16 rfl rfl (hV14.mono hS16.le) ty90 hB16 (by first | rfl | simp | omega)) ?_)
    rintro w19 (hB19 : Bx kd_Sseal_note _ _ b16 [] [] (ix a0_k_0_0 i7)) hS19 hM19
    have hE19 := hE16.comp hS19 (fun c hx hlt => (by subst hx; exact (fun hlt => absurd hlt (Nat.not_lt.2 (Nat.le_trans hE8.size hge16))) hlt))
    refine WL_nil ?_
    refine WP_region ?_
    refine WL_pure u3_7 (R_mv rfl) rfl rfl ?_
    refine WL_pure (.pointer (some ⟨b16, 0 + 32, none⟩)) (R_fa rfl Try.underlying90 rfl rfl ty39 rfl) rfl rfl ?_
    refine WL_L hM19 (S_ldB (Foc.snd kd_a32_u8 kd_l_u8) rfl ty39 hB19 (by first | rfl | simp | omega) (fun h => h)) rfl rfl ?_
    rintro v20 (hV20 : kd_l_u8.V _ ((ix a0_k_0_0 i7).2) _)
    have hR22 := ((h_a0_k_0_0.ext hX8 (fun g hg hx => (Own.ne_type h_a0_k_0_0 hR5 (by decide)) g hg hx)).extN hS16)
    have hR23 := (hR22.ext hS19 (fun g hg hx => (fun g hg hx => hR22.box hB16 (hg.trans (congrArg some hx))) g hg hx))
    have hR24 := ((h_a0_k_0_1.ext hX8 (fun g hg hx => (fun g hg hx => h_a0_k_0_1.own hR5 g hx hg) g hg hx)).extN hS16)
    have hR25 := (hR24.ext hS19 (fun g hg hx => (fun g hg hx => hR24.box hB16 (hg.trans (congrArg some hx))) g hg hx))
    have hR26 := ((h_a0_k_B.ext hX8 (fun hx => (hR5.box h_a0_k_B) hx)).extN hS16)
    have hR27 := (hR26.ext hS19 (fun hx => (fun he => (ne_new hge16 hR18.lt) he.symm) hx))
    have hR28 := (hR9.extN hS16)
    have hR29 := (hR28.ext hS19 (fun g hg hx => (fun g hg hx => hR28.box hB16 (hg.trans (congrArg some hx))) g hg hx))
    have hR30 := (hL7_u3.extN hS16)
    have hR31 := (hR30.ext hS19 (fun g hg hx => (fun g hg hx => hR30.box hB16 (hg.trans (congrArg some hx))) g hg hx))
    obtain ⟨hp33, h⟩ := h
    refine WL_eff rfl rfl (St_call (R_call Try.call46 rfl) ((Clone_c hM19 hV20 hp33).mono ?_))
    rintro _ w32 ⟨K32, v32_0, rfl, hS32, hM32, hO32_0, hg32_0⟩
    refine ⟨v32_0, rfl, ?_⟩
    have hE32 := hE19.andN hS32
    have h := h hO32_0.wf
    refine WL_eff rfl rfl (St_S0 (S_bsl (k := kd_l_u8) (l := [(((ix a0_k_0_0 i7).2), v32_0)]) hM32 rfl (by intro p hp; simp only [List.mem_cons, List.not_mem_nil, or_false] at hp; subst hp; exact hO32_0.V) rfl Try.underlying38 ty39 rfl rfl) ?_)
    rintro v35 w35 K35 (hO35 : Own kd_l_u8 39 w35 K35 [((ix a0_k_0_0 i7).2)] v35) hS35 hM35 hg35
    have hE35 := hE32.andN hS35
    have hR37 := (hR29.extN hS32)
    have hR38 := (hR31.extN hS32)
    have hR39 := ((hR31.extN hS32).extN hS35)
    obtain ⟨hp41, h⟩ := h
    refine WL_eff rfl rfl (St_S (S_app hM35 rfl hR39 rfl hO35.V Try.underlying38 ty39 rfl hp41) ?_)
    rintro v40 w40 K40 hO40 hS40 hM40 hob40
    have hE40 := hE35.comp hS40 (fun c hx hlt => (fun g hg hlt => absurd hlt (Nat.not_lt.2 ((fun g hg => (ho7_u3 g hg).elim (fun hx => (fun g hg => nilS hg) g hx) (fun hx => Nat.le_trans hE0.size hx)) g hg))) c hx hlt)
    have hR42 := ((hR29.extN hS32).extN hS35)
    have hR43 := (hR42.ext hS40 (fun g hg hx => (fun g hg hx => (fun g hg hy => (ho7_u3 g hg).elim (fun hz => (fun g hg _ => nilS hg) g hz hy) (fun hz => absurd (hR4.lt _ hy) (Nat.not_lt.2 hz))) g hx hg) g hg hx))
    have hR44 := (hO35.ext hS40 (fun g hg hx => (fun g hg hx => absurd (hR38.lt _ hx) (Nat.not_lt.2 (hg35 g hg))) g hg hx))
    have hf40 : ∀ g, ob v40 = some g → w0.heap.size ≤ g := fun g hg => by rcases hob40 with hq | hq <;> rw [hq] at hg; exact (fun g hg => (ho7_u3 g hg).elim (fun hx => (fun g hg => nilS hg) g hx) (fun hx => Nat.le_trans hE0.size hx)) g hg; cases hg; exact hE35.size
    have hs46 : ∀ g, ob v40 = some g → ¬ (ob v35 = some g) := fun g hg hx => by rcases hob40 with hq | hq <;> rw [hq] at hg; exact (fun g hg hx => (fun g hg hx => absurd (hR38.lt _ hx) (Nat.not_lt.2 (hg35 g hg))) g hx hg) g hg hx; cases hg; exact absurd (hO35.lt _ hx) (Nat.not_lt.2 (Nat.le_refl _))
    refine WL_pure v40 (R_as rfl) rfl rfl ?_
    refine WL_nil ?_
    refine WP_region ?_
    refine WL_pure (.int .i64 (i7 + 1)) (R_inc rfl rfl hw7_14 hd10 (len_wf ((h_a0_k_0_0).V).wf.1)) rfl rfl ?_
    refine WL_pure (.int .i64 (i7 + 1)) (R_mv rfl) rfl rfl ?_
    refine WL_nil ?_
    refine BackQ.mk ((out7 ++ [((ix a0_k_0_0 i7).2)]), (i7 + 1)) [(3, v40), (14, (.int .i64 (i7 + 1)))] ?_ ?_ ?_ ?_
    rotate_left
    · exact h.2
    · repeat (first | exact Off.lay0 rfl | refine Off.updO ?_ rfl _ | refine Off.updN ?_ _ | refine Off.lay ?_ rfl)
    · repeat (first | exact trivial | refine ⟨rfl, ?_⟩)
    exact ⟨K40, v40, h.1, rfl, (((((((Ext.refl _ _ _).comp hX8 (fun c hx hlt => (absurd hlt (Nat.not_lt.2 (nilS hx))))).andN hS16).comp hS19 (fun c hx hlt => (by subst hx; exact absurd hlt (Nat.not_lt.2 (Nat.le_trans hE8.size hge16))))).andN hS32).andN hS35).comp hS40 (fun c hx hlt => (absurd hlt (Nat.not_lt.2 ((ho7_u3 c hx).elim (fun hz => (nilS hz)) (fun hz => (Nat.le_trans (Nat.le_refl _) hz))))))), hM40, (inc_wf hw7_14 hd10 (len_wf ((h_a0_k_0_0).V).wf.1)), hO40, (fun g hg => .inr (by have hg : ob v40 = some g := hg; rcases hob40 with hq | hq <;> rw [hq] at hg; exact ((ho7_u3 g hg).elim (fun hz => (nilS hz)) (fun hz => (Nat.le_trans (Nat.le_refl _) hz))); cases hg; exact hE35.size))⟩
  · have hd10 : ¬ (i7 < (a0_k_0_0.length : Int)) := dec_f hc10
    have h := h.2 hd10
    refine WP_exit ?_
    refine WP_seq ?_
    refine WP_region ?_
    refine WL_pure u3_7 (R_mv rfl) rfl rfl ?_
    refine WL_pure u3_7 (R_as rfl) rfl rfl ?_
    refine WL_nil ?_
    refine WP_ret ?_
    exact endR_ret hR (v := u3_7) (resE_1 rfl rfl) ⟨K8, u3_7, out7, rfl, h, hE8, hM8, hL7_u3, (fun g hg => (ho7_u3 g hg).elim (fun hx => (fun g hg => nilS hg) g hx) (fun hx => Nat.le_trans hE0.size hx))⟩
theorem AllNotes_c {w0 : World} {K0 : Ghost} {a0_k_b : Nat} {a0_k_pre a0_k_post : List Value} {a0_k_0_0v : Value} {a0_k_0_0 : (List ((List UInt8) × (List UInt8)))} {a0_k_0_1v : Value} {a0_k_0_1 : (List ((List UInt8) × Int))} {a0_k_1 : Int} (hM0 : Models w0 K0) (h_a0_k_B : Bx kd_Sseal_Book w0 K0 a0_k_b a0_k_pre a0_k_post ((a0_k_0_0v, a0_k_0_1v), a0_k_1)) (h_a0_k_0_0 : Own kd_Sseal_note 90 w0 K0 a0_k_0_0 a0_k_0_0v) (h_a0_k_0_1 : Mp kd_a32_u8 (Kd.int .i64) w0 K0 a0_k_0_1 a0_k_0_1v) (hp : a0_k_0_0.length * 24 ≤ 140737488355328 ∧ ∀ x ∈ a0_k_0_0, x.2.length ≤ 140737488355328) : Calls Try.prog 24 #[(.pointer (some ⟨a0_k_b, a0_k_pre.length, none⟩))] w0 (fun e w' => ∃ (K' : Ghost) (r0 : Value), e = .returned r0 ∧ Ext NX w0 K0 w' K' ∧ Models w' K' ∧ Own kd_l_u8 39 w' K' (a0_k_0_0.map Prod.snd) r0 ∧ (∀ g, ob r0 = some g → w0.heap.size ≤ g)) := by
  refine (AllNotes_walk hM0 h_a0_k_B h_a0_k_0_0 h_a0_k_0_1 (AllNotes_ok hp)).mono ?_
  rintro _ w' ⟨K', r0, o0, rfl, rfl, hF⟩
  exact ⟨K', r0, rfl, hF⟩
end Go.Proofs.Ytfbhiilolpamaaa
