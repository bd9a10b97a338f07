/- Each function that stands here: what its call must answer for (_VC), that it does (_ok), the walk through its code (_walk), its contract (_c). -/
import Derived.Test.YtfbhiilolpamaaaS11
import Derived.Test.YtfbhiilolpamaaaChecked
set_option linter.unusedVariables false
set_option maxRecDepth 100000
set_option maxHeartbeats 2000000
namespace Go.Proofs.Ytfbhiilolpamaaa
open Go Go.RowKit Go.Inc
def SealGrows_VC (a0_l : (List (Int × (Int × ((List (List UInt8)) × ((List UInt8) × (List UInt8))))))) (a1_kind : Int) (a2_parts : (List (List UInt8))) (Q : Bool → Prop) : Prop :=
  ((([] : List (Int × (Int × ((List (List UInt8)) × ((List UInt8) × (List UInt8)))))).length + a0_l.length) * 96 ≤ 140737488355328) ∧ (((a0_l.length + [(0, 0, a2_parts, (List.replicate 32 0), ([] : List UInt8))].length) * 96 ≤ 140737488355328) ∧ (((¬ light (a0_l ++ [(0, 0, a2_parts, (List.replicate 32 0), ([] : List UInt8))])) → Q true) ∧ ((¬ (¬ light (a0_l ++ [(0, 0, a2_parts, (List.replicate 32 0), ([] : List UInt8))]))) → ∃ (I30 : Bool → Int → BookA → Prop) (μ30 : Bool → Int → BookA → Nat), I30 false 0 (some ([], 0)) ∧ ∀ (i30 : Bool) (i30' : Int) (k30 : BookA), I30 i30 i30' k30 → ((Kd.int .i64).wf i30') → (((i30' < (a0_l.length : Int)) → (bookFits k30) ∧ ((kd_l_l_u8.wf (bookAll k30)) → (((Kd.int .i64).wf (bookCalls k30)) → ((0 ≤ i30' ∧ i30' < (a0_l.length : Int)) ∧ (∃ (J55 : Int → (List UInt8) → BookA → Prop), ((((band .i64 ((ix a0_l i30').1) 1) = 1) → (0 ≤ i30' ∧ i30' < (a0_l.length : Int)) ∧ ((0 ≤ i30' ∧ i30' < (a0_l.length : Int)) ∧ ((((ix a0_l i30').2.2.2.2).length ≤ 140737488355328 ∧ bookRoom k30) ∧ (J55 (bookCalls k30) ((ix a0_l i30').2.2.2.1) (bookNote k30 ((ix a0_l i30').2.2.2.1) ((ix a0_l i30').2.2.2.2)))))) ∧ ((¬ ((band .i64 ((ix a0_l i30').1) 1) = 1)) → (0 ≤ i30' ∧ i30' < (a0_l.length : Int)) ∧ ((0 ≤ i30' ∧ i30' < (a0_l.length : Int)) ∧ ((1 + blobRoom ((ix a0_l i30').2.2.1) ≤ 140737488355328 ∧ bookRoom k30) ∧ ((kd_a32_u8.wf (sealOf ((ix a0_l i30').2.1) ((ix a0_l i30').2.2.1))) → (J55 (IntKind.i64.wrap ((bookCalls k30) + 1)) (sealOf ((ix a0_l i30').2.1) ((ix a0_l i30').2.2.1)) (bookOf k30 ((ix a0_l i30').2.1) ((ix a0_l i30').2.2.1)))))))) ∧ ∀ (calls55 : Int) (b55 : (List UInt8)) (k55 : BookA), J55 calls55 b55 k55 → ((Kd.int .i64).wf calls55) → (kd_a32_u8.wf b55) → ((bookFits k55) ∧ ((kd_l_l_u8.wf (bookAll k55)) → ((bookFits k55) ∧ ((kd_l_u8.wf (bookFind k55 b55)) → (((¬ ((((¬ ((bookHas k55 b55) = true)) ∨ ((bookCalls k55) ≠ calls55)) ∨ (((bookAll k55).length : Int) < ((bookAll k30).length : Int))) ∨ ((IntKind.i64.wrap (((bookAll k30).length : Int) + 1)) < ((bookAll k55).length : Int)))) → ((0 ≤ ((bookAll k30).length : Int) ∧ ((bookAll k30).length : Int) ≤ ((bookAll k55).length : Int)) ∧ (True))) ∧ (((((((¬ ((bookHas k55 b55) = true)) ∨ ((bookCalls k55) ≠ calls55)) ∨ (((bookAll k55).length : Int) < ((bookAll k30).length : Int))) ∨ ((IntKind.i64.wrap (((bookAll k30).length : Int) + 1)) < ((bookAll k55).length : Int))) ∨ (¬ (((bookAll k55).take ((bookAll k30).length : Int).toNat) = (bookAll k30)))) → Q false) ∧ ((¬ (((((¬ ((bookHas k55 b55) = true)) ∨ ((bookCalls k55) ≠ calls55)) ∨ (((bookAll k55).length : Int) < ((bookAll k30).length : Int))) ∨ ((IntKind.i64.wrap (((bookAll k30).length : Int) + 1)) < ((bookAll k55).length : Int))) ∨ (¬ (((bookAll k55).take ((bookAll k30).length : Int).toNat) = (bookAll k30))))) → I30 i30 (IntKind.i64.wrap (i30' + 1)) k55 ∧ μ30 i30 (IntKind.i64.wrap (i30' + 1)) k55 < μ30 i30 i30' k30)))))))))))) ∧ ((¬ (i30' < (a0_l.length : Int))) → (1 + blobRoom a2_parts ≤ 140737488355328 ∧ bookRoom k30) ∧ ((kd_a32_u8.wf (sealOf a1_kind a2_parts)) → ((bookFits (bookOf k30 a1_kind a2_parts)) ∧ ((kd_l_l_u8.wf (bookAll (bookOf k30 a1_kind a2_parts))) → (((Kd.int .i64).wf (bookCalls (bookOf k30 a1_kind a2_parts))) → ((1 + blobRoom a2_parts ≤ 140737488355328 ∧ bookRoom (bookOf k30 a1_kind a2_parts)) ∧ ((kd_a32_u8.wf (sealOf a1_kind a2_parts)) → ((((sealOf a1_kind a2_parts) = (sealOf a1_kind a2_parts)) → ((bookFits (bookOf (bookOf k30 a1_kind a2_parts) a1_kind a2_parts)) ∧ ((kd_l_l_u8.wf (bookAll (bookOf (bookOf k30 a1_kind a2_parts) a1_kind a2_parts))) → (True)))) ∧ (Q (decide (((((sealOf a1_kind a2_parts) = (sealOf a1_kind a2_parts)) ∧ ((bookAll (bookOf (bookOf k30 a1_kind a2_parts) a1_kind a2_parts)) = (bookAll (bookOf k30 a1_kind a2_parts)))) ∧ ((bookCalls (bookOf (bookOf k30 a1_kind a2_parts) a1_kind a2_parts)) = (IntKind.i64.wrap ((bookCalls (bookOf k30 a1_kind a2_parts)) + 1)))) ∧ (true = true))))))))))))))))
theorem SealGrows_ok {a0_l : (List (Int × (Int × ((List (List UInt8)) × ((List UInt8) × (List UInt8))))))} {a1_kind : Int} {a2_parts : (List (List UInt8))} (w_0 : kd_l_Sincipitlaw03_Act.wf a0_l) (w_1 : (Kd.int .i64).wf a1_kind) (w_2 : kd_l_l_u8.wf a2_parts) (hp : a0_l.length ≤ 1048576) : SealGrows_VC a0_l a1_kind a2_parts (fun o0 => o0 = true) := by
  unfold SealGrows_VC
  refine ⟨by simp; omega, by simp; omega, fun _ => rfl, fun hl => ?_⟩
  have hl := Decidable.not_not.1 hl
  have hlen : a0_l.length ≤ 199 := by have := hl.1; simp at this; omega
  have rp := (room_light hl (a := (0, 0, a2_parts, List.replicate 32 0, [])) (by simp)).1
  replace rp : blobRoom a2_parts ≤ 60000 + 9 * 500 := rp
  have ra : ∀ i : Int, 0 ≤ i → i < (a0_l.length : Int) → blobRoom (ix a0_l i).2.2.1 ≤ 60000 + 9 * 500 ∧ (ix a0_l i).2.2.2.2.length ≤ 60000 := fun i h0 h1 => room_light hl (List.mem_append.2 (.inl (ix_mem' h0 h1)))
  have fit : ∀ (ls : List Nt) (c : Int), ls.length ≤ 300 → (∀ z ∈ ls, z.2.length ≤ 70000) → bookFits (some (ls, c)) := fun ls c h1 h2 => by
    rintro y h
    cases h
    exact ⟨by simp only; omega, fun z hz => by have := h2 z hz; omega⟩
  have room : ∀ (ls : List Nt) (c : Int), ls.length ≤ 300 → bookRoom (some (ls, c)) := fun ls c h1 => by
    rintro y h
    cases h
    simp only; omega
  have wrap1 : ∀ c : Int, 0 ≤ c → c ≤ 300 → IntKind.i64.wrap (c + 1) = c + 1 := fun c h0 h1 => wrap_id (wf64 (by omega) (by omega))
  refine ⟨fun _ i k => 0 ≤ i ∧ i ≤ (a0_l.length : Int) ∧ ∃ ls c, k = some (ls, c) ∧ (ls.length : Int) ≤ i ∧ 0 ≤ c ∧ c ≤ i ∧ ∀ z ∈ ls, z.2.length ≤ 70000, fun _ i _ => ((a0_l.length : Int) - i).toNat,
    ⟨by omega, by omega, [], 0, rfl, by simp, by omega, by omega, by simp⟩, ?_⟩
  rintro i30 i k ⟨h0, h1, ls, c, rfl, hc1, hc2, hc3, hz⟩ hwi
  refine ⟨fun hlt => ⟨fit _ _ (by omega) hz, fun _ _ => ⟨⟨h0, hlt⟩, ?_⟩⟩, fun hge => ?_⟩
  · obtain ⟨r1, r2⟩ := ra i h0 hlt
    refine ⟨fun c' s k' => ∃ b, k' = some (addL ls s b, c') ∧ b.length ≤ 70000 ∧ 0 ≤ c' ∧ c' ≤ i + 1,
      ⟨fun _ => ⟨⟨h0, hlt⟩, ⟨h0, hlt⟩, ⟨by omega, room _ _ (by omega)⟩, ⟨_, rfl, by omega, hc2, by simp only [bookCalls]; omega⟩⟩,
       fun _ => ⟨⟨h0, hlt⟩, ⟨h0, hlt⟩, ⟨by omega, room _ _ (by omega)⟩, fun _ => ⟨preimage _ _, rfl, ?_, ?_, ?_⟩⟩⟩, ?_⟩
    · have := preimage_len (ix a0_l i).2.1 (l := (ix a0_l i).2.2.1) (by omega)
      omega
    · simp only [bookCalls]; rw [wrap1 c hc2 (by omega)]; omega
    · simp only [bookCalls]; rw [wrap1 c hc2 (by omega)]; omega
    · rintro c' s k' ⟨b, rfl, hb, hc0, hc'⟩ _ _
      have l1 := addL_len ls s b
      have l2 := addL_ge ls s b
      have hz' : ∀ z ∈ addL ls s b, z.2.length ≤ 70000 := fun z hz2 => by
        rcases addL_mem hz2 with h | h
        · exact hz z h
        · rw [h]; exact hb
      have hf := fit (addL ls s b) c' (by omega) hz'
      have w1 : IntKind.i64.wrap ((ls.length : Int) + 1) = (ls.length : Int) + 1 := wrap1 _ (by omega) (by omega)
      have hhas : bookHas (some (addL ls s b, c')) s = true := addL_has ls s b
      have htk : ((addL ls s b).map Prod.snd).take ls.length = ls.map Prod.snd := addL_take ls s b
      have good : ¬ (((((¬ (bookHas (some (addL ls s b, c')) s = true)) ∨ bookCalls (some (addL ls s b, c')) ≠ c') ∨ ((bookAll (some (addL ls s b, c'))).length : Int) < ((bookAll (some (ls, c))).length : Int)) ∨ IntKind.i64.wrap (((bookAll (some (ls, c))).length : Int) + 1) < ((bookAll (some (addL ls s b, c'))).length : Int)) ∨ ¬ ((bookAll (some (addL ls s b, c'))).take ((bookAll (some (ls, c))).length : Int).toNat = bookAll (some (ls, c)))) := by
        rw [hhas]
        simp only [bookAll, bookCalls, List.length_map, Int.toNat_natCast, htk, w1, not_true_eq_false, ne_eq, or_false, false_or]
        omega
      refine ⟨hf, fun _ => ⟨hf, fun _ => ⟨fun _ => ⟨⟨by omega, ?_⟩, trivial⟩, fun hbad => (good hbad).elim, fun _ => ⟨⟨?_, ?_, _, _, rfl, ?_, hc0, ?_, hz'⟩, ?_⟩⟩⟩⟩
      · simp only [bookAll, List.length_map]; omega
      · rw [wrap1 i h0 (by omega)]; omega
      · rw [wrap1 i h0 (by omega)]; omega
      · rw [wrap1 i h0 (by omega)]; omega
      · rw [wrap1 i h0 (by omega)]; omega
      · show ((a0_l.length : Int) - IntKind.i64.wrap (i + 1)).toNat < ((a0_l.length : Int) - i).toNat
        rw [wrap1 i h0 (by omega)]; omega
  · have e1 : bookOf (some (ls, c)) a1_kind a2_parts = some (addL ls (sealOf a1_kind a2_parts) (preimage a1_kind a2_parts), c + 1) := by simp only [bookOf, Option.map_some, wrap1 c hc2 (by omega)]
    have e2 : bookOf (some (addL ls (sealOf a1_kind a2_parts) (preimage a1_kind a2_parts), c + 1)) a1_kind a2_parts = some (addL ls (sealOf a1_kind a2_parts) (preimage a1_kind a2_parts), c + 1 + 1) := by
      simp only [bookOf, Option.map_some, wrap1 (c + 1) (by omega) (by omega), addL_again]
    rw [e1, e2]
    have l1 := addL_len ls (sealOf a1_kind a2_parts) (preimage a1_kind a2_parts)
    have hpl := preimage_len a1_kind (l := a2_parts) (by omega)
    have hz' : ∀ z ∈ addL ls (sealOf a1_kind a2_parts) (preimage a1_kind a2_parts), z.2.length ≤ 70000 := fun z hz2 => by
      rcases addL_mem hz2 with h | h
      · exact hz z h
      · rw [h]; simp only; omega
    refine ⟨⟨by omega, room _ _ (by omega)⟩, fun _ => ⟨fit _ _ (by omega) hz', fun _ _ => ⟨⟨by omega, room _ _ (by omega)⟩, fun _ => ⟨fun _ => ⟨fit _ _ (by omega) hz', fun _ => trivial⟩, ?_⟩⟩⟩⟩
    simp [bookAll, bookCalls, wrap1 (c + 1) (by omega) (by omega)]

theorem SealGrows_walk {w0 : World} {K0 : Ghost} {a0_l_v : Value} {a0_l : (List (Int × (Int × ((List (List UInt8)) × ((List UInt8) × (List UInt8))))))} {a1_kind_v : Value} {a1_kind : Int} {a2_parts_v : Value} {a2_parts : (List (List UInt8))} {Q : Bool → Prop} (hM0 : Models w0 K0) (h_a0_l : kd_l_Sincipitlaw03_Act.V K0 a0_l a0_l_v) (h_a1_kind : (Kd.int .i64).V K0 a1_kind a1_kind_v) (h_a2_parts : kd_l_l_u8.V K0 a2_parts a2_parts_v) (h : SealGrows_VC a0_l a1_kind a2_parts Q) : Calls Try.prog 8 #[a0_l_v, a1_kind_v, a2_parts_v] w0 (fun e w' => ∃ (K' : Ghost) (r0 : Value) (o0 : Bool), e = .returned r0 ∧ Q o0 ∧ Ext NX w0 K0 w' K' ∧ Models w' K' ∧ Kd.bool.V K' o0 r0) := by
  unfold SealGrows_VC at h
  obtain rfl := int_form h_a1_kind
  have hE0 : Ext NX w0 K0 w0 K0 := Ext.refl _ _ _
  refine calls_gen fun R hR => ?_
  refine calls_env (args := [a0_l_v, (.int .i64 a1_kind), a2_parts_v]) Try.func8 rfl (Nat.le_of_ble_eq_true rfl) ?_
  refine WP_seq ?_
  refine WP_region ?_
  refine WL_pure (.bool false) (R_as rfl) rfl rfl ?_
  refine WL_nil ?_
  refine WP_seq ?_
  refine WP_seq ?_
  refine WP_region ?_
  refine WL_eff rfl rfl (St_S0 (S_bsl (k := kd_Sincipitlaw03_Act) (l := []) hM0 rfl (by intro p hp; cases hp) rfl Try.underlying22 ty41 rfl rfl) ?_)
  rintro v3 w3 K3 (hO3 : Own kd_Sincipitlaw03_Act 41 w3 K3 ([] : List (Int × (Int × ((List (List UInt8)) × ((List UInt8) × (List UInt8)))))) v3) hS3 hM3 hg3
  have hE3 := hE0.andN hS3
  refine WL_pure a0_l_v (R_mv rfl) rfl rfl ?_
  obtain ⟨hp6, h⟩ := h
  refine WL_eff rfl rfl (St_S (S_app hM3 rfl hO3 rfl (h_a0_l.mono hS3.le) Try.underlying22 ty41 rfl hp6) ?_)
  rintro v5 w5 K5 hO5 hS5 hM5 hob5
  have hE5 := hE3.comp hS5 (fun c hx hlt => (fun g hg hlt => absurd hlt (Nat.not_lt.2 ((fun g hg => Nat.le_trans hE0.size (hg3 g hg)) g hg))) c hx hlt)
  rw [List.nil_append] at hO5
  have hf5 : ∀ g, ob v5 = some g → w0.heap.size ≤ g := fun g hg => by rcases hob5 with hq | hq <;> rw [hq] at hg; exact (fun g hg => Nat.le_trans hE0.size (hg3 g hg)) g hg; cases hg; exact hE3.size
  refine WL_pure a2_parts_v (R_mv rfl) rfl rfl ?_
  refine WL_V (S_bld (K := K5) (vs := [(2, a2_parts_v)]) (Z := (0, 0, a2_parts, (List.replicate 32 0), ([] : List UInt8))) ty41 rfl Try.underlying41 (fs41 Try.underlying41) rfl (Parts.cons rfl rfl ty38 (Foc.trans (Foc.snd (Kd.int .i64) (Kd.pr (Kd.int .i64) (Kd.pr kd_l_l_u8 (Kd.pr kd_a32_u8 kd_l_u8)))) (Foc.trans (Foc.snd (Kd.int .i64) (Kd.pr kd_l_l_u8 (Kd.pr kd_a32_u8 kd_l_u8))) (Foc.fst kd_l_l_u8 (Kd.pr kd_a32_u8 kd_l_u8)))) (h_a2_parts.mono (hS3.le.trans hS5.le)) Parts.nil)) rfl rfl ?_
  rintro v8 (hV8 : kd_Sincipitlaw03_Act.V _ (0, 0, a2_parts, (List.replicate 32 0), ([] : List UInt8)) _)
  refine WL_eff rfl rfl (St_S0 (S_bsl (k := kd_Sincipitlaw03_Act) (l := [((0, 0, a2_parts, (List.replicate 32 0), ([] : List UInt8)), v8)]) hM5 rfl (by intro p hp; simp only [List.mem_cons, List.not_mem_nil, or_false] at hp; subst hp; exact hV8) rfl Try.underlying22 ty41 rfl rfl) ?_)
  rintro v10 w10 K10 (hO10 : Own kd_Sincipitlaw03_Act 41 w10 K10 [(0, 0, a2_parts, (List.replicate 32 0), ([] : List UInt8))] v10) hS10 hM10 hg10
  have hE10 := hE5.andN hS10
  have hR12 := (hO5.extN hS10)
  obtain ⟨hp14, h⟩ := h
  refine WL_eff rfl rfl (St_S (S_app hM10 rfl hR12 rfl hO10.V Try.underlying22 ty41 rfl hp14) ?_)
  rintro v13 w13 K13 hO13 hS13 hM13 hob13
  have hE13 := hE10.comp hS13 (fun c hx hlt => (fun g hg hlt => absurd hlt (Nat.not_lt.2 (hf5 g hg))) c hx hlt)
  have hR15 := (hO10.ext hS13 (fun g hg hx => (fun g hg hx => absurd (hO5.lt _ hx) (Nat.not_lt.2 (hg10 g hg))) g hg hx))
  have hf13 : ∀ g, ob v13 = some g → w0.heap.size ≤ g := fun g hg => by rcases hob13 with hq | hq <;> rw [hq] at hg; exact hf5 g hg; cases hg; exact hE10.size
  have hs17 : ∀ g, ob v13 = some g → ¬ (ob v10 = some g) := fun g hg hx => by rcases hob13 with hq | hq <;> rw [hq] at hg; exact (fun g hg hx => (fun g hg hx => absurd (hO5.lt _ hx) (Nat.not_lt.2 (hg10 g hg))) g hx hg) g hg hx; cases hg; exact absurd (hO10.lt _ hx) (Nat.not_lt.2 (Nat.le_refl _))
  refine WL_eff rfl rfl (St_call (R_call Try.call13 rfl) ((heavy_c hM13 hO13.V).mono ?_))
  rintro _ w18 ⟨K18, v18_0, rfl, hS18, hM18, hV18_0⟩
  refine ⟨v18_0, rfl, ?_⟩
  have hE18 := hE13.andN hS18
  obtain rfl := bool_form hV18_0
  refine WL_nil ?_
  refine WP_cond (decide (¬ light (a0_l ++ [(0, 0, a2_parts, (List.replicate 32 0), ([] : List UInt8))]))) rfl (fun hc19 => ?_) (fun hc19 => ?_)
  · have hd19 : ¬ light (a0_l ++ [(0, 0, a2_parts, (List.replicate 32 0), ([] : List UInt8))]) := dec_t hc19
    have h := h.1 hd19
    refine WP_seq ?_
    refine WP_region ?_
    refine WL_eff rfl rfl (St_call (R_call Try.call14 rfl) ((awake3_c hM18 ).mono ?_))
    rintro _ w20 ⟨K20, v20_0, rfl, hS20, hM20, hV20_0⟩
    refine ⟨v20_0, rfl, ?_⟩
    have hE20 := hE18.andN hS20
    obtain rfl := bool_form hV20_0
    refine WL_pure (.bool true) (R_as rfl) rfl rfl ?_
    refine WL_nil ?_
    refine WP_ret ?_
    exact endR_ret hR (v := (.bool true)) (resE_1 rfl rfl) ⟨K20, (.bool true), true, rfl, h, hE20, hM20, bool_V⟩
  · have hd19 : ¬ (¬ light (a0_l ++ [(0, 0, a2_parts, (List.replicate 32 0), ([] : List UInt8))])) := dec_f hc19
    have h := h.2 hd19
    refine WP_skip ?_
    refine WP_seq ?_
    refine WP_region ?_
    refine WL_V (S_bld (K := K18) (vs := []) (Z := (((.slice none 0 0), (.map none)), 0)) ty32 rfl Try.underlying32 (fs32 Try.underlying32) rfl Parts.nil) rfl rfl ?_
    rintro v21 (hV21 : kd_Sseal_Book.V _ (((.slice none 0 0), (.map none)), 0) _)
    refine WL_eff rfl rfl (St_B (S_box hM18 rfl hV21) ?_)
    rintro b23 w23 (hB23 : Bx kd_Sseal_Book _ _ _ _ _ (((.slice none 0 0), (.map none)), 0)) hS23 hM23 hge23
    have hE23 := hE18.andN hS23
    have hR25 : Own kd_Sseal_note 90 w23 K18 ([] : List ((List UInt8) × (List UInt8))) (.slice none 0 0) := Own.nil
    have hR26 : Mp kd_a32_u8 (Kd.int .i64) w23 K18 ([] : List ((List UInt8) × Int)) (.map none) := Or.inl ⟨rfl, rfl⟩
    obtain ⟨F27, hR27, hn27⟩ : ∃ F, BookR w23 K18 (.pointer (some ⟨b23, 0, none⟩)) F (some ([], 0)) ∧ ∀ g, F g → w18.heap.size ≤ g := ⟨_, BookE.new hB23, fun g hg => (show g = b23 from hg) ▸ hge23⟩
    have hR28 := (hR15.extN hS18)
    have hR29 := (hO13.extN hS18)
    refine WL_pure (.pointer (some ⟨b23, 0, none⟩)) (R_as rfl) rfl rfl ?_
    refine WL_nil ?_
    refine WP_seq ?_
    refine WP_seq ?_
    refine WP_region ?_
    refine WL_pure (.int .i64 0) (R_as rfl) rfl rfl ?_
    refine WL_nil ?_
    refine WP_block ?_
    obtain ⟨I30, μ30, h0, h⟩ := h
    refine WP_loopE (ι := Bool × Int × BookA) [6, 8, 9, 10, 11, 12, 13, 14, 29, 30, 31, 32, 33, 34, 35, 36, 37, 38, 39, 40, 41, 42, 43, 44, 45, 46, 47, 48, 49, 50, 51, 52, 53, 54, 55, 56, 57, 58, 59, 60, 61, 62, 63, 64, 65, 66, 67, 68, 69, 70, 71, 72, 73, 74, 75, 76, 77, 78, 79, 80, 81, 82, 83, 84, 85, 86, 87, 88, 89, 90, 91, 92, 93, 94, 95, 96, 97, 98, 99, 100, 101, 102, 103, 104, 105, 106, 107, 108, 109, 110, 111, 112] (fun s l w => ∃ K F24, I30 s.1 s.2.1 s.2.2 ∧ l = [(6, (.bool s.1)), (8, (.int .i64 s.2.1))] ∧ Ext (fun c => F27 c) w23 K18 w K ∧ Models w K ∧ (Kd.int .i64).wf s.2.1 ∧ BookR w K (.pointer (some ⟨b23, 0, none⟩)) F24 s.2.2 ∧ (∀ g, F24 g → F27 g ∨ w23.heap.size ≤ g)) (fun s => μ30 s.1 s.2.1 s.2.2) (false, 0, (some ([], 0))) [(6, (.bool false)), (8, (.int .i64 0))]
      ⟨K18, F27, h0, rfl, Ext.refl _ _ _, hM23, (show (Kd.int .i64).wf 0 from by constructor <;> decide), hR27, (fun g hg => (.inl hg))⟩ (by repeat (first | exact trivial | refine ⟨rfl, ?_⟩)) ?_
    rintro ⟨i30, i30', k30⟩ l σ30 w31 ⟨K31, F24_30, hI, rfl, hX31, hM31, hw30_8, hL30_F24, ho30_F24⟩
    dsimp only at hI hw30_8 hL30_F24 ho30_F24
    have hE31 := hE23.comp hX31 (fun c hx hlt => (fun g hg hlt => absurd hlt (Nat.not_lt.2 ((fun g hg => Nat.le_trans hE18.size (hn27 g hg)) g hg))) c hx hlt)
    have hR32 := ((hR15.extN hS18).extN hS23)
    have hR33 := (hR32.ext hX31 (fun g hg hx => (fun g hg hx => (fun g hg hx => absurd (hR28.lt _ hx) (Nat.not_lt.2 (hn27 g hg))) g hx hg) g hg hx))
    have hR34 := ((hO13.extN hS18).extN hS23)
    have hR35 := (hR34.ext hX31 (fun g hg hx => (fun g hg hx => (fun g hg hx => absurd (hR29.lt _ hx) (Nat.not_lt.2 (hn27 g hg))) g hx hg) g hg hx))
    have hR36 := ((hR15.extN hS18).extN hS23)
    have hR37 := ((hO13.extN hS18).extN hS23)
    have h := h i30 i30' k30 hI hw30_8
    refine WP_seq ?_
    refine WP_seq ?_
    refine WP_region ?_
    refine WL_pure (.int .i64 i30') (R_mv rfl) rfl rfl ?_
    refine WL_pure a0_l_v (R_mv rfl) rfl rfl ?_
    refine WL_pure (.int .i64 (a0_l.length : Int)) (R_len rfl (h_a0_l.mono (hS3.le.trans (hS5.le.trans (hS10.le.trans (hS13.le.trans (hS18.le.trans (hS23.le.trans hX31.le))))))) Try.underlying22) rfl rfl ?_
    refine WL_pure (.bool (decide (i30' < (a0_l.length : Int)))) (R_lss rfl rfl) rfl rfl ?_
    refine WL_nil ?_
    refine WP_cond (decide (i30' < (a0_l.length : Int))) rfl (fun hc38 => ?_) (fun hc38 => ?_)
    · have hd38 : i30' < (a0_l.length : Int) := dec_t hc38
      have h := h.1 hd38
      refine WP_skip ?_
      refine WP_seq ?_
      refine WP_block ?_
      refine WP_seq ?_
      refine WP_region ?_
      refine WL_pure (.pointer (some ⟨b23, 0, none⟩)) (R_mv rfl) rfl rfl ?_
      obtain ⟨hp40, h⟩ := h
      refine WL_eff rfl rfl (St_call (R_call Try.call24 rfl) ((AllO_c hM31 hL30_F24 hp40).mono ?_))
      rintro _ w39 ⟨K39, v39_0, rfl, hS39, hM39, hO39_0, hg39_0⟩
      refine ⟨v39_0, rfl, ?_⟩
      have hE39 := hE31.andN hS39
      have h := h hO39_0.wf
      refine WL_pure v39_0 (R_as rfl) rfl rfl ?_
      refine WL_nil ?_
      refine WP_seq ?_
      refine WP_region ?_
      refine WL_pure (.pointer (some ⟨b23, 0, none⟩)) (R_mv rfl) rfl rfl ?_
      have hR42 := (hR33.extN hS39)
      have hR43 := (hR35.extN hS39)
      have hR44 := (hL30_F24.extN hS39)
      refine WL_eff rfl rfl (St_call (R_call Try.call23 rfl) ((CallsO_c hM39 hR44).mono ?_))
      rintro _ w45 ⟨K45, v45_0, rfl, hS45, hM45, hV45_0⟩
      refine ⟨v45_0, rfl, ?_⟩
      have hE45 := hE39.andN hS45
      obtain rfl := int_form hV45_0
      have h := h hV45_0.wf
      refine WL_pure (.int .i64 (bookCalls k30)) (R_as rfl) rfl rfl ?_
      refine WL_nil ?_
      refine WP_seq ?_
      refine WP_region ?_
      refine WL_eff rfl rfl (St_B (S_alloc hM45 ty23) ?_)
      rintro b46 w46 (hB46 : Bx kd_a32_u8 _ _ _ _ _ (List.replicate 32 0)) hS46 hM46 hge46
      have hE46 := hE45.andN hS46
      have hR48 := (hR44.extN hS45)
      refine WL_nil ?_
      refine WP_seq ?_
      refine WP_seq ?_
      refine WP_region ?_
      refine WL_pure a0_l_v (R_mv rfl) rfl rfl ?_
      refine WL_pure (.int .i64 i30') (R_mv rfl) rfl rfl ?_
      obtain ⟨hp50, h⟩ := h
      refine WL_P (S_ixs rfl (h_a0_l.mono (hS3.le.trans (hS5.le.trans (hS10.le.trans (hS13.le.trans (hS18.le.trans (hS23.le.trans (hX31.le.trans (hS39.le.trans (hS45.le.trans hS46.le)))))))))) rfl Try.underlying22 ty41 hp50.1 hp50.2) rfl rfl ?_
      rintro b49 o49 hP49
      have hP52 := Kd.Pt.foc (Foc.fst (Kd.int .i64) (Kd.pr (Kd.int .i64) (Kd.pr kd_l_l_u8 (Kd.pr kd_a32_u8 kd_l_u8)))) hP49
      refine WL_pure (.pointer (some ⟨b49, o49 + 0, none⟩)) (R_fa rfl Try.underlying41 rfl rfl ty3 rfl) rfl rfl ?_
      refine WL_L hM46 (S_ld rfl ty3 hP52) rfl rfl ?_
      rintro v54 (hV54 : (Kd.int .i64).V _ ((ix a0_l i30').1) _)
      obtain rfl := int_form hV54
      refine WL_pure (.int .i64 (band .i64 ((ix a0_l i30').1) 1)) (R_and rfl rfl) rfl rfl ?_
      refine WL_pure (.bool (decide ((band .i64 ((ix a0_l i30').1) 1) = 1))) (R_eql rfl rfl) rfl rfl ?_
      refine WL_nil ?_
      have hR56 := ((hR44.extN hS45).extN hS46)
      obtain ⟨J55, h, hJ55⟩ := h
      refine WP_meet [10, 46, 47, 48, 49, 50, 51, 52, 53, 54, 55, 56, 57, 58, 59, 60, 61, 62, 63, 64, 65, 66, 67, 68, 69, 70, 71, 72] (fun l w => ∃ calls55 b55 k55 K F24, J55 calls55 b55 k55 ∧ l = [(10, (.int .i64 calls55))] ∧ Ext (fun c => F24_30 c ∨ c = b46) w46 K45 w K ∧ Models w K ∧ (Kd.int .i64).wf calls55 ∧ BookR w K (.pointer (some ⟨b23, 0, none⟩)) F24 k55 ∧ (∀ g, F24 g → F24_30 g ∨ w46.heap.size ≤ g) ∧ Bx kd_a32_u8 w K b46 [] [] b55) ?_ ?_
      · skip
        refine WP_cond (decide ((band .i64 ((ix a0_l i30').1) 1) = 1)) rfl (fun hc57 => ?_) (fun hc57 => ?_)
        · have hd57 : (band .i64 ((ix a0_l i30').1) 1) = 1 := dec_t hc57
          have h := h.1 hd57
          refine WP_seq ?_
          refine WP_region ?_
          refine WL_pure a0_l_v (R_mv rfl) rfl rfl ?_
          refine WL_pure (.int .i64 i30') (R_mv rfl) rfl rfl ?_
          obtain ⟨hp59, h⟩ := h
          refine WL_P (S_ixs rfl (h_a0_l.mono (hS3.le.trans (hS5.le.trans (hS10.le.trans (hS13.le.trans (hS18.le.trans (hS23.le.trans (hX31.le.trans (hS39.le.trans (hS45.le.trans hS46.le)))))))))) rfl Try.underlying22 ty41 hp59.1 hp59.2) rfl rfl ?_
          rintro b58 o58 hP58
          have hP61 := Kd.Pt.foc (Foc.trans (Foc.snd (Kd.int .i64) (Kd.pr (Kd.int .i64) (Kd.pr kd_l_l_u8 (Kd.pr kd_a32_u8 kd_l_u8)))) (Foc.trans (Foc.snd (Kd.int .i64) (Kd.pr kd_l_l_u8 (Kd.pr kd_a32_u8 kd_l_u8))) (Foc.trans (Foc.snd kd_l_l_u8 (Kd.pr kd_a32_u8 kd_l_u8)) (Foc.fst kd_a32_u8 kd_l_u8)))) hP58
          refine WL_pure (.pointer (some ⟨b58, o58 + 3, none⟩)) (R_fa rfl Try.underlying41 rfl rfl ty23 rfl) rfl rfl ?_
          refine WL_L hM46 (S_ld rfl ty23 hP61) rfl rfl ?_
          rintro v63 (hV63 : kd_a32_u8.V _ ((ix a0_l i30').2.2.2.1) _)
          refine WL_eff rfl rfl (St_St (S_stB (Foc.id _) hM46 rfl rfl hV63 ty23 hB46 (by first | rfl | simp | omega)) ?_)
          rintro w65 (hB65 : Bx kd_a32_u8 _ _ b46 [] [] ((ix a0_l i30').2.2.2.1)) hS65 hM65
          have hE65 := hE46.comp hS65 (fun c hx hlt => (by subst hx; exact (fun hlt => absurd hlt (Nat.not_lt.2 (Nat.le_trans hE45.size hge46))) hlt))
          refine WL_nil ?_
          have hR66 := (hR56.ext hS65 (fun g hg hx => (fun g hg hx => (fun g hg hx => lt_eq' (hR48.lt _ hx) hg hge46) g hx hg) g hg hx))
          refine WP_ordD (K := K45) (fun c => F24_30 c ∨ w65.heap.size ≤ c) [.o 0 2, .o 1 2, .o 2 2, .o 3 2, .o 4 2, .o 5 2, .o 6 2, .o 7 1] (by kernel_rfl) (by kernel_rfl) hM65 ?_
          rintro w67 hS67 hM67
          have hE67 := hE65.andN hS67
          refine WO_pure (.pointer (some ⟨b23, 0, none⟩)) rfl l0 hM67 (fun _ => R_mv rfl) rfl (gN rfl) rfl ?_
          have hR69 := (hB65.extN hS67)
          refine WO_L0 hM67 (S_ldB (Foc.id _) rfl ty23 hR69 (by first | rfl | simp | omega) (fun h => h)) rfl (gN rfl) rfl ?_
          rintro v68 (hV68 : kd_a32_u8.V _ ((ix a0_l i30').2.2.2.1) _)
          refine WO_pure a0_l_v rfl l0 hM67 (fun _ => R_mv rfl) rfl (gN rfl) rfl ?_
          refine WO_pure (.int .i64 i30') rfl l0 hM67 (fun _ => R_mv rfl) rfl (gN rfl) rfl ?_
          obtain ⟨hp72, h⟩ := h
          refine WO_P rfl l0 hM67 (S_ixs rfl (h_a0_l.mono (hS3.le.trans (hS5.le.trans (hS10.le.trans (hS13.le.trans (hS18.le.trans (hS23.le.trans (hX31.le.trans (hS39.le.trans (hS45.le.trans (hS46.le.trans (hS65.le.trans hS67.le)))))))))))) rfl Try.underlying22 ty41 hp72.1 hp72.2) rfl (gN rfl) rfl ?_
          rintro b71 o71 hP71
          have hP74 := Kd.Pt.foc (Foc.trans (Foc.snd (Kd.int .i64) (Kd.pr (Kd.int .i64) (Kd.pr kd_l_l_u8 (Kd.pr kd_a32_u8 kd_l_u8)))) (Foc.trans (Foc.snd (Kd.int .i64) (Kd.pr kd_l_l_u8 (Kd.pr kd_a32_u8 kd_l_u8))) (Foc.trans (Foc.snd kd_l_l_u8 (Kd.pr kd_a32_u8 kd_l_u8)) (Foc.snd kd_a32_u8 kd_l_u8)))) hP71
          refine WO_pure (.pointer (some ⟨b71, o71 + 35, none⟩)) rfl l0 hM67 (fun _ => R_fa rfl Try.underlying41 rfl rfl ty39 rfl) rfl (gN rfl) rfl ?_
          refine WO_L0 hM67 (S_ld rfl ty39 hP74) rfl (gN rfl) rfl ?_
          rintro v76 (hV76 : kd_l_u8.V _ ((ix a0_l i30').2.2.2.2) _)
          have hR78 := ((hR42.extN hS45).extN hS46)
          have hR79 := ((hR78.ext hS65 (fun g hg hx => (fun g hg hx => hR78.box hB46 (hg.trans (congrArg some hx))) g hg hx)).extN hS67)
          have hR80 := ((hR43.extN hS45).extN hS46)
          have hR81 := ((hR80.ext hS65 (fun g hg hx => (fun g hg hx => hR80.box hB46 (hg.trans (congrArg some hx))) g hg hx)).extN hS67)
          have hR82 := (hR66.extN hS67)
          have hR83 := ((hO39_0.extN hS45).extN hS46)
          have hR84 := ((hR83.ext hS65 (fun g hg hx => (fun g hg hx => hR83.box hB46 (hg.trans (congrArg some hx))) g hg hx)).extN hS67)
          obtain ⟨hp86, h⟩ := h
          refine WO_eff rfl (gN rfl) rfl (St_call (R_call Try.call19 rfl) ((NoteO_c hM67 hR82 hV68 hV76 hp86).mono ?_))
          rintro _ w85 ⟨K85, u85_0, rfl, hS85, hM85, hu85_0, hxu85_0⟩
          refine ⟨(.tuple #[]), rfl, ?_⟩
          refine ⟨K85, (hS85.weak (fun c hlt hx => (.inl (hx)))), hM85, ?_⟩
          have hE85 := hE67.comp hS85 (fun c hx hlt => (fun g hg hlt => absurd hlt (Nat.not_lt.2 ((fun g hg => (ho30_F24 g hg).elim (fun hx => (fun g hg => Nat.le_trans hE18.size (hn27 g hg)) g hx) (fun hx => Nat.le_trans hE23.size hx)) g hg))) c hx hlt)
          have hR87 := (hR79.ext hS85 (fun g hg hx => (fun g hg hx => (fun g hg hy => (ho30_F24 g hg).elim (fun hz => (fun g hg hx => absurd (hR28.lt _ hx) (Nat.not_lt.2 (hn27 g hg))) g hz hy) (fun hz => absurd (hR36.lt _ hy) (Nat.not_lt.2 hz))) g hx hg) g hg hx))
          have hR88 := (hR81.ext hS85 (fun g hg hx => (fun g hg hx => (fun g hg hy => (ho30_F24 g hg).elim (fun hz => (fun g hg hx => absurd (hR29.lt _ hx) (Nat.not_lt.2 (hn27 g hg))) g hz hy) (fun hz => absurd (hR37.lt _ hy) (Nat.not_lt.2 hz))) g hx hg) g hg hx))
          have hR89 := (hR84.ext hS85 (fun g hg hx => (fun g hg hx => absurd (hL30_F24.lt _ hx) (Nat.not_lt.2 (hg39_0 g hg))) g hg hx))
          have hR90 := (hR69.ext hS85 (fun hx => (fun g hg hx => lt_eq' (hR48.lt _ hx) hg hge46) b46 rfl hx))
          have hs91 : ∀ g, u85_0 g → ¬ (ob v10 = some g) := fun g hg hy => (hxu85_0 g hg).elim (fun hx => (fun g hg hy => (ho30_F24 g hg).elim (fun hz => (fun g hg hx => absurd (hR28.lt _ hx) (Nat.not_lt.2 (hn27 g hg))) g hz hy) (fun hz => absurd (hR36.lt _ hy) (Nat.not_lt.2 hz))) g hx hy) (fun hx => absurd (hR79.lt _ hy) (Nat.not_lt.2 hx))
          have hs92 : ∀ g, u85_0 g → ¬ (ob v13 = some g) := fun g hg hy => (hxu85_0 g hg).elim (fun hx => (fun g hg hy => (ho30_F24 g hg).elim (fun hz => (fun g hg hx => absurd (hR29.lt _ hx) (Nat.not_lt.2 (hn27 g hg))) g hz hy) (fun hz => absurd (hR37.lt _ hy) (Nat.not_lt.2 hz))) g hx hy) (fun hx => absurd (hR81.lt _ hy) (Nat.not_lt.2 hx))
          have hs93 : ∀ g, u85_0 g → ¬ (ob v39_0 = some g) := fun g hg hy => (hxu85_0 g hg).elim (fun hx => (fun g hg hx => (fun g hg hx => absurd (hL30_F24.lt _ hx) (Nat.not_lt.2 (hg39_0 g hg))) g hx hg) g hx hy) (fun hx => absurd (hR84.lt _ hy) (Nat.not_lt.2 hx))
          have hs94 : ∀ g, u85_0 g → ¬ (g = b46) := fun g hg hy => (hxu85_0 g hg).elim (fun hx => (fun g hg hx => (fun g hg hx => lt_eq' (hR48.lt _ hx) hg hge46) g hx hg) g hx hy) (fun hx => lt_eq hR69.lt hy hx)
          refine WO_nil ?_
          exact MeetQ.mk [(10, (.int .i64 (bookCalls k30)))] ⟨(bookCalls k30), ((ix a0_l i30').2.2.2.1), (bookNote k30 ((ix a0_l i30').2.2.2.1) ((ix a0_l i30').2.2.2.2)), K85, u85_0, h, rfl, ((((Ext.refl _ _ _).comp hS65 (fun c hx hlt => (.inr (hx)))).andN hS67).comp hS85 (fun c hx hlt => (.inl (hx)))), hM85, (hV45_0).wf, hu85_0, (fun g hg => ((hxu85_0 g hg).elim (fun hz => (.inl hz)) (fun hz => .inr (Nat.le_trans (Nat.le_trans hS65.size hS67.size) hz)))), hR90⟩ (by repeat (first | exact Off.lay0 rfl | exact Off.refl _ _ | refine Off.updO ?_ rfl _ | refine Off.updN ?_ _ | refine Off.lay ?_ rfl)) (by repeat (first | exact trivial | refine ⟨rfl, ?_⟩))
        · have hd57 : ¬ ((band .i64 ((ix a0_l i30').1) 1) = 1) := dec_f hc57
          have h := h.2 hd57
          refine WP_seq ?_
          refine WP_ordD (K := K45) (fun c => F24_30 c ∨ c = b46 ∨ w46.heap.size ≤ c) [.o 0 2, .o 1 2, .o 2 2, .o 3 2, .o 4 2, .o 5 2, .o 6 2, .o 7 2, .o 8 2, .o 9 2, .o 10 2, .o 11 1, .o 12 1] (by kernel_rfl) (by kernel_rfl) hM46 ?_
          rintro w95 hS95 hM95
          have hE95 := hE46.andN hS95
          refine WO_pure (.pointer (some ⟨b23, 0, none⟩)) rfl l0 hM95 (fun _ => R_mv rfl) rfl (gN rfl) rfl ?_
          refine WO_pure a0_l_v rfl l0 hM95 (fun _ => R_mv rfl) rfl (gN rfl) rfl ?_
          refine WO_pure (.int .i64 i30') rfl l0 hM95 (fun _ => R_mv rfl) rfl (gN rfl) rfl ?_
          obtain ⟨hp97, h⟩ := h
          refine WO_P rfl l0 hM95 (S_ixs rfl (h_a0_l.mono (hS3.le.trans (hS5.le.trans (hS10.le.trans (hS13.le.trans (hS18.le.trans (hS23.le.trans (hX31.le.trans (hS39.le.trans (hS45.le.trans (hS46.le.trans hS95.le))))))))))) rfl Try.underlying22 ty41 hp97.1 hp97.2) rfl (gN rfl) rfl ?_
          rintro b96 o96 hP96
          have hP99 := Kd.Pt.foc (Foc.trans (Foc.snd (Kd.int .i64) (Kd.pr (Kd.int .i64) (Kd.pr kd_l_l_u8 (Kd.pr kd_a32_u8 kd_l_u8)))) (Foc.fst (Kd.int .i64) (Kd.pr kd_l_l_u8 (Kd.pr kd_a32_u8 kd_l_u8)))) hP96
          refine WO_pure (.pointer (some ⟨b96, o96 + 1, none⟩)) rfl l0 hM95 (fun _ => R_fa rfl Try.underlying41 rfl rfl ty3 rfl) rfl (gN rfl) rfl ?_
          refine WO_L0 hM95 (S_ld rfl ty3 hP99) rfl (gN rfl) rfl ?_
          rintro v101 (hV101 : (Kd.int .i64).V _ ((ix a0_l i30').2.1) _)
          obtain rfl := int_form hV101
          refine WO_pure a0_l_v rfl l0 hM95 (fun _ => R_mv rfl) rfl (gN rfl) rfl ?_
          refine WO_pure (.int .i64 i30') rfl l0 hM95 (fun _ => R_mv rfl) rfl (gN rfl) rfl ?_
          obtain ⟨hp103, h⟩ := h
          refine WO_P rfl l0 hM95 (S_ixs rfl (h_a0_l.mono (hS3.le.trans (hS5.le.trans (hS10.le.trans (hS13.le.trans (hS18.le.trans (hS23.le.trans (hX31.le.trans (hS39.le.trans (hS45.le.trans (hS46.le.trans hS95.le))))))))))) rfl Try.underlying22 ty41 hp103.1 hp103.2) rfl (gN rfl) rfl ?_
          rintro b102 o102 hP102
          have hP105 := Kd.Pt.foc (Foc.trans (Foc.snd (Kd.int .i64) (Kd.pr (Kd.int .i64) (Kd.pr kd_l_l_u8 (Kd.pr kd_a32_u8 kd_l_u8)))) (Foc.trans (Foc.snd (Kd.int .i64) (Kd.pr kd_l_l_u8 (Kd.pr kd_a32_u8 kd_l_u8))) (Foc.fst kd_l_l_u8 (Kd.pr kd_a32_u8 kd_l_u8)))) hP102
          refine WO_pure (.pointer (some ⟨b102, o102 + 2, none⟩)) rfl l0 hM95 (fun _ => R_fa rfl Try.underlying41 rfl rfl ty38 rfl) rfl (gN rfl) rfl ?_
          refine WO_L0 hM95 (S_ld rfl ty38 hP105) rfl (gN rfl) rfl ?_
          rintro v107 (hV107 : kd_l_l_u8.V _ ((ix a0_l i30').2.2.1) _)
          have hR109 := (((hR42.extN hS45).extN hS46).extN hS95)
          have hR110 := (((hR43.extN hS45).extN hS46).extN hS95)
          have hR111 := (hR56.extN hS95)
          have hR112 := (((hO39_0.extN hS45).extN hS46).extN hS95)
          have hR113 := (hB46.extN hS95)
          obtain ⟨hp115, h⟩ := h
          refine WO_eff rfl (gN rfl) rfl (St_call (R_call Try.call21 rfl) ((Of_c hM95 hR111 (int_V (hV101).wf) hV107 hp115).mono ?_))
          rintro _ w114 ⟨K114, v114_0, u114_0, rfl, hS114, hM114, hV114_0, hu114_0, hxu114_0⟩
          refine ⟨v114_0, rfl, ?_⟩
          refine ⟨K114, (hS114.weak (fun c hlt hx => (.inl (hx)))), hM114, ?_⟩
          have hE114 := hE95.comp hS114 (fun c hx hlt => (fun g hg hlt => absurd hlt (Nat.not_lt.2 ((fun g hg => (ho30_F24 g hg).elim (fun hx => (fun g hg => Nat.le_trans hE18.size (hn27 g hg)) g hx) (fun hx => Nat.le_trans hE23.size hx)) g hg))) c hx hlt)
          have hR116 := (hR109.ext hS114 (fun g hg hx => (fun g hg hx => (fun g hg hy => (ho30_F24 g hg).elim (fun hz => (fun g hg hx => absurd (hR28.lt _ hx) (Nat.not_lt.2 (hn27 g hg))) g hz hy) (fun hz => absurd (hR36.lt _ hy) (Nat.not_lt.2 hz))) g hx hg) g hg hx))
          have hR117 := (hR110.ext hS114 (fun g hg hx => (fun g hg hx => (fun g hg hy => (ho30_F24 g hg).elim (fun hz => (fun g hg hx => absurd (hR29.lt _ hx) (Nat.not_lt.2 (hn27 g hg))) g hz hy) (fun hz => absurd (hR37.lt _ hy) (Nat.not_lt.2 hz))) g hx hg) g hg hx))
          have hR118 := (hR112.ext hS114 (fun g hg hx => (fun g hg hx => absurd (hL30_F24.lt _ hx) (Nat.not_lt.2 (hg39_0 g hg))) g hg hx))
          have hR119 := (hR113.ext hS114 (fun hx => (fun g hg hx => lt_eq' (hR48.lt _ hx) hg hge46) b46 rfl hx))
          have hs120 : ∀ g, u114_0 g → ¬ (ob v10 = some g) := fun g hg hy => (hxu114_0 g hg).elim (fun hx => (fun g hg hy => (ho30_F24 g hg).elim (fun hz => (fun g hg hx => absurd (hR28.lt _ hx) (Nat.not_lt.2 (hn27 g hg))) g hz hy) (fun hz => absurd (hR36.lt _ hy) (Nat.not_lt.2 hz))) g hx hy) (fun hx => absurd (hR109.lt _ hy) (Nat.not_lt.2 hx))
          have hs121 : ∀ g, u114_0 g → ¬ (ob v13 = some g) := fun g hg hy => (hxu114_0 g hg).elim (fun hx => (fun g hg hy => (ho30_F24 g hg).elim (fun hz => (fun g hg hx => absurd (hR29.lt _ hx) (Nat.not_lt.2 (hn27 g hg))) g hz hy) (fun hz => absurd (hR37.lt _ hy) (Nat.not_lt.2 hz))) g hx hy) (fun hx => absurd (hR110.lt _ hy) (Nat.not_lt.2 hx))
          have hs122 : ∀ g, u114_0 g → ¬ (ob v39_0 = some g) := fun g hg hy => (hxu114_0 g hg).elim (fun hx => (fun g hg hx => (fun g hg hx => absurd (hL30_F24.lt _ hx) (Nat.not_lt.2 (hg39_0 g hg))) g hx hg) g hx hy) (fun hx => absurd (hR112.lt _ hy) (Nat.not_lt.2 hx))
          have hs123 : ∀ g, u114_0 g → ¬ (g = b46) := fun g hg hy => (hxu114_0 g hg).elim (fun hx => (fun g hg hx => (fun g hg hx => lt_eq' (hR48.lt _ hx) hg hge46) g hx hg) g hx hy) (fun hx => lt_eq hR113.lt hy hx)
          have h := h hV114_0.wf
          refine WO_eff rfl (gN rfl) rfl (St_St (S_stB (Foc.id _) hM114 rfl rfl hV114_0 ty23 hR119 (by first | rfl | simp | omega)) ?_)
          rintro w125 (hB125 : Bx kd_a32_u8 _ _ b46 [] [] (sealOf ((ix a0_l i30').2.1) ((ix a0_l i30').2.2.1))) hS125 hM125
          refine ⟨K114, (hS125.weak (fun c hlt hx => (.inr (.inl (hx))))), hM125, ?_⟩
          have hE125 := hE114.comp hS125 (fun c hx hlt => (by subst hx; exact (fun hlt => absurd hlt (Nat.not_lt.2 (Nat.le_trans hE45.size hge46))) hlt))
          refine WO_nil ?_
          refine WP_region ?_
          refine WL_pure (.int .i64 (bookCalls k30)) (R_mv rfl) rfl rfl ?_
          refine WL_pure (.int .i64 (IntKind.i64.wrap ((bookCalls k30) + 1))) (R_add rfl rfl) rfl rfl ?_
          refine WL_pure (.int .i64 (IntKind.i64.wrap ((bookCalls k30) + 1))) (R_as rfl) rfl rfl ?_
          refine WL_nil ?_
          have hR126 := (hu114_0.ext hS125 (fun g hg hx => hs123 g hg hx))
          exact MeetQ.mk [(10, (.int .i64 (IntKind.i64.wrap ((bookCalls k30) + 1))))] ⟨(IntKind.i64.wrap ((bookCalls k30) + 1)), (sealOf ((ix a0_l i30').2.1) ((ix a0_l i30').2.2.1)), (bookOf k30 ((ix a0_l i30').2.1) ((ix a0_l i30').2.2.1)), K114, u114_0, h, rfl, ((((Ext.refl _ _ _).andN hS95).comp hS114 (fun c hx hlt => (.inl (hx)))).comp hS125 (fun c hx hlt => (.inr (hx)))), hM125, (wrap_wf _ _), hR126, (fun g hg => ((hxu114_0 g hg).elim (fun hz => (.inl hz)) (fun hz => .inr (Nat.le_trans hS95.size hz)))), hB125⟩ (by repeat (first | exact Off.lay0 rfl | exact Off.refl _ _ | refine Off.updO ?_ rfl _ | refine Off.updN ?_ _ | refine Off.lay ?_ rfl)) (by repeat (first | exact trivial | refine ⟨rfl, ?_⟩))
      rintro l σ55 w127 ⟨calls55, b55, k55, K127, F24_55, hI, rfl, hX127, hM127, hw55_10, hL55_F24, ho55_F24, hL55_47⟩
      have h := hJ55 calls55 b55 k55 hI hw55_10 hL55_47.wf
      have hE127 := hE46.comp hX127 (fun c hx hlt => Or.elim hx (fun hx => (fun g hg hlt => absurd hlt (Nat.not_lt.2 ((fun g hg => (ho30_F24 g hg).elim (fun hx => (fun g hg => Nat.le_trans hE18.size (hn27 g hg)) g hx) (fun hx => Nat.le_trans hE23.size hx)) g hg))) c hx hlt) (fun hx => (by subst hx; exact (fun hlt => absurd hlt (Nat.not_lt.2 (Nat.le_trans hE45.size hge46))) hlt)))
      have hR128 := ((hR42.extN hS45).extN hS46)
      have hR129 := (hR128.ext hX127 (fun g hg hx => Or.elim hx (fun hx => (fun g hg hx => (fun g hg hy => (ho30_F24 g hg).elim (fun hz => (fun g hg hx => absurd (hR28.lt _ hx) (Nat.not_lt.2 (hn27 g hg))) g hz hy) (fun hz => absurd (hR36.lt _ hy) (Nat.not_lt.2 hz))) g hx hg) g hg hx) (fun hx => (fun g hg hx => hR128.box hB46 (hg.trans (congrArg some hx))) g hg hx)))
      have hR130 := ((hR43.extN hS45).extN hS46)
      have hR131 := (hR130.ext hX127 (fun g hg hx => Or.elim hx (fun hx => (fun g hg hx => (fun g hg hy => (ho30_F24 g hg).elim (fun hz => (fun g hg hx => absurd (hR29.lt _ hx) (Nat.not_lt.2 (hn27 g hg))) g hz hy) (fun hz => absurd (hR37.lt _ hy) (Nat.not_lt.2 hz))) g hx hg) g hg hx) (fun hx => (fun g hg hx => hR130.box hB46 (hg.trans (congrArg some hx))) g hg hx)))
      have hR132 := ((hO39_0.extN hS45).extN hS46)
      have hR133 := (hR132.ext hX127 (fun g hg hx => Or.elim hx (fun hx => (fun g hg hx => absurd (hL30_F24.lt _ hx) (Nat.not_lt.2 (hg39_0 g hg))) g hg hx) (fun hx => (fun g hg hx => hR132.box hB46 (hg.trans (congrArg some hx))) g hg hx)))
      have hR134 := ((hR42.extN hS45).extN hS46)
      have hR135 := ((hR43.extN hS45).extN hS46)
      have hR136 := ((hO39_0.extN hS45).extN hS46)
      refine WP_seq ?_
      refine WP_region ?_
      refine WL_pure (.pointer (some ⟨b23, 0, none⟩)) (R_mv rfl) rfl rfl ?_
      obtain ⟨hp138, h⟩ := h
      refine WL_eff rfl rfl (St_call (R_call Try.call24 rfl) ((AllO_c hM127 hL55_F24 hp138).mono ?_))
      rintro _ w137 ⟨K137, v137_0, rfl, hS137, hM137, hO137_0, hg137_0⟩
      refine ⟨v137_0, rfl, ?_⟩
      have hE137 := hE127.andN hS137
      have h := h hO137_0.wf
      refine WL_pure v137_0 (R_as rfl) rfl rfl ?_
      refine WL_nil ?_
      refine WP_seq ?_
      refine WP_region ?_
      refine WL_pure (.pointer (some ⟨b23, 0, none⟩)) (R_mv rfl) rfl rfl ?_
      have hR141 := (hL55_47.extN hS137)
      refine WL_L hM137 (S_ldB (Foc.id _) rfl ty23 hR141 (by first | rfl | simp | omega) (fun h => h)) rfl rfl ?_
      rintro v140 (hV140 : kd_a32_u8.V _ b55 _)
      have hR143 := (hR129.extN hS137)
      have hR144 := (hR131.extN hS137)
      have hR145 := (hL55_F24.extN hS137)
      have hR146 := (hR133.extN hS137)
      obtain ⟨hp148, h⟩ := h
      refine WL_eff rfl rfl (St_call (R_call Try.call16 rfl) ((FindO_c hM137 hR145 hV140 hp148).mono ?_))
      rintro _ w147 ⟨K147, v147_0, v147_1, rfl, hS147, hM147, hO147_0, hg147_0, hV147_1⟩
      refine ⟨(.tuple #[v147_0, v147_1]), rfl, ?_⟩
      have hE147 := hE137.andN hS147
      have h := h hO147_0.wf
      obtain rfl := bool_form hV147_1
      refine WL_pure (.tuple #[v147_0, (.bool (bookHas k55 b55))]) (R_mv rfl) rfl rfl ?_
      refine WL_pure v147_0 (R_ext rfl rfl) rfl rfl ?_
      refine WL_pure (.bool (bookHas k55 b55)) (R_ext rfl rfl) rfl rfl ?_
      refine WL_pure v147_0 (R_as rfl) rfl rfl ?_
      refine WL_pure (.bool (bookHas k55 b55)) (R_as rfl) rfl rfl ?_
      refine WL_nil ?_
      refine WP_seq ?_
      refine WP_own (K := K147) NX [.o 0 2, .o 1 2, .o 2 2, .o 3 2, .o 4 0, .o 5 2, .o 6 2, .o 7 2, .o 8 2, .o 9 2, .o 10 2, .o 11 2, .o 12 2, .o 13 2, .o 14 2, .o 15 2, .o 16 2, .o 17 2, .o 18 2, .o 19 2, .o 20 2, .o 21 2, .o 22 2, .o 23 2, .o 24 2, .o 25 2, .o 26 2, .o 27 2, .o 28 2, .o 29 0, .o 30 2, .o 31 2] (by kernel_rfl) hM147 ?_
      refine WO_pure (.bool (bookHas k55 b55)) rfl l0 hM147 (fun _ => R_mv rfl) rfl (gN rfl) rfl ?_
      refine WO_pure (.bool (decide (¬ ((bookHas k55 b55) = true)))) rfl l0 hM147 (fun _ => R_notb rfl) rfl (gN rfl) rfl ?_
      refine WO_pure (.bool (decide (¬ ((bookHas k55 b55) = true)))) rfl l0 hM147 (fun _ => R_mv rfl) rfl (gN rfl) rfl ?_
      refine WO_meet (al := true) (l1 := [.o 3 2, .o 4 0, .o 5 2, .o 6 2, .o 7 2]) [84, 85, 86, 87, 88] NX (fun l w K => l = [(88, (.bool (decide ((¬ ((bookHas k55 b55) = true)) ∨ ((bookCalls k55) ≠ calls55)))))] ∧ Ext NX w147 K147 w K ∧ Models w K) ?_ ?_
      · rcases Classical.em (¬ ((bookHas k55 b55) = true)) with hp150 | hp150
        · skip
          refine WO_skip _ hM147 l0 rfl (gF rfl rfl rfl (decide_eq_true hp150)) rfl ?_
          refine WO_skip _ hM147 l0 rfl (gF rfl rfl rfl (decide_eq_true hp150)) rfl ?_
          refine WO_skip _ hM147 l0 rfl (gF rfl rfl rfl (decide_eq_true hp150)) rfl ?_
          refine WO_skip _ hM147 l0 rfl (gF rfl rfl rfl (decide_eq_true hp150)) rfl ?_
          refine WO_pure (.bool (decide ((¬ ((bookHas k55 b55) = true)) ∨ ((bookCalls k55) ≠ calls55)))) rfl l0 hM147 (fun _ => R_pick1 rfl (decide_eq_true hp150) rfl (or_T hp150)) rfl (gN rfl) rfl ?_
          exact WO_end [(88, (.bool (decide ((¬ ((bookHas k55 b55) = true)) ∨ ((bookCalls k55) ≠ calls55)))))] K147 rfl ⟨rfl, (Ext.refl _ _ _), hM147⟩ (by repeat (first | exact Off.refl _ _ | refine Off.updO ?_ rfl _ | refine Off.updN ?_ _ | refine Off.lay ?_ rfl)) ⟨rfl, trivial⟩
        · skip
          refine WO_pure (.pointer (some ⟨b23, 0, none⟩)) rfl l0 hM147 (fun _ => R_mv rfl) rfl (gY rfl rfl rfl (decide_eq_false hp150)) rfl ?_
          have hR151 := (hR143.extN hS147)
          have hR152 := (hR144.extN hS147)
          have hR153 := (hR145.extN hS147)
          have hR154 := (hR146.extN hS147)
          have hR155 := (hR141.extN hS147)
          have hR156 := (hO137_0.extN hS147)
          refine WO_eff0 rfl (gY rfl rfl rfl (decide_eq_false hp150)) rfl (St_call (R_call Try.call23 rfl) ((CallsO_c hM147 hR153).mono ?_))
          rintro _ w157 ⟨K157, v157_0, rfl, hS157, hM157, hV157_0⟩
          refine ⟨v157_0, rfl, ?_⟩
          refine ⟨K157, hS157, hM157, ?_⟩
          have hE157 := hE147.andN hS157
          obtain rfl := int_form hV157_0
          refine WO_pure (.int .i64 calls55) rfl l0 hM157 (fun _ => R_mv rfl) rfl (gY rfl rfl rfl (decide_eq_false hp150)) rfl ?_
          refine WO_pure (.bool (decide ((bookCalls k55) ≠ calls55))) rfl l0 hM157 (fun _ => R_neq rfl rfl) rfl (gY rfl rfl rfl (decide_eq_false hp150)) rfl ?_
          refine WO_pure (.bool (decide ((¬ ((bookHas k55 b55) = true)) ∨ ((bookCalls k55) ≠ calls55)))) rfl l0 hM157 (fun _ => R_pick2 rfl (decide_eq_false hp150) rfl (or_F hp150)) rfl (gN rfl) rfl ?_
          exact WO_end [(88, (.bool (decide ((¬ ((bookHas k55 b55) = true)) ∨ ((bookCalls k55) ≠ calls55)))))] K157 rfl ⟨rfl, ((Ext.refl _ _ _).andN hS157), hM157⟩ (by repeat (first | exact Off.refl _ _ | refine Off.updO ?_ rfl _ | refine Off.updN ?_ _ | refine Off.lay ?_ rfl)) ⟨rfl, trivial⟩
      rintro l σ158 w158 K158 ⟨rfl, hS158, hM158⟩
      have hE158 := hE147.andN hS158
      refine WO_pure (.bool (decide ((¬ ((bookHas k55 b55) = true)) ∨ ((bookCalls k55) ≠ calls55)))) rfl l0 hM158 (fun _ => R_mv rfl) rfl (gN rfl) rfl ?_
      refine WO_meet (al := true) (l1 := [.o 9 2, .o 10 2, .o 11 2, .o 12 2, .o 13 2, .o 14 2]) [90, 91, 92, 93, 94, 95] NX (fun l w K => l = [(95, (.bool (decide (((¬ ((bookHas k55 b55) = true)) ∨ ((bookCalls k55) ≠ calls55)) ∨ (((bookAll k55).length : Int) < ((bookAll k30).length : Int))))))] ∧ Ext NX w158 K158 w K ∧ Models w K) ?_ ?_
      · rcases Classical.em ((¬ ((bookHas k55 b55) = true)) ∨ ((bookCalls k55) ≠ calls55)) with hp159 | hp159
        · skip
          refine WO_skip _ hM158 l0 rfl (gF rfl rfl rfl (decide_eq_true hp159)) rfl ?_
          refine WO_skip _ hM158 l0 rfl (gF rfl rfl rfl (decide_eq_true hp159)) rfl ?_
          refine WO_skip _ hM158 l0 rfl (gF rfl rfl rfl (decide_eq_true hp159)) rfl ?_
          refine WO_skip _ hM158 l0 rfl (gF rfl rfl rfl (decide_eq_true hp159)) rfl ?_
          refine WO_skip _ hM158 l0 rfl (gF rfl rfl rfl (decide_eq_true hp159)) rfl ?_
          refine WO_pure (.bool (decide (((¬ ((bookHas k55 b55) = true)) ∨ ((bookCalls k55) ≠ calls55)) ∨ (((bookAll k55).length : Int) < ((bookAll k30).length : Int))))) rfl l0 hM158 (fun _ => R_pick1 rfl (decide_eq_true hp159) rfl (or_T hp159)) rfl (gN rfl) rfl ?_
          exact WO_end [(95, (.bool (decide (((¬ ((bookHas k55 b55) = true)) ∨ ((bookCalls k55) ≠ calls55)) ∨ (((bookAll k55).length : Int) < ((bookAll k30).length : Int))))))] K158 rfl ⟨rfl, (Ext.refl _ _ _), hM158⟩ (by repeat (first | exact Off.refl _ _ | refine Off.updO ?_ rfl _ | refine Off.updN ?_ _ | refine Off.lay ?_ rfl)) ⟨rfl, trivial⟩
        · skip
          refine WO_pure v137_0 rfl l0 hM158 (fun _ => R_mv rfl) rfl (gY rfl rfl rfl (decide_eq_false hp159)) rfl ?_
          refine WO_pure (.int .i64 ((bookAll k55).length : Int)) rfl l0 hM158 (fun _ => R_len rfl (hO137_0.V.mono (hS147.le.trans hS158.le)) Try.underlying38) rfl (gY rfl rfl rfl (decide_eq_false hp159)) rfl ?_
          refine WO_pure v39_0 rfl l0 hM158 (fun _ => R_mv rfl) rfl (gY rfl rfl rfl (decide_eq_false hp159)) rfl ?_
          refine WO_pure (.int .i64 ((bookAll k30).length : Int)) rfl l0 hM158 (fun _ => R_len rfl (hR146.V.mono (hS147.le.trans hS158.le)) Try.underlying38) rfl (gY rfl rfl rfl (decide_eq_false hp159)) rfl ?_
          refine WO_pure (.bool (decide (((bookAll k55).length : Int) < ((bookAll k30).length : Int)))) rfl l0 hM158 (fun _ => R_lss rfl rfl) rfl (gY rfl rfl rfl (decide_eq_false hp159)) rfl ?_
          refine WO_pure (.bool (decide (((¬ ((bookHas k55 b55) = true)) ∨ ((bookCalls k55) ≠ calls55)) ∨ (((bookAll k55).length : Int) < ((bookAll k30).length : Int))))) rfl l0 hM158 (fun _ => R_pick2 rfl (decide_eq_false hp159) rfl (or_F hp159)) rfl (gN rfl) rfl ?_
          exact WO_end [(95, (.bool (decide (((¬ ((bookHas k55 b55) = true)) ∨ ((bookCalls k55) ≠ calls55)) ∨ (((bookAll k55).length : Int) < ((bookAll k30).length : Int))))))] K158 rfl ⟨rfl, (Ext.refl _ _ _), hM158⟩ (by repeat (first | exact Off.refl _ _ | refine Off.updO ?_ rfl _ | refine Off.updN ?_ _ | refine Off.lay ?_ rfl)) ⟨rfl, trivial⟩
      rintro l σ160 w160 K160 ⟨rfl, hS160, hM160⟩
      have hE160 := hE158.andN hS160
      refine WO_pure (.bool (decide (((¬ ((bookHas k55 b55) = true)) ∨ ((bookCalls k55) ≠ calls55)) ∨ (((bookAll k55).length : Int) < ((bookAll k30).length : Int))))) rfl l0 hM160 (fun _ => R_mv rfl) rfl (gN rfl) rfl ?_
      refine WO_meet (al := true) (l1 := [.o 16 2, .o 17 2, .o 18 2, .o 19 2, .o 20 2, .o 21 2, .o 22 2]) [97, 98, 99, 100, 101, 102, 103] NX (fun l w K => l = [(103, (.bool (decide ((((¬ ((bookHas k55 b55) = true)) ∨ ((bookCalls k55) ≠ calls55)) ∨ (((bookAll k55).length : Int) < ((bookAll k30).length : Int))) ∨ ((IntKind.i64.wrap (((bookAll k30).length : Int) + 1)) < ((bookAll k55).length : Int))))))] ∧ Ext NX w160 K160 w K ∧ Models w K) ?_ ?_
      · rcases Classical.em (((¬ ((bookHas k55 b55) = true)) ∨ ((bookCalls k55) ≠ calls55)) ∨ (((bookAll k55).length : Int) < ((bookAll k30).length : Int))) with hp161 | hp161
        · skip
          refine WO_skip _ hM160 l0 rfl (gF rfl rfl rfl (decide_eq_true hp161)) rfl ?_
          refine WO_skip _ hM160 l0 rfl (gF rfl rfl rfl (decide_eq_true hp161)) rfl ?_
          refine WO_skip _ hM160 l0 rfl (gF rfl rfl rfl (decide_eq_true hp161)) rfl ?_
          refine WO_skip _ hM160 l0 rfl (gF rfl rfl rfl (decide_eq_true hp161)) rfl ?_
          refine WO_skip _ hM160 l0 rfl (gF rfl rfl rfl (decide_eq_true hp161)) rfl ?_
          refine WO_skip _ hM160 l0 rfl (gF rfl rfl rfl (decide_eq_true hp161)) rfl ?_
          refine WO_pure (.bool (decide ((((¬ ((bookHas k55 b55) = true)) ∨ ((bookCalls k55) ≠ calls55)) ∨ (((bookAll k55).length : Int) < ((bookAll k30).length : Int))) ∨ ((IntKind.i64.wrap (((bookAll k30).length : Int) + 1)) < ((bookAll k55).length : Int))))) rfl l0 hM160 (fun _ => R_pick1 rfl (decide_eq_true hp161) rfl (or_T hp161)) rfl (gN rfl) rfl ?_
          exact WO_end [(103, (.bool (decide ((((¬ ((bookHas k55 b55) = true)) ∨ ((bookCalls k55) ≠ calls55)) ∨ (((bookAll k55).length : Int) < ((bookAll k30).length : Int))) ∨ ((IntKind.i64.wrap (((bookAll k30).length : Int) + 1)) < ((bookAll k55).length : Int))))))] K160 rfl ⟨rfl, (Ext.refl _ _ _), hM160⟩ (by repeat (first | exact Off.refl _ _ | refine Off.updO ?_ rfl _ | refine Off.updN ?_ _ | refine Off.lay ?_ rfl)) ⟨rfl, trivial⟩
        · skip
          refine WO_pure v137_0 rfl l0 hM160 (fun _ => R_mv rfl) rfl (gY rfl rfl rfl (decide_eq_false hp161)) rfl ?_
          refine WO_pure (.int .i64 ((bookAll k55).length : Int)) rfl l0 hM160 (fun _ => R_len rfl (hO137_0.V.mono (hS147.le.trans (hS158.le.trans hS160.le))) Try.underlying38) rfl (gY rfl rfl rfl (decide_eq_false hp161)) rfl ?_
          refine WO_pure v39_0 rfl l0 hM160 (fun _ => R_mv rfl) rfl (gY rfl rfl rfl (decide_eq_false hp161)) rfl ?_
          refine WO_pure (.int .i64 ((bookAll k30).length : Int)) rfl l0 hM160 (fun _ => R_len rfl (hR146.V.mono (hS147.le.trans (hS158.le.trans hS160.le))) Try.underlying38) rfl (gY rfl rfl rfl (decide_eq_false hp161)) rfl ?_
          refine WO_pure (.int .i64 (IntKind.i64.wrap (((bookAll k30).length : Int) + 1))) rfl l0 hM160 (fun _ => R_add rfl rfl) rfl (gY rfl rfl rfl (decide_eq_false hp161)) rfl ?_
          refine WO_pure (.bool (decide ((IntKind.i64.wrap (((bookAll k30).length : Int) + 1)) < ((bookAll k55).length : Int)))) rfl l0 hM160 (fun _ => R_gtr rfl rfl) rfl (gY rfl rfl rfl (decide_eq_false hp161)) rfl ?_
          refine WO_pure (.bool (decide ((((¬ ((bookHas k55 b55) = true)) ∨ ((bookCalls k55) ≠ calls55)) ∨ (((bookAll k55).length : Int) < ((bookAll k30).length : Int))) ∨ ((IntKind.i64.wrap (((bookAll k30).length : Int) + 1)) < ((bookAll k55).length : Int))))) rfl l0 hM160 (fun _ => R_pick2 rfl (decide_eq_false hp161) rfl (or_F hp161)) rfl (gN rfl) rfl ?_
          exact WO_end [(103, (.bool (decide ((((¬ ((bookHas k55 b55) = true)) ∨ ((bookCalls k55) ≠ calls55)) ∨ (((bookAll k55).length : Int) < ((bookAll k30).length : Int))) ∨ ((IntKind.i64.wrap (((bookAll k30).length : Int) + 1)) < ((bookAll k55).length : Int))))))] K160 rfl ⟨rfl, (Ext.refl _ _ _), hM160⟩ (by repeat (first | exact Off.refl _ _ | refine Off.updO ?_ rfl _ | refine Off.updN ?_ _ | refine Off.lay ?_ rfl)) ⟨rfl, trivial⟩
      rintro l σ162 w162 K162 ⟨rfl, hS162, hM162⟩
      have hE162 := hE160.andN hS162
      refine WO_pure (.bool (decide ((((¬ ((bookHas k55 b55) = true)) ∨ ((bookCalls k55) ≠ calls55)) ∨ (((bookAll k55).length : Int) < ((bookAll k30).length : Int))) ∨ ((IntKind.i64.wrap (((bookAll k30).length : Int) + 1)) < ((bookAll k55).length : Int))))) rfl l0 hM162 (fun _ => R_mv rfl) rfl (gN rfl) rfl ?_
      obtain ⟨hq163, h⟩ := h
      refine WO_meet (al := true) (l1 := [.o 24 2, .o 25 2, .o 26 2, .o 27 2, .o 28 2, .o 29 0, .o 30 2, .o 31 2]) [105, 106, 107, 108, 109, 110, 111, 112] NX (fun l w K => l = [(112, (.bool (decide (((((¬ ((bookHas k55 b55) = true)) ∨ ((bookCalls k55) ≠ calls55)) ∨ (((bookAll k55).length : Int) < ((bookAll k30).length : Int))) ∨ ((IntKind.i64.wrap (((bookAll k30).length : Int) + 1)) < ((bookAll k55).length : Int))) ∨ (¬ (((bookAll k55).take ((bookAll k30).length : Int).toNat) = (bookAll k30)))))))] ∧ Ext NX w162 K162 w K ∧ Models w K) ?_ ?_
      · rcases Classical.em ((((¬ ((bookHas k55 b55) = true)) ∨ ((bookCalls k55) ≠ calls55)) ∨ (((bookAll k55).length : Int) < ((bookAll k30).length : Int))) ∨ ((IntKind.i64.wrap (((bookAll k30).length : Int) + 1)) < ((bookAll k55).length : Int))) with hp163 | hp163
        · skip
          refine WO_skip _ hM162 l0 rfl (gF rfl rfl rfl (decide_eq_true hp163)) rfl ?_
          refine WO_skip _ hM162 l0 rfl (gF rfl rfl rfl (decide_eq_true hp163)) rfl ?_
          refine WO_skip _ hM162 l0 rfl (gF rfl rfl rfl (decide_eq_true hp163)) rfl ?_
          refine WO_skip _ hM162 l0 rfl (gF rfl rfl rfl (decide_eq_true hp163)) rfl ?_
          refine WO_skip _ hM162 l0 rfl (gF rfl rfl rfl (decide_eq_true hp163)) rfl ?_
          refine WO_skip _ hM162 l0 rfl (gF rfl rfl rfl (decide_eq_true hp163)) rfl ?_
          refine WO_skip _ hM162 l0 rfl (gF rfl rfl rfl (decide_eq_true hp163)) rfl ?_
          refine WO_pure (.bool (decide (((((¬ ((bookHas k55 b55) = true)) ∨ ((bookCalls k55) ≠ calls55)) ∨ (((bookAll k55).length : Int) < ((bookAll k30).length : Int))) ∨ ((IntKind.i64.wrap (((bookAll k30).length : Int) + 1)) < ((bookAll k55).length : Int))) ∨ (¬ (((bookAll k55).take ((bookAll k30).length : Int).toNat) = (bookAll k30)))))) rfl l0 hM162 (fun _ => R_pick1 rfl (decide_eq_true hp163) rfl (or_T hp163)) rfl (gN rfl) rfl ?_
          exact WO_end [(112, (.bool (decide (((((¬ ((bookHas k55 b55) = true)) ∨ ((bookCalls k55) ≠ calls55)) ∨ (((bookAll k55).length : Int) < ((bookAll k30).length : Int))) ∨ ((IntKind.i64.wrap (((bookAll k30).length : Int) + 1)) < ((bookAll k55).length : Int))) ∨ (¬ (((bookAll k55).take ((bookAll k30).length : Int).toNat) = (bookAll k30)))))))] K162 rfl ⟨rfl, (Ext.refl _ _ _), hM162⟩ (by repeat (first | exact Off.refl _ _ | refine Off.updO ?_ rfl _ | refine Off.updN ?_ _ | refine Off.lay ?_ rfl)) ⟨rfl, trivial⟩
        · skip
          have h := hq163 hp163
          refine WO_pure v137_0 rfl l0 hM162 (fun _ => R_mv rfl) rfl (gY rfl rfl rfl (decide_eq_false hp163)) rfl ?_
          refine WO_pure v39_0 rfl l0 hM162 (fun _ => R_mv rfl) rfl (gY rfl rfl rfl (decide_eq_false hp163)) rfl ?_
          refine WO_pure (.int .i64 ((bookAll k30).length : Int)) rfl l0 hM162 (fun _ => R_len rfl (hR146.V.mono (hS147.le.trans (hS158.le.trans (hS160.le.trans hS162.le)))) Try.underlying38) rfl (gY rfl rfl rfl (decide_eq_false hp163)) rfl ?_
          obtain ⟨hp165, h⟩ := h
          refine WO_V rfl l0 hM162 (S_slH rfl (hO137_0.V.mono (hS147.le.trans (hS158.le.trans (hS160.le.trans hS162.le)))) Try.underlying38 ty39 rfl hp165.1 hp165.2) rfl (gY rfl rfl rfl (decide_eq_false hp163)) rfl ?_
          rintro v164 (hV164 : kd_l_l_u8.V _ ((bookAll k55).take ((bookAll k30).length : Int).toNat) _)
          refine WO_pure v39_0 rfl l0 hM162 (fun _ => R_mv rfl) rfl (gY rfl rfl rfl (decide_eq_false hp163)) rfl ?_
          refine WO_eff0 rfl (gY rfl rfl rfl (decide_eq_false hp163)) rfl (St_call (R_call Try.call27 rfl) ((alike_c hM162 hV164 (hR146.V.mono (hS147.le.trans (hS158.le.trans (hS160.le.trans hS162.le))))).mono ?_))
          rintro _ w167 ⟨K167, v167_0, rfl, hS167, hM167, hV167_0⟩
          refine ⟨v167_0, rfl, ?_⟩
          refine ⟨K167, hS167, hM167, ?_⟩
          have hE167 := hE162.andN hS167
          obtain rfl := bool_form hV167_0
          refine WO_pure (.bool (decide (¬ (((bookAll k55).take ((bookAll k30).length : Int).toNat) = (bookAll k30))))) rfl l0 hM167 (fun _ => R_notd rfl) rfl (gY rfl rfl rfl (decide_eq_false hp163)) rfl ?_
          refine WO_pure (.bool (decide (((((¬ ((bookHas k55 b55) = true)) ∨ ((bookCalls k55) ≠ calls55)) ∨ (((bookAll k55).length : Int) < ((bookAll k30).length : Int))) ∨ ((IntKind.i64.wrap (((bookAll k30).length : Int) + 1)) < ((bookAll k55).length : Int))) ∨ (¬ (((bookAll k55).take ((bookAll k30).length : Int).toNat) = (bookAll k30)))))) rfl l0 hM167 (fun _ => R_pick2 rfl (decide_eq_false hp163) rfl (or_F hp163)) rfl (gN rfl) rfl ?_
          exact WO_end [(112, (.bool (decide (((((¬ ((bookHas k55 b55) = true)) ∨ ((bookCalls k55) ≠ calls55)) ∨ (((bookAll k55).length : Int) < ((bookAll k30).length : Int))) ∨ ((IntKind.i64.wrap (((bookAll k30).length : Int) + 1)) < ((bookAll k55).length : Int))) ∨ (¬ (((bookAll k55).take ((bookAll k30).length : Int).toNat) = (bookAll k30)))))))] K167 rfl ⟨rfl, ((Ext.refl _ _ _).andN hS167), hM167⟩ (by repeat (first | exact Off.refl _ _ | refine Off.updO ?_ rfl _ | refine Off.updN ?_ _ | refine Off.lay ?_ rfl)) ⟨rfl, trivial⟩
      rintro l σ168 w168 K168 ⟨rfl, hS168, hM168⟩
      have hE168 := hE162.andN hS168
      refine WO_nil ?_
      refine WP_cond (decide (((((¬ ((bookHas k55 b55) = true)) ∨ ((bookCalls k55) ≠ calls55)) ∨ (((bookAll k55).length : Int) < ((bookAll k30).length : Int))) ∨ ((IntKind.i64.wrap (((bookAll k30).length : Int) + 1)) < ((bookAll k55).length : Int))) ∨ (¬ (((bookAll k55).take ((bookAll k30).length : Int).toNat) = (bookAll k30))))) rfl (fun hc169 => ?_) (fun hc169 => ?_)
      · have hd169 : ((((¬ ((bookHas k55 b55) = true)) ∨ ((bookCalls k55) ≠ calls55)) ∨ (((bookAll k55).length : Int) < ((bookAll k30).length : Int))) ∨ ((IntKind.i64.wrap (((bookAll k30).length : Int) + 1)) < ((bookAll k55).length : Int))) ∨ (¬ (((bookAll k55).take ((bookAll k30).length : Int).toNat) = (bookAll k30))) := dec_t hc169
        have h := h.1 hd169
        refine WP_seq ?_
        refine WP_region ?_
        refine WL_pure (.bool false) (R_as rfl) rfl rfl ?_
        refine WL_nil ?_
        refine WP_ret ?_
        exact endR_ret hR (v := (.bool false)) (resE_1 rfl rfl) ⟨K168, (.bool false), false, rfl, h, hE168, hM168, bool_V⟩
      · have hd169 : ¬ (((((¬ ((bookHas k55 b55) = true)) ∨ ((bookCalls k55) ≠ calls55)) ∨ (((bookAll k55).length : Int) < ((bookAll k30).length : Int))) ∨ ((IntKind.i64.wrap (((bookAll k30).length : Int) + 1)) < ((bookAll k55).length : Int))) ∨ (¬ (((bookAll k55).take ((bookAll k30).length : Int).toNat) = (bookAll k30)))) := dec_f hc169
        have h := h.2 hd169
        refine WP_skip ?_
        refine WP_region ?_
        refine WL_pure (.int .i64 i30') (R_mv rfl) rfl rfl ?_
        refine WL_pure (.int .i64 (IntKind.i64.wrap (i30' + 1))) (R_add rfl rfl) rfl rfl ?_
        refine WL_pure (.int .i64 (IntKind.i64.wrap (i30' + 1))) (R_as rfl) rfl rfl ?_
        refine WL_nil ?_
        have hR170 := (((((hR145.extN hS147).extN hS158).extN hS160).extN hS162).extN hS168)
        refine BackQ.mk (i30, (IntKind.i64.wrap (i30' + 1)), k55) [(6, (.bool i30)), (8, (.int .i64 (IntKind.i64.wrap (i30' + 1))))] ?_ ?_ ?_ ?_
        rotate_left
        · exact h.2
        · repeat (first | exact Off.lay0 rfl | refine Off.updO ?_ rfl _ | refine Off.updN ?_ _ | refine Off.lay ?_ rfl)
        · repeat (first | exact trivial | refine ⟨rfl, ?_⟩)
        exact ⟨K168, F24_55, h.1, rfl, ((((((((((((Ext.refl _ _ _).comp hX31 (fun c hx hlt => (hx))).andN hS39).andN hS45).andN hS46).comp hX127 (fun c hx hlt => Or.elim hx (fun hx => ((((ho30_F24 c hx).elim (fun hz => (.inl hz)) (fun hz => .inr (Nat.le_trans (Nat.le_refl _) hz))) : F27 c ∨ w23.heap.size ≤ c).elim (fun hx => (hx)) (fun hz => absurd hlt (Nat.not_lt.2 hz)))) (fun hx => (by subst hx; exact absurd hlt (Nat.not_lt.2 (Nat.le_trans (Nat.le_trans hX31.size (Nat.le_trans hS39.size hS45.size)) hge46)))))).andN hS137).andN hS147).andN hS158).andN hS160).andN hS162).andN hS168), hM168, (wrap_wf _ _), hR170, (fun g hg => ((ho55_F24 g hg).elim (fun hz => ((ho30_F24 g hz).elim (fun hz => (.inl hz)) (fun hz => .inr (Nat.le_trans (Nat.le_refl _) hz)))) (fun hz => .inr (Nat.le_trans (Nat.le_trans hX31.size (Nat.le_trans hS39.size (Nat.le_trans hS45.size hS46.size))) hz))))⟩
    · have hd38 : ¬ (i30' < (a0_l.length : Int)) := dec_f hc38
      have h := h.2 hd38
      refine WP_exit ?_
      refine WP_seq ?_
      refine WP_region ?_
      refine WL_pure (.pointer (some ⟨b23, 0, none⟩)) (R_mv rfl) rfl rfl ?_
      refine WL_pure (.int .i64 a1_kind) (R_mv rfl) rfl rfl ?_
      refine WL_pure a2_parts_v (R_mv rfl) rfl rfl ?_
      obtain ⟨hp172, h⟩ := h
      refine WL_eff rfl rfl (St_call (R_call Try.call21 rfl) ((Of_c hM31 hL30_F24 (int_V (h_a1_kind).wf) (h_a2_parts.mono (hS3.le.trans (hS5.le.trans (hS10.le.trans (hS13.le.trans (hS18.le.trans (hS23.le.trans hX31.le))))))) hp172).mono ?_))
      rintro _ w171 ⟨K171, v171_0, u171_0, rfl, hS171, hM171, hV171_0, hu171_0, hxu171_0⟩
      refine ⟨v171_0, rfl, ?_⟩
      have hE171 := hE31.comp hS171 (fun c hx hlt => (fun g hg hlt => absurd hlt (Nat.not_lt.2 ((fun g hg => (ho30_F24 g hg).elim (fun hx => (fun g hg => Nat.le_trans hE18.size (hn27 g hg)) g hx) (fun hx => Nat.le_trans hE23.size hx)) g hg))) c hx hlt)
      have hR173 := (hR33.ext hS171 (fun g hg hx => (fun g hg hx => (fun g hg hy => (ho30_F24 g hg).elim (fun hz => (fun g hg hx => absurd (hR28.lt _ hx) (Nat.not_lt.2 (hn27 g hg))) g hz hy) (fun hz => absurd (hR36.lt _ hy) (Nat.not_lt.2 hz))) g hx hg) g hg hx))
      have hR174 := (hR35.ext hS171 (fun g hg hx => (fun g hg hx => (fun g hg hy => (ho30_F24 g hg).elim (fun hz => (fun g hg hx => absurd (hR29.lt _ hx) (Nat.not_lt.2 (hn27 g hg))) g hz hy) (fun hz => absurd (hR37.lt _ hy) (Nat.not_lt.2 hz))) g hx hg) g hg hx))
      have hs175 : ∀ g, u171_0 g → ¬ (ob v10 = some g) := fun g hg hy => (hxu171_0 g hg).elim (fun hx => (fun g hg hy => (ho30_F24 g hg).elim (fun hz => (fun g hg hx => absurd (hR28.lt _ hx) (Nat.not_lt.2 (hn27 g hg))) g hz hy) (fun hz => absurd (hR36.lt _ hy) (Nat.not_lt.2 hz))) g hx hy) (fun hx => absurd (hR33.lt _ hy) (Nat.not_lt.2 hx))
      have hs176 : ∀ g, u171_0 g → ¬ (ob v13 = some g) := fun g hg hy => (hxu171_0 g hg).elim (fun hx => (fun g hg hy => (ho30_F24 g hg).elim (fun hz => (fun g hg hx => absurd (hR29.lt _ hx) (Nat.not_lt.2 (hn27 g hg))) g hz hy) (fun hz => absurd (hR37.lt _ hy) (Nat.not_lt.2 hz))) g hx hy) (fun hx => absurd (hR35.lt _ hy) (Nat.not_lt.2 hx))
      have h := h hV171_0.wf
      refine WL_eff rfl rfl (St_B (S_alloc hM171 ty23) ?_)
      rintro b178 w178 (hB178 : Bx kd_a32_u8 _ _ _ _ _ (List.replicate 32 0)) hS178 hM178 hge178
      have hE178 := hE171.andN hS178
      refine WL_eff rfl rfl (St_St (S_stB (Foc.id _) hM178 rfl rfl (hV171_0.mono hS178.le) ty23 hB178 (by first | rfl | simp | omega)) ?_)
      rintro w180 (hB180 : Bx kd_a32_u8 _ _ b178 [] [] (sealOf a1_kind a2_parts)) hS180 hM180
      have hE180 := hE178.comp hS180 (fun c hx hlt => (by subst hx; exact (fun hlt => absurd hlt (Nat.not_lt.2 (Nat.le_trans hE171.size hge178))) hlt))
      refine WL_nil ?_
      refine WP_seq ?_
      refine WP_region ?_
      refine WL_pure (.pointer (some ⟨b23, 0, none⟩)) (R_mv rfl) rfl rfl ?_
      have hR181 := (hR173.extN hS178)
      have hR182 := (hR181.ext hS180 (fun g hg hx => (fun g hg hx => hR181.box hB178 (hg.trans (congrArg some hx))) g hg hx))
      have hR183 := (hR174.extN hS178)
      have hR184 := (hR183.ext hS180 (fun g hg hx => (fun g hg hx => hR183.box hB178 (hg.trans (congrArg some hx))) g hg hx))
      have hR185 := (hu171_0.extN hS178)
      have hR186 := (hR185.ext hS180 (fun g hg hx => (fun g hg hx => (fun g hg hx => lt_eq' (hu171_0.lt _ hx) hg hge178) g hx hg) g hg hx))
      obtain ⟨hp188, h⟩ := h
      refine WL_eff rfl rfl (St_call (R_call Try.call24 rfl) ((AllO_c hM180 hR186 hp188).mono ?_))
      rintro _ w187 ⟨K187, v187_0, rfl, hS187, hM187, hO187_0, hg187_0⟩
      refine ⟨v187_0, rfl, ?_⟩
      have hE187 := hE180.andN hS187
      have h := h hO187_0.wf
      refine WL_pure (.pointer (some ⟨b23, 0, none⟩)) (R_mv rfl) rfl rfl ?_
      have hR190 := (hR182.extN hS187)
      have hR191 := (hR184.extN hS187)
      have hR192 := (hR186.extN hS187)
      have hR193 := (hB180.extN hS187)
      refine WL_eff rfl rfl (St_call (R_call Try.call23 rfl) ((CallsO_c hM187 hR192).mono ?_))
      rintro _ w194 ⟨K194, v194_0, rfl, hS194, hM194, hV194_0⟩
      refine ⟨v194_0, rfl, ?_⟩
      have hE194 := hE187.andN hS194
      obtain rfl := int_form hV194_0
      have h := h hV194_0.wf
      refine WL_pure v187_0 (R_as rfl) rfl rfl ?_
      refine WL_pure (.int .i64 (bookCalls (bookOf k30 a1_kind a2_parts))) (R_as rfl) rfl rfl ?_
      refine WL_nil ?_
      refine WP_seq ?_
      have hR195 := (hR192.extN hS194)
      have hR196 := (hR193.extN hS194)
      refine WP_ordD (K := K194) (fun c => u171_0 c ∨ w194.heap.size ≤ c) [.o 0 3, .o 1 3, .o 2 3, .o 4 3, .o 3 1, .o 5 3, .o 6 3, .o 7 3, .o 9 3, .o 8 1, .o 10 1, .o 11 3, .o 12 3, .o 13 3, .o 15 3, .o 16 3, .o 14 1, .o 17 3, .o 18 3, .o 19 3, .o 20 1, .o 21 3, .o 22 3] (by kernel_rfl) (by kernel_rfl) hM194 ?_
      rintro w197 hS197 hM197
      have hE197 := hE194.andN hS197
      refine WO_pure (.pointer (some ⟨b23, 0, none⟩)) rfl l3 hM197 (fun _ => R_mv rfl) rfl (gN rfl) rfl ?_
      refine WO_pure (.int .i64 a1_kind) rfl l3 hM197 (fun _ => R_mv rfl) rfl (gN rfl) rfl ?_
      refine WO_pure a2_parts_v rfl l3 hM197 (fun _ => R_mv rfl) rfl (gN rfl) rfl ?_
      have hR199 := (hR196.extN hS197)
      refine WO_L hM197 (S_ldB (Foc.id _) rfl ty23 hR199 (by first | rfl | simp | omega) (fun hx => Or.elim hx (fun hx => (fun g hg hx => lt_eq' (hu171_0.lt _ hx) hg hge178) b178 rfl hx) (fun hx => absurd hR196.lt (Nat.not_lt.2 hx)))) rfl (gN rfl) rfl ?_
      rintro v198 (hV198 : kd_a32_u8.V _ (sealOf a1_kind a2_parts) _)
      have hR201 := ((hR190.extN hS194).extN hS197)
      have hR202 := ((hR191.extN hS194).extN hS197)
      have hR203 := (hR195.extN hS197)
      have hR204 := ((hO187_0.extN hS194).extN hS197)
      obtain ⟨hp206, h⟩ := h
      refine WO_eff rfl (gN rfl) rfl (St_call (R_call Try.call21 rfl) ((Of_c hM197 hR203 (int_V (h_a1_kind).wf) (h_a2_parts.mono (hS3.le.trans (hS5.le.trans (hS10.le.trans (hS13.le.trans (hS18.le.trans (hS23.le.trans (hX31.le.trans (hS171.le.trans (hS178.le.trans (hS180.le.trans (hS187.le.trans (hS194.le.trans hS197.le))))))))))))) hp206).mono ?_))
      rintro _ w205 ⟨K205, v205_0, u205_0, rfl, hS205, hM205, hV205_0, hu205_0, hxu205_0⟩
      refine ⟨v205_0, rfl, ?_⟩
      refine ⟨K205, (hS205.weak (fun c hlt hx => (.inl (hx)))), hM205, ?_⟩
      have hE205 := hE197.comp hS205 (fun c hx hlt => (fun g hg hlt => absurd hlt (Nat.not_lt.2 ((fun g hg => (hxu171_0 g hg).elim (fun hx => (fun g hg => (ho30_F24 g hg).elim (fun hx => (fun g hg => Nat.le_trans hE18.size (hn27 g hg)) g hx) (fun hx => Nat.le_trans hE23.size hx)) g hx) (fun hx => Nat.le_trans hE31.size hx)) g hg))) c hx hlt)
      have hR207 := (hR201.ext hS205 (fun g hg hx => (fun g hg hx => hs175 g hx hg) g hg hx))
      have hR208 := (hR202.ext hS205 (fun g hg hx => (fun g hg hx => hs176 g hx hg) g hg hx))
      have hR209 := (hR199.ext hS205 (fun hx => (fun g hg hx => lt_eq' (hu171_0.lt _ hx) hg hge178) b178 rfl hx))
      have hR210 := (hR204.ext hS205 (fun g hg hx => (fun g hg hx => absurd (hR186.lt _ hx) (Nat.not_lt.2 (hg187_0 g hg))) g hg hx))
      have hs211 : ∀ g, u205_0 g → ¬ (ob v10 = some g) := fun g hg hy => (hxu205_0 g hg).elim (fun hx => hs175 g hx hy) (fun hx => absurd (hR201.lt _ hy) (Nat.not_lt.2 hx))
      have hs212 : ∀ g, u205_0 g → ¬ (ob v13 = some g) := fun g hg hy => (hxu205_0 g hg).elim (fun hx => hs176 g hx hy) (fun hx => absurd (hR202.lt _ hy) (Nat.not_lt.2 hx))
      have hs213 : ∀ g, u205_0 g → ¬ (g = b178) := fun g hg hy => (hxu205_0 g hg).elim (fun hx => (fun g hg hx => (fun g hg hx => lt_eq' (hu171_0.lt _ hx) hg hge178) g hx hg) g hx hy) (fun hx => lt_eq hR199.lt hy hx)
      have hs214 : ∀ g, u205_0 g → ¬ (ob v187_0 = some g) := fun g hg hy => (hxu205_0 g hg).elim (fun hx => (fun g hg hx => (fun g hg hx => absurd (hR186.lt _ hx) (Nat.not_lt.2 (hg187_0 g hg))) g hx hg) g hx hy) (fun hx => absurd (hR204.lt _ hy) (Nat.not_lt.2 hx))
      have h := h hV205_0.wf
      refine WO_pure (.bool (decide ((sealOf a1_kind a2_parts) = (sealOf a1_kind a2_parts)))) rfl l3 hM205 (fun _ => R_aeql rfl rfl hV205_0 (hV198.mono hS205.le) Try.underlying23 Try.underlying5 ty5b (by kernel_rfl)) rfl (gN rfl) rfl ?_
      refine WO_pure (.bool (decide ((sealOf a1_kind a2_parts) = (sealOf a1_kind a2_parts)))) rfl l3 hM205 (fun _ => R_mv rfl) rfl (gN rfl) rfl ?_
      obtain ⟨hq216, h⟩ := h
      refine WO_meet (al := false) (l1 := [.o 7 3, .o 9 3, .o 8 1, .o 10 1, .o 11 3]) [128, 129, 130, 131, 132] (fun c => u171_0 c ∨ w194.heap.size ≤ c) (fun l w K => l = [(132, (.bool (decide (((sealOf a1_kind a2_parts) = (sealOf a1_kind a2_parts)) ∧ ((bookAll (bookOf (bookOf k30 a1_kind a2_parts) a1_kind a2_parts)) = (bookAll (bookOf k30 a1_kind a2_parts)))))))] ∧ Ext NX w205 K205 w K ∧ Models w K) ?_ ?_
      · rcases Classical.em ((sealOf a1_kind a2_parts) = (sealOf a1_kind a2_parts)) with hp216 | hp216
        · skip
          have h := hq216 hp216
          refine WO_pure (.pointer (some ⟨b23, 0, none⟩)) rfl l3 hM205 (fun _ => R_mv rfl) rfl (gY rfl rfl rfl (decide_eq_true hp216)) rfl ?_
          refine WO_pure v187_0 rfl l3 hM205 (fun _ => R_mv rfl) rfl (gY rfl rfl rfl (decide_eq_true hp216)) rfl ?_
          obtain ⟨hp218, h⟩ := h
          refine WO_eff rfl (gY rfl rfl rfl (decide_eq_true hp216)) rfl (St_call (R_call Try.call24 rfl) ((AllO_c hM205 hu205_0 hp218).mono ?_))
          rintro _ w217 ⟨K217, v217_0, rfl, hS217, hM217, hO217_0, hg217_0⟩
          refine ⟨v217_0, rfl, ?_⟩
          refine ⟨K217, hS217.ofN, hM217, ?_⟩
          have hE217 := hE205.andN hS217
          have h := h hO217_0.wf
          refine WO_eff rfl (gY rfl rfl rfl (decide_eq_true hp216)) rfl (St_call (R_call Try.call27 rfl) ((alike_c hM217 hO217_0.V (hR210.V.mono hS217.le)).mono ?_))
          rintro _ w220 ⟨K220, v220_0, rfl, hS220, hM220, hV220_0⟩
          refine ⟨v220_0, rfl, ?_⟩
          refine ⟨K220, hS220.ofN, hM220, ?_⟩
          have hE220 := hE217.andN hS220
          obtain rfl := bool_form hV220_0
          refine WO_pure (.bool (decide (((sealOf a1_kind a2_parts) = (sealOf a1_kind a2_parts)) ∧ ((bookAll (bookOf (bookOf k30 a1_kind a2_parts) a1_kind a2_parts)) = (bookAll (bookOf k30 a1_kind a2_parts)))))) rfl l3 hM220 (fun _ => R_pick1 rfl (decide_eq_true hp216) rfl (and_T hp216)) rfl (gN rfl) rfl ?_
          exact WO_end [(132, (.bool (decide (((sealOf a1_kind a2_parts) = (sealOf a1_kind a2_parts)) ∧ ((bookAll (bookOf (bookOf k30 a1_kind a2_parts) a1_kind a2_parts)) = (bookAll (bookOf k30 a1_kind a2_parts)))))))] K220 rfl ⟨rfl, (((Ext.refl _ _ _).andN hS217).andN hS220), hM220⟩ (by repeat (first | exact Off.refl _ _ | refine Off.updO ?_ rfl _ | refine Off.updN ?_ _ | refine Off.lay ?_ rfl)) ⟨rfl, trivial⟩
        · skip
          refine WO_skip _ hM205 l3 rfl (gF rfl rfl rfl (decide_eq_false hp216)) rfl ?_
          refine WO_skip _ hM205 l3 rfl (gF rfl rfl rfl (decide_eq_false hp216)) rfl ?_
          refine WO_skip _ hM205 l1 rfl (gF rfl rfl rfl (decide_eq_false hp216)) rfl ?_
          refine WO_skip _ hM205 l1 rfl (gF rfl rfl rfl (decide_eq_false hp216)) rfl ?_
          refine WO_pure (.bool (decide (((sealOf a1_kind a2_parts) = (sealOf a1_kind a2_parts)) ∧ ((bookAll (bookOf (bookOf k30 a1_kind a2_parts) a1_kind a2_parts)) = (bookAll (bookOf k30 a1_kind a2_parts)))))) rfl l3 hM205 (fun _ => R_pick2 rfl (decide_eq_false hp216) rfl (and_F hp216)) rfl (gN rfl) rfl ?_
          exact WO_end [(132, (.bool (decide (((sealOf a1_kind a2_parts) = (sealOf a1_kind a2_parts)) ∧ ((bookAll (bookOf (bookOf k30 a1_kind a2_parts) a1_kind a2_parts)) = (bookAll (bookOf k30 a1_kind a2_parts)))))))] K205 rfl ⟨rfl, (Ext.refl _ _ _), hM205⟩ (by repeat (first | exact Off.refl _ _ | refine Off.updO ?_ rfl _ | refine Off.updN ?_ _ | refine Off.lay ?_ rfl)) ⟨rfl, trivial⟩
      rintro l σ221 w221 K221 ⟨rfl, hS221, hM221⟩
      have hE221 := hE205.andN hS221
      refine WO_pure (.bool (decide (((sealOf a1_kind a2_parts) = (sealOf a1_kind a2_parts)) ∧ ((bookAll (bookOf (bookOf k30 a1_kind a2_parts) a1_kind a2_parts)) = (bookAll (bookOf k30 a1_kind a2_parts)))))) rfl l3 hM221 (fun _ => R_mv rfl) rfl (gN rfl) rfl ?_
      refine WO_meet (al := false) (l1 := [.o 13 3, .o 15 3, .o 16 3, .o 14 1, .o 17 3, .o 18 3]) [134, 135, 136, 137, 138, 139] (fun c => u171_0 c ∨ w194.heap.size ≤ c) (fun l w K => l = [(139, (.bool (decide ((((sealOf a1_kind a2_parts) = (sealOf a1_kind a2_parts)) ∧ ((bookAll (bookOf (bookOf k30 a1_kind a2_parts) a1_kind a2_parts)) = (bookAll (bookOf k30 a1_kind a2_parts)))) ∧ ((bookCalls (bookOf (bookOf k30 a1_kind a2_parts) a1_kind a2_parts)) = (IntKind.i64.wrap ((bookCalls (bookOf k30 a1_kind a2_parts)) + 1)))))))] ∧ Ext NX w221 K221 w K ∧ Models w K) ?_ ?_
      · rcases Classical.em (((sealOf a1_kind a2_parts) = (sealOf a1_kind a2_parts)) ∧ ((bookAll (bookOf (bookOf k30 a1_kind a2_parts) a1_kind a2_parts)) = (bookAll (bookOf k30 a1_kind a2_parts)))) with hp222 | hp222
        · skip
          refine WO_pure (.pointer (some ⟨b23, 0, none⟩)) rfl l3 hM221 (fun _ => R_mv rfl) rfl (gY rfl rfl rfl (decide_eq_true hp222)) rfl ?_
          refine WO_pure (.int .i64 (bookCalls (bookOf k30 a1_kind a2_parts))) rfl l3 hM221 (fun _ => R_mv rfl) rfl (gY rfl rfl rfl (decide_eq_true hp222)) rfl ?_
          refine WO_pure (.int .i64 (IntKind.i64.wrap ((bookCalls (bookOf k30 a1_kind a2_parts)) + 1))) rfl l3 hM221 (fun _ => R_add rfl rfl) rfl (gY rfl rfl rfl (decide_eq_true hp222)) rfl ?_
          have hR223 := (hR207.extN hS221)
          have hR224 := (hR208.extN hS221)
          have hR225 := (hu205_0.extN hS221)
          have hR226 := (hR209.extN hS221)
          have hR227 := (hR210.extN hS221)
          refine WO_eff rfl (gY rfl rfl rfl (decide_eq_true hp222)) rfl (St_call (R_call Try.call23 rfl) ((CallsO_c hM221 hR225).mono ?_))
          rintro _ w228 ⟨K228, v228_0, rfl, hS228, hM228, hV228_0⟩
          refine ⟨v228_0, rfl, ?_⟩
          refine ⟨K228, hS228.ofN, hM228, ?_⟩
          have hE228 := hE221.andN hS228
          obtain rfl := int_form hV228_0
          refine WO_pure (.bool (decide ((bookCalls (bookOf (bookOf k30 a1_kind a2_parts) a1_kind a2_parts)) = (IntKind.i64.wrap ((bookCalls (bookOf k30 a1_kind a2_parts)) + 1))))) rfl l3 hM228 (fun _ => R_eql rfl rfl) rfl (gY rfl rfl rfl (decide_eq_true hp222)) rfl ?_
          refine WO_pure (.bool (decide ((((sealOf a1_kind a2_parts) = (sealOf a1_kind a2_parts)) ∧ ((bookAll (bookOf (bookOf k30 a1_kind a2_parts) a1_kind a2_parts)) = (bookAll (bookOf k30 a1_kind a2_parts)))) ∧ ((bookCalls (bookOf (bookOf k30 a1_kind a2_parts) a1_kind a2_parts)) = (IntKind.i64.wrap ((bookCalls (bookOf k30 a1_kind a2_parts)) + 1)))))) rfl l3 hM228 (fun _ => R_pick1 rfl (decide_eq_true hp222) rfl (and_T hp222)) rfl (gN rfl) rfl ?_
          exact WO_end [(139, (.bool (decide ((((sealOf a1_kind a2_parts) = (sealOf a1_kind a2_parts)) ∧ ((bookAll (bookOf (bookOf k30 a1_kind a2_parts) a1_kind a2_parts)) = (bookAll (bookOf k30 a1_kind a2_parts)))) ∧ ((bookCalls (bookOf (bookOf k30 a1_kind a2_parts) a1_kind a2_parts)) = (IntKind.i64.wrap ((bookCalls (bookOf k30 a1_kind a2_parts)) + 1)))))))] K228 rfl ⟨rfl, ((Ext.refl _ _ _).andN hS228), hM228⟩ (by repeat (first | exact Off.refl _ _ | refine Off.updO ?_ rfl _ | refine Off.updN ?_ _ | refine Off.lay ?_ rfl)) ⟨rfl, trivial⟩
        · skip
          refine WO_skip _ hM221 l3 rfl (gF rfl rfl rfl (decide_eq_false hp222)) rfl ?_
          refine WO_skip _ hM221 l3 rfl (gF rfl rfl rfl (decide_eq_false hp222)) rfl ?_
          refine WO_skip _ hM221 l3 rfl (gF rfl rfl rfl (decide_eq_false hp222)) rfl ?_
          refine WO_skip _ hM221 l1 rfl (gF rfl rfl rfl (decide_eq_false hp222)) rfl ?_
          refine WO_skip _ hM221 l3 rfl (gF rfl rfl rfl (decide_eq_false hp222)) rfl ?_
          refine WO_pure (.bool (decide ((((sealOf a1_kind a2_parts) = (sealOf a1_kind a2_parts)) ∧ ((bookAll (bookOf (bookOf k30 a1_kind a2_parts) a1_kind a2_parts)) = (bookAll (bookOf k30 a1_kind a2_parts)))) ∧ ((bookCalls (bookOf (bookOf k30 a1_kind a2_parts) a1_kind a2_parts)) = (IntKind.i64.wrap ((bookCalls (bookOf k30 a1_kind a2_parts)) + 1)))))) rfl l3 hM221 (fun _ => R_pick2 rfl (decide_eq_false hp222) rfl (and_F hp222)) rfl (gN rfl) rfl ?_
          exact WO_end [(139, (.bool (decide ((((sealOf a1_kind a2_parts) = (sealOf a1_kind a2_parts)) ∧ ((bookAll (bookOf (bookOf k30 a1_kind a2_parts) a1_kind a2_parts)) = (bookAll (bookOf k30 a1_kind a2_parts)))) ∧ ((bookCalls (bookOf (bookOf k30 a1_kind a2_parts) a1_kind a2_parts)) = (IntKind.i64.wrap ((bookCalls (bookOf k30 a1_kind a2_parts)) + 1)))))))] K221 rfl ⟨rfl, (Ext.refl _ _ _), hM221⟩ (by repeat (first | exact Off.refl _ _ | refine Off.updO ?_ rfl _ | refine Off.updN ?_ _ | refine Off.lay ?_ rfl)) ⟨rfl, trivial⟩
      rintro l σ229 w229 K229 ⟨rfl, hS229, hM229⟩
      have hE229 := hE221.andN hS229
      refine WO_pure (.bool (decide ((((sealOf a1_kind a2_parts) = (sealOf a1_kind a2_parts)) ∧ ((bookAll (bookOf (bookOf k30 a1_kind a2_parts) a1_kind a2_parts)) = (bookAll (bookOf k30 a1_kind a2_parts)))) ∧ ((bookCalls (bookOf (bookOf k30 a1_kind a2_parts) a1_kind a2_parts)) = (IntKind.i64.wrap ((bookCalls (bookOf k30 a1_kind a2_parts)) + 1)))))) rfl l3 hM229 (fun _ => R_mv rfl) rfl (gN rfl) rfl ?_
      refine WO_meet (al := false) (l1 := [.o 20 1, .o 21 3]) [141, 142] (fun c => u171_0 c ∨ w194.heap.size ≤ c) (fun l w K => l = [(142, (.bool (decide (((((sealOf a1_kind a2_parts) = (sealOf a1_kind a2_parts)) ∧ ((bookAll (bookOf (bookOf k30 a1_kind a2_parts) a1_kind a2_parts)) = (bookAll (bookOf k30 a1_kind a2_parts)))) ∧ ((bookCalls (bookOf (bookOf k30 a1_kind a2_parts) a1_kind a2_parts)) = (IntKind.i64.wrap ((bookCalls (bookOf k30 a1_kind a2_parts)) + 1)))) ∧ (true = true)))))] ∧ Ext NX w229 K229 w K ∧ Models w K) ?_ ?_
      · rcases Classical.em ((((sealOf a1_kind a2_parts) = (sealOf a1_kind a2_parts)) ∧ ((bookAll (bookOf (bookOf k30 a1_kind a2_parts) a1_kind a2_parts)) = (bookAll (bookOf k30 a1_kind a2_parts)))) ∧ ((bookCalls (bookOf (bookOf k30 a1_kind a2_parts) a1_kind a2_parts)) = (IntKind.i64.wrap ((bookCalls (bookOf k30 a1_kind a2_parts)) + 1)))) with hp230 | hp230
        · skip
          refine WO_eff rfl (gY rfl rfl rfl (decide_eq_true hp230)) rfl (St_call (R_call Try.call14 rfl) ((awake3_c hM229 ).mono ?_))
          rintro _ w231 ⟨K231, v231_0, rfl, hS231, hM231, hV231_0⟩
          refine ⟨v231_0, rfl, ?_⟩
          refine ⟨K231, hS231.ofN, hM231, ?_⟩
          have hE231 := hE229.andN hS231
          obtain rfl := bool_form hV231_0
          refine WO_pure (.bool (decide (((((sealOf a1_kind a2_parts) = (sealOf a1_kind a2_parts)) ∧ ((bookAll (bookOf (bookOf k30 a1_kind a2_parts) a1_kind a2_parts)) = (bookAll (bookOf k30 a1_kind a2_parts)))) ∧ ((bookCalls (bookOf (bookOf k30 a1_kind a2_parts) a1_kind a2_parts)) = (IntKind.i64.wrap ((bookCalls (bookOf k30 a1_kind a2_parts)) + 1)))) ∧ (true = true)))) rfl l3 hM231 (fun _ => R_pick1 rfl (decide_eq_true hp230) rfl (and_T' hp230)) rfl (gN rfl) rfl ?_
          exact WO_end [(142, (.bool (decide (((((sealOf a1_kind a2_parts) = (sealOf a1_kind a2_parts)) ∧ ((bookAll (bookOf (bookOf k30 a1_kind a2_parts) a1_kind a2_parts)) = (bookAll (bookOf k30 a1_kind a2_parts)))) ∧ ((bookCalls (bookOf (bookOf k30 a1_kind a2_parts) a1_kind a2_parts)) = (IntKind.i64.wrap ((bookCalls (bookOf k30 a1_kind a2_parts)) + 1)))) ∧ (true = true)))))] K231 rfl ⟨rfl, ((Ext.refl _ _ _).andN hS231), hM231⟩ (by repeat (first | exact Off.refl _ _ | refine Off.updO ?_ rfl _ | refine Off.updN ?_ _ | refine Off.lay ?_ rfl)) ⟨rfl, trivial⟩
        · skip
          refine WO_skip _ hM229 l1 rfl (gF rfl rfl rfl (decide_eq_false hp230)) rfl ?_
          refine WO_pure (.bool (decide (((((sealOf a1_kind a2_parts) = (sealOf a1_kind a2_parts)) ∧ ((bookAll (bookOf (bookOf k30 a1_kind a2_parts) a1_kind a2_parts)) = (bookAll (bookOf k30 a1_kind a2_parts)))) ∧ ((bookCalls (bookOf (bookOf k30 a1_kind a2_parts) a1_kind a2_parts)) = (IntKind.i64.wrap ((bookCalls (bookOf k30 a1_kind a2_parts)) + 1)))) ∧ (true = true)))) rfl l3 hM229 (fun _ => R_pick2 rfl (decide_eq_false hp230) rfl (and_F hp230)) rfl (gN rfl) rfl ?_
          exact WO_end [(142, (.bool (decide (((((sealOf a1_kind a2_parts) = (sealOf a1_kind a2_parts)) ∧ ((bookAll (bookOf (bookOf k30 a1_kind a2_parts) a1_kind a2_parts)) = (bookAll (bookOf k30 a1_kind a2_parts)))) ∧ ((bookCalls (bookOf (bookOf k30 a1_kind a2_parts) a1_kind a2_parts)) = (IntKind.i64.wrap ((bookCalls (bookOf k30 a1_kind a2_parts)) + 1)))) ∧ (true = true)))))] K229 rfl ⟨rfl, (Ext.refl _ _ _), hM229⟩ (by repeat (first | exact Off.refl _ _ | refine Off.updO ?_ rfl _ | refine Off.updN ?_ _ | refine Off.lay ?_ rfl)) ⟨rfl, trivial⟩
      rintro l σ232 w232 K232 ⟨rfl, hS232, hM232⟩
      have hE232 := hE229.andN hS232
      refine WO_pure (.bool (decide (((((sealOf a1_kind a2_parts) = (sealOf a1_kind a2_parts)) ∧ ((bookAll (bookOf (bookOf k30 a1_kind a2_parts) a1_kind a2_parts)) = (bookAll (bookOf k30 a1_kind a2_parts)))) ∧ ((bookCalls (bookOf (bookOf k30 a1_kind a2_parts) a1_kind a2_parts)) = (IntKind.i64.wrap ((bookCalls (bookOf k30 a1_kind a2_parts)) + 1)))) ∧ (true = true)))) rfl l3 hM232 (fun _ => R_as rfl) rfl (gN rfl) rfl ?_
      refine WO_nil ?_
      refine WP_ret ?_
      exact endR_ret hR (v := (.bool (decide (((((sealOf a1_kind a2_parts) = (sealOf a1_kind a2_parts)) ∧ ((bookAll (bookOf (bookOf k30 a1_kind a2_parts) a1_kind a2_parts)) = (bookAll (bookOf k30 a1_kind a2_parts)))) ∧ ((bookCalls (bookOf (bookOf k30 a1_kind a2_parts) a1_kind a2_parts)) = (IntKind.i64.wrap ((bookCalls (bookOf k30 a1_kind a2_parts)) + 1)))) ∧ (true = true))))) (resE_1 rfl rfl) ⟨K232, (.bool (decide (((((sealOf a1_kind a2_parts) = (sealOf a1_kind a2_parts)) ∧ ((bookAll (bookOf (bookOf k30 a1_kind a2_parts) a1_kind a2_parts)) = (bookAll (bookOf k30 a1_kind a2_parts)))) ∧ ((bookCalls (bookOf (bookOf k30 a1_kind a2_parts) a1_kind a2_parts)) = (IntKind.i64.wrap ((bookCalls (bookOf k30 a1_kind a2_parts)) + 1)))) ∧ (true = true)))), (decide (((((sealOf a1_kind a2_parts) = (sealOf a1_kind a2_parts)) ∧ ((bookAll (bookOf (bookOf k30 a1_kind a2_parts) a1_kind a2_parts)) = (bookAll (bookOf k30 a1_kind a2_parts)))) ∧ ((bookCalls (bookOf (bookOf k30 a1_kind a2_parts) a1_kind a2_parts)) = (IntKind.i64.wrap ((bookCalls (bookOf k30 a1_kind a2_parts)) + 1)))) ∧ (true = true))), rfl, h, hE232, hM232, bool_V⟩
theorem SealGrows_c {w0 : World} {K0 : Ghost} {a0_l_v : Value} {a0_l : (List (Int × (Int × ((List (List UInt8)) × ((List UInt8) × (List UInt8))))))} {a1_kind_v : Value} {a1_kind : Int} {a2_parts_v : Value} {a2_parts : (List (List UInt8))} (hM0 : Models w0 K0) (h_a0_l : kd_l_Sincipitlaw03_Act.V K0 a0_l a0_l_v) (h_a1_kind : (Kd.int .i64).V K0 a1_kind a1_kind_v) (h_a2_parts : kd_l_l_u8.V K0 a2_parts a2_parts_v) (hp : a0_l.length ≤ 1048576) : Calls Try.prog 8 #[a0_l_v, a1_kind_v, a2_parts_v] w0 (fun e w' => ∃ (K' : Ghost) (r0 : Value), e = .returned r0 ∧ Ext NX w0 K0 w' K' ∧ Models w' K' ∧ Kd.bool.V K' true r0) := by
  refine (SealGrows_walk hM0 h_a0_l h_a1_kind h_a2_parts (SealGrows_ok h_a0_l.wf h_a1_kind.wf h_a2_parts.wf hp)).mono ?_
  rintro _ w' ⟨K', r0, o0, rfl, rfl, hF⟩
  exact ⟨K', r0, rfl, hF⟩
end Go.Proofs.Ytfbhiilolpamaaa
