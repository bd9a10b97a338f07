/- Each function that stands here: what its call must answer for (_VC), that it does (_ok), the walk through its code (_walk), its contract (_c). -/
import Derived.Test.YtfbhiilolpamaaaS8
import Derived.Test.YtfbhiilolpamaaaChecked
set_option linter.unusedVariables false
set_option maxRecDepth 100000
set_option maxHeartbeats 2000000
namespace Go.Proofs.Ytfbhiilolpamaaa
open Go Go.RowKit Go.Inc
abbrev kd_Sseal_notesF : Kd ((List ((List UInt8) × (List UInt8))) × Unit) := (Kd.pr kd_l_Sseal_note Kd.anm)
abbrev kd_Sseal_BookF : Kd (((List ((List UInt8) × (List UInt8))) × Unit) × Int) := (Kd.pr kd_Sseal_notesF (Kd.int .i64))
abbrev kd_p_Sseal_BookF : Kd (Option (((List ((List UInt8) × (List UInt8))) × Unit) × Int)) := (Kd.ptr kd_Sseal_BookF)
abbrev kd_l_p_Sseal_BookF : Kd (List (Option (((List ((List UInt8) × (List UInt8))) × Unit) × Int))) := (Kd.sl kd_p_Sseal_BookF)
theorem ty32 : TyOk Try.prog 32 kd_Sseal_Book 40 := ⟨⟨Try.t32, _, Try.type32, rfl, rfl, rfl, rfl, rfl⟩, ⟨_, Try.underlying32, rfl⟩⟩
theorem ty26b : TyOk Try.prog 26 kd_p_Sseal_BookF 8 := ⟨⟨Try.t26, _, Try.type26, rfl, rfl, rfl, rfl, rfl⟩, ⟨_, Try.underlying26, rfl⟩⟩
theorem ty30F : TyOk Try.prog 30 kd_Sseal_notesF 32 := ⟨⟨Try.t30, _, Try.type30, rfl, rfl, rfl, rfl, rfl⟩, ⟨_, Try.underlying30, rfl⟩⟩
theorem ty27 : TyOk Try.prog 27 kd_l_Sseal_note 24 := ⟨⟨Try.t27, _, Try.type27, rfl, rfl, rfl, rfl, rfl⟩, ⟨_, Try.underlying27, rfl⟩⟩
theorem fs32 {fs : Array Field} (h : Try.prog.underlying 32 = some (.struct fs)) : ∀ f ∈ fs.toList, ∃ i, Try.prog.info? f.type = some i := by
  have h2 := (Try.underlying32).symm.trans h
  cases h2
  intro f hf
  simp only [List.mem_cons, List.not_mem_nil, or_false] at hf
  rcases hf with rfl | rfl
  · exact ⟨_, Try.type30⟩
  · exact ⟨_, Try.type3⟩
def Clash_VC (a0_l : (List (Option (((List ((List UInt8) × (List UInt8))) × Unit) × Int)))) (Q : (List UInt8) → (List UInt8) → Bool → Prop) : Prop :=
  ∃ (I10 : (List UInt8) → (List UInt8) → Bool → Int → (List ((List UInt8) × (List UInt8))) → (List ((List UInt8) × Int)) → Prop) (μ10 : (List UInt8) → (List UInt8) → Bool → Int → (List ((List UInt8) × (List UInt8))) → (List ((List UInt8) × Int)) → Nat), I10 ([] : List UInt8) ([] : List UInt8) false 0 ([] : List ((List UInt8) × (List UInt8))) ([] : List ((List UInt8) × Int)) ∧ ∀ (a10 : (List UInt8)) (b10 : (List UInt8)) (found10 : Bool) (i10 : Int) (y10 : (List ((List UInt8) × (List UInt8)))) (y10' : (List ((List UInt8) × Int))), I10 a10 b10 found10 i10 y10 y10' → (kd_l_u8.wf a10) → (kd_l_u8.wf b10) → ((Kd.int .i64).wf i10) → (kd_l_Sseal_note.wf y10) → (((i10 < (a0_l.length : Int)) → (0 ≤ i10 ∧ i10 < (a0_l.length : Int)) ∧ (((((ix a0_l i10).isNone) = true) → I10 a10 b10 found10 (i10 + 1) y10 y10' ∧ μ10 a10 b10 found10 (i10 + 1) y10 y10' < μ10 a10 b10 found10 i10 y10 y10') ∧ ((((ix a0_l i10).isNone) = false) → ∀ (y20 : (((List ((List UInt8) × (List UInt8))) × Unit) × Int)), (ix a0_l i10) = some y20 → (∃ (I28 : (List UInt8) → (List UInt8) → Bool → Int → (List ((List UInt8) × (List UInt8))) → (List ((List UInt8) × Int)) → Prop) (μ28 : (List UInt8) → (List UInt8) → Bool → Int → (List ((List UInt8) × (List UInt8))) → (List ((List UInt8) × Int)) → Nat), I28 a10 b10 found10 0 y10 y10' ∧ ∀ (a28 : (List UInt8)) (b28 : (List UInt8)) (found28 : Bool) (i28 : Int) (y28 : (List ((List UInt8) × (List UInt8)))) (y28' : (List ((List UInt8) × Int))), I28 a28 b28 found28 i28 y28 y28' → (kd_l_u8.wf a28) → (kd_l_u8.wf b28) → ((Kd.int .i64).wf i28) → (kd_l_Sseal_note.wf y28) → (((i28 < (y20.1.1.length : Int)) → (0 ≤ i28 ∧ i28 < (y20.1.1.length : Int)) ∧ (((((mfind ((ix y20.1.1 i28).1) y28').isSome) = true) → ((0 ≤ ((mfind ((ix y20.1.1 i28).1) y28').getD 0) ∧ ((mfind ((ix y20.1.1 i28).1) y28').getD 0) < (y28.length : Int)) ∧ (True))) ∧ ((((((mfind ((ix y20.1.1 i28).1) y28').isSome) = true) ∧ (¬ (((ix y28 ((mfind ((ix y20.1.1 i28).1) y28').getD 0)).2) = ((ix y20.1.1 i28).2)))) → (0 ≤ ((mfind ((ix y20.1.1 i28).1) y28').getD 0) ∧ ((mfind ((ix y20.1.1 i28).1) y28').getD 0) < (y28.length : Int)) ∧ ((((ix y28 ((mfind ((ix y20.1.1 i28).1) y28').getD 0)).2).length ≤ 140737488355328) ∧ ((kd_l_u8.wf ((ix y28 ((mfind ((ix y20.1.1 i28).1) y28').getD 0)).2)) → ((((ix y20.1.1 i28).2).length ≤ 140737488355328) ∧ ((kd_l_u8.wf ((ix y20.1.1 i28).2)) → (Q ((ix y28 ((mfind ((ix y20.1.1 i28).1) y28').getD 0)).2) ((ix y20.1.1 i28).2) true)))))) ∧ ((¬ ((((mfind ((ix y20.1.1 i28).1) y28').isSome) = true) ∧ (¬ (((ix y28 ((mfind ((ix y20.1.1 i28).1) y28').getD 0)).2) = ((ix y20.1.1 i28).2))))) → (BookInv y28 y28' ∧ ((ix y20.1.1 i28).2).length ≤ 140737488355328 ∧ (y28.length + 1) * 64 ≤ 140737488355328) ∧ (I28 a28 b28 found28 (i28 + 1) (addL y28 ((ix y20.1.1 i28).1) ((ix y20.1.1 i28).2)) (addM y28 y28' ((ix y20.1.1 i28).1) ((ix y20.1.1 i28).2)) ∧ μ28 a28 b28 found28 (i28 + 1) (addL y28 ((ix y20.1.1 i28).1) ((ix y20.1.1 i28).2)) (addM y28 y28' ((ix y20.1.1 i28).1) ((ix y20.1.1 i28).2)) < μ28 a28 b28 found28 i28 y28 y28'))))) ∧ ((¬ (i28 < (y20.1.1.length : Int))) → I10 a28 b28 found28 (IntKind.i64.wrap (i10 + 1)) y28 y28' ∧ μ10 a28 b28 found28 (IntKind.i64.wrap (i10 + 1)) y28 y28' < μ10 a10 b10 found10 i10 y10 y10')))))) ∧ ((¬ (i10 < (a0_l.length : Int))) → Q ([] : List UInt8) ([] : List UInt8) false))
theorem Clash_ok {a0_l : (List (Option (((List ((List UInt8) × (List UInt8))) × Unit) × Int)))} (w_0 : kd_l_p_Sseal_BookF.wf a0_l) (hp : clashPre a0_l) : Clash_VC a0_l (fun o0 o1 o2 => o0 = (clashA a0_l).1 ∧ o1 = (clashA a0_l).2.1 ∧ o2 = (clashA a0_l).2.2) := by
  obtain ⟨hp1, hp2⟩ := hp
  unfold Clash_VC
  refine ⟨fun _ _ _ i l m => ∃ j : Nat, i = (j : Int) ∧ j ≤ a0_l.length ∧ clashA a0_l = clashL l (notesF (a0_l.drop j)) ∧ BookInv l m ∧ l.length ≤ (notesF (a0_l.take j)).length ∧ ∀ z ∈ l, z ∈ notesF a0_l, fun _ _ _ i _ _ => a0_l.length - i.toNat, ⟨0, rfl, by omega, by simp [clashA], fun s => rfl, by simp, by simp⟩, ?_⟩
  rintro a b f i l m ⟨j, rfl, hj, hc, hi, hlen, hmem⟩ _ _ _ _
  refine ⟨fun hlt => ⟨⟨by omega, hlt⟩, fun hn => ⟨⟨j + 1, by omega, by omega, ?_, hi, ?_, hmem⟩, ?_⟩, fun hs y hy => ?_⟩, fun hge => ?_⟩
  · rw [hc, notesF_drop hlt]
    rw [Option.isNone_iff_eq_none] at hn
    rw [hn]
    rfl
  · have h1 := congrArg List.length (notesF_take (a0_l.take (j + 1)) j)
    rw [List.take_take, Nat.min_eq_left (by omega), List.length_append] at h1
    omega
  · show a0_l.length - ((j : Int) + 1).toNat < a0_l.length - (j : Int).toNat
    omega
  · have hd := notesF_drop hlt
    rw [hy] at hd
    simp only at hd
    have hall := notesF_take a0_l j
    have hal := congrArg List.length hall
    rw [hd, List.length_append, List.length_append] at hal
    have hym : ∀ z ∈ y.1.1, z ∈ notesF a0_l := fun z hz => by
      rw [hall, hd]
      simp [hz]
    refine ⟨fun _ _ _ i l m => ∃ n : Nat, i = (n : Int) ∧ n ≤ y.1.1.length ∧ clashA a0_l = clashL l (y.1.1.drop n ++ notesF (a0_l.drop (j + 1))) ∧ BookInv l m ∧ l.length ≤ (notesF (a0_l.take j)).length + n ∧ ∀ z ∈ l, z ∈ notesF a0_l, fun _ _ _ i _ _ => y.1.1.length - i.toNat, ⟨0, rfl, by omega, by rw [hc, hd]; simp, hi, by omega, hmem⟩, ?_⟩
    rintro a b f i l m ⟨n, rfl, hn, hc, hi, hlen, hmem⟩ _ _ _ _
    simp only [hi _]
    refine ⟨fun hlt2 => ⟨⟨by omega, hlt2⟩, ?_, ?_, ?_⟩, fun hge => ?_⟩
    · intro hs
      obtain ⟨a, ha⟩ := Option.isSome_iff_exists.1 hs
      have := firstOf_ix ha
      rw [ha]
      exact ⟨this, trivial⟩
    · intro hs
      have hnl : n < y.1.1.length := by omega
      have hst : y.1.1.drop n ++ notesF (a0_l.drop (j + 1)) = ix y.1.1 (n : Int) :: (y.1.1.drop (n + 1) ++ notesF (a0_l.drop (j + 1))) := by
        rw [List.drop_eq_getElem_cons hnl, ix_of_lt (by simpa using hnl)]
        rfl
      rw [hst, clashL_step, if_pos hs] at hc
      obtain ⟨a, ha⟩ := Option.isSome_iff_exists.1 hs.1
      have hb := firstOf_ix ha
      rw [ha] at hc ⊢
      simp only [Option.getD_some] at hc ⊢
      refine ⟨hb, hp2 _ (hmem _ (ix_mem' hb.1 hb.2)), fun _ => ⟨hp2 _ (hym _ (ix_mem' (by omega) hlt2)), fun _ => ?_⟩⟩
      rw [hc]
      exact ⟨rfl, rfl, rfl⟩
    · intro hs
      have hnl : n < y.1.1.length := by omega
      have hst : y.1.1.drop n ++ notesF (a0_l.drop (j + 1)) = ix y.1.1 (n : Int) :: (y.1.1.drop (n + 1) ++ notesF (a0_l.drop (j + 1))) := by
        rw [List.drop_eq_getElem_cons hnl, ix_of_lt (by simpa using hnl)]
        rfl
      rw [hst, clashL_step, if_neg hs] at hc
      have hx := hym _ (ix_mem' (l := y.1.1) (i := (n : Int)) (by omega) hlt2)
      refine ⟨⟨fun s => hi s, hp2 _ hx, by omega⟩, ⟨n + 1, by omega, by omega, hc, addInv hi _ _, ?_, ?_⟩, ?_⟩
      · have := addL_len l (ix y.1.1 (n : Int)).1 (ix y.1.1 (n : Int)).2
        omega
      · intro z hz
        rcases addL_mem hz with h | rfl
        · exact hmem z h
        · exact hx
      · show y.1.1.length - ((n : Int) + 1).toNat < y.1.1.length - (n : Int).toNat
        omega
    · have hne : n = y.1.1.length := by omega
      subst hne
      have hw : IntKind.i64.wrap ((j : Int) + 1) = (j : Int) + 1 := wrap_id (wf64 (by omega) (by have := w_0.1; unfold LM at this; omega))
      rw [hw]
      refine ⟨⟨j + 1, by omega, by omega, by rw [hc]; simp, hi, ?_, hmem⟩, ?_⟩
      · have h1 := congrArg List.length (notesF_take (a0_l.take (j + 1)) j)
        rw [List.take_take, Nat.min_eq_left (by omega), List.length_append, List.drop_take] at h1
        have h2 : notesF ((a0_l.drop j).take (j + 1 - j)) = y.1.1 := by
          have hj' : j < a0_l.length := by omega
          rw [List.drop_eq_getElem_cons hj', show j + 1 - j = 1 from by omega, List.take_succ_cons, List.take_zero]
          have : a0_l[j] = some y := by
            rw [← hy, ix_of_lt (by simpa using hj')]
            rfl
          rw [this]
          simp [notesF]
        rw [h2] at h1
        omega
      · show a0_l.length - ((j : Int) + 1).toNat < a0_l.length - (j : Int).toNat
        omega
  · have : j = a0_l.length := by omega
    subst this
    rw [hc]
    simp [notesF, clashL]

theorem Clash_walk {w0 : World} {K0 : Ghost} {a0_l_v : Value} {a0_l : (List (Option (((List ((List UInt8) × (List UInt8))) × Unit) × Int)))} {Q : (List UInt8) → (List UInt8) → Bool → Prop} (hM0 : Models w0 K0) (h_a0_l : kd_l_p_Sseal_BookF.V K0 a0_l a0_l_v) (h : Clash_VC a0_l Q) : Calls Try.prog 20 #[a0_l_v] w0 (fun e w' => ∃ (K' : Ghost) (r0 : Value) (r1 : Value) (r2 : Value) (o0 : (List UInt8)) (o1 : (List UInt8)) (o2 : Bool), e = .returned (.tuple #[r0, r1, r2]) ∧ Q o0 o1 o2 ∧ Ext NX w0 K0 w' K' ∧ Models w' K' ∧ kd_l_u8.V K' o0 r0 ∧ kd_l_u8.V K' o1 r1 ∧ Kd.bool.V K' o2 r2) := by
  unfold Clash_VC at h
  have hE0 : Ext NX w0 K0 w0 K0 := Ext.refl _ _ _
  refine calls_gen fun R hR => ?_
  refine calls_env (args := [a0_l_v]) Try.func20 rfl (Nat.le_of_ble_eq_true rfl) ?_
  refine WP_seq ?_
  refine WP_region ?_
  have hR2 : Own Kd.byte 5 w0 K0 ([] : List UInt8) (.slice none 0 0) := Own.nil
  refine WL_pure (.slice none 0 0) (R_as rfl) rfl rfl ?_
  have hR3 : Own Kd.byte 5 w0 K0 ([] : List UInt8) (.slice none 0 0) := Own.nil
  refine WL_pure (.slice none 0 0) (R_as rfl) rfl rfl ?_
  refine WL_pure (.bool false) (R_as rfl) rfl rfl ?_
  refine WL_nil ?_
  refine WP_seq ?_
  refine WP_region ?_
  refine WL_V (S_bld (K := K0) (vs := []) (Z := (((.slice none 0 0), (.map none)), 0)) ty32 rfl Try.underlying32 (fs32 Try.underlying32) rfl Parts.nil) rfl rfl ?_
  rintro v4 (hV4 : kd_Sseal_Book.V _ (((.slice none 0 0), (.map none)), 0) _)
  refine WL_eff rfl rfl (St_B (S_box hM0 rfl hV4) ?_)
  rintro b6 w6 (hB6 : Bx kd_Sseal_Book _ _ _ _ _ (((.slice none 0 0), (.map none)), 0)) hS6 hM6 hge6
  have hE6 := hE0.andN hS6
  have hR8 : Own kd_Sseal_note 90 w6 K0 ([] : List ((List UInt8) × (List UInt8))) (.slice none 0 0) := Own.nil
  have hR9 : Mp kd_a32_u8 (Kd.int .i64) w6 K0 ([] : List ((List UInt8) × Int)) (.map none) := Or.inl ⟨rfl, rfl⟩
  refine WL_pure (.pointer (some ⟨b6, 0, none⟩)) (R_as rfl) rfl rfl ?_
  refine WL_nil ?_
  refine WP_seq ?_
  refine WP_seq ?_
  refine WP_region ?_
  refine WL_pure a0_l_v (R_mv rfl) rfl rfl ?_
  refine WL_pure (.int .i64 (a0_l.length : Int)) (R_len rfl (h_a0_l.mono hS6.le) Try.underlying61) rfl rfl ?_
  refine WL_pure (.int .i64 0) (R_mv rfl) rfl rfl ?_
  refine WL_nil ?_
  refine WP_block ?_
  have hR12 := (hR2.extN hS6)
  have hR13 := (hR3.extN hS6)
  obtain ⟨I10, μ10, h0, h⟩ := h
  refine WP_loopE (ι := (List UInt8) × (List UInt8) × Bool × Int × (List ((List UInt8) × (List UInt8))) × (List ((List UInt8) × Int))) [2, 3, 4, 7, 9, 10, 11, 16, 17, 18, 19, 20, 21, 22, 23, 24, 25, 26, 27, 28, 29, 30, 31, 32, 33, 34, 35, 36, 37, 38, 39, 40, 41, 42, 43, 44, 45, 46, 47, 48, 49, 50, 51, 52, 53, 54, 55, 56, 57, 58, 59, 60, 61, 62, 63, 64, 65, 66, 67, 68, 69, 70, 71, 72, 73, 74, 75, 76, 77, 78, 79, 80, 81] (fun s l w => ∃ K u2 u3 z7_0_0 z7_0_1, I10 s.1 s.2.1 s.2.2.1 s.2.2.2.1 s.2.2.2.2.1 s.2.2.2.2.2 ∧ l = [(2, u2), (3, u3), (4, (.bool s.2.2.1)), (16, (.int .i64 s.2.2.2.1))] ∧ Ext (fun c => ob (.slice none 0 0) = some c ∨ ob (.slice none 0 0) = some c ∨ ob (.slice none 0 0) = some c ∨ mb (.map none) = some c ∨ c = b6) w6 K0 w K ∧ Models w K ∧ (Kd.int .i64).wf s.2.2.2.1 ∧ Own Kd.byte 5 w K s.1 u2 ∧ (∀ g, ob u2 = some g → ob (.slice none 0 0) = some g ∨ w6.heap.size ≤ g) ∧ Own Kd.byte 5 w K s.2.1 u3 ∧ (∀ g, ob u3 = some g → ob (.slice none 0 0) = some g ∨ w6.heap.size ≤ g) ∧ Own kd_Sseal_note 90 w K s.2.2.2.2.1 z7_0_0 ∧ (∀ g, ob z7_0_0 = some g → ob (.slice none 0 0) = some g ∨ w6.heap.size ≤ g) ∧ Mp kd_a32_u8 (Kd.int .i64) w K s.2.2.2.2.2 z7_0_1 ∧ (∀ g, mb z7_0_1 = some g → mb (.map none) = some g ∨ w6.heap.size ≤ g) ∧ Bx kd_Sseal_Book w K b6 [] [] ((z7_0_0, z7_0_1), 0) ∧ (∀ g, ob u2 = some g → ¬ (ob u3 = some g))) (fun s => μ10 s.1 s.2.1 s.2.2.1 s.2.2.2.1 s.2.2.2.2.1 s.2.2.2.2.2) (([] : List UInt8), ([] : List UInt8), false, 0, ([] : List ((List UInt8) × (List UInt8))), ([] : List ((List UInt8) × Int))) [(2, (.slice none 0 0)), (3, (.slice none 0 0)), (4, (.bool false)), (16, (.int .i64 0))]
    ⟨K0, (.slice none 0 0), (.slice none 0 0), (.slice none 0 0), (.map none), h0, rfl, Ext.refl _ _ _, hM6, (show (Kd.int .i64).wf 0 from by constructor <;> decide), hR12, (fun g hg => (.inl hg)), hR13, (fun g hg => (.inl hg)), hR8, (fun g hg => .inr (nilS hg)), hR9, (fun g hg => .inr (nilM hg)), hB6, (fun g hg hx => (fun g hg _ => nilS hg) g hx hg)⟩ (by repeat (first | exact trivial | refine ⟨rfl, ?_⟩)) ?_
  rintro ⟨a10, b10, found10, i10, y10, y10'⟩ l σ10 w11 ⟨K11, u2_10, u3_10, z7_0_0_10, z7_0_1_10, hI, rfl, hX11, hM11, hw10_16, hL10_u2, ho10_u2, hL10_u3, ho10_u3, hL10_z7_0_0, ho10_z7_0_0, hL10_z7_0_1, ho10_z7_0_1, hL10_7, hs10_u2_u3⟩
  dsimp only at hI hw10_16 hL10_u2 ho10_u2 hL10_u3 ho10_u3 hL10_z7_0_0 ho10_z7_0_0 hL10_z7_0_1 ho10_z7_0_1 hL10_7
  have hE11 := hE6.comp hX11 (fun c hx hlt => Or.elim hx (fun hx => (fun g hg _ => nilS hg) c hx hlt) (fun hx => Or.elim hx (fun hx => (fun g hg _ => nilS hg) c hx hlt) (fun hx => Or.elim hx (fun hx => (fun g hg _ => nilS hg) c hx hlt) (fun hx => Or.elim hx (fun hx => (fun g hg _ => nilM hg) c hx hlt) (fun hx => (by subst hx; exact (fun hlt => absurd hlt (Nat.not_lt.2 (Nat.le_trans hE0.size hge6))) hlt))))))
  have h := h a10 b10 found10 i10 y10 y10' hI hL10_u2.wf hL10_u3.wf hw10_16 hL10_z7_0_0.wf
  refine WP_seq ?_
  refine WP_region ?_
  refine WL_pure (.bool (decide (i10 < (a0_l.length : Int)))) (R_lss rfl rfl) rfl rfl ?_
  refine WL_nil ?_
  refine WP_seq ?_
  refine WP_cond (decide (i10 < (a0_l.length : Int))) rfl (fun hc14 => ?_) (fun hc14 => ?_)
  · have hd14 : i10 < (a0_l.length : Int) := dec_t hc14
    have h := h.1 hd14
    refine WP_skip ?_
    refine WP_seq ?_
    refine WP_block ?_
    refine WP_seq ?_
    refine WP_region ?_
    obtain ⟨hp16, h⟩ := h
    refine WL_P (S_ixs rfl (h_a0_l.mono (hS6.le.trans hX11.le)) rfl Try.underlying61 ty26b hp16.1 hp16.2) rfl rfl ?_
    rintro b15 o15 hP15
    refine WL_L hM11 (S_ld rfl ty26b hP15) rfl rfl ?_
    rintro v18 (hV18 : kd_p_Sseal_BookF.V _ (ix a0_l i10) _)
    refine WL_pure v18 (R_as rfl) rfl rfl ?_
    refine WL_nil ?_
    refine WP_seq ?_
    refine WP_seq ?_
    refine WP_region ?_
    refine WL_pure v18 (R_mv rfl) rfl rfl ?_
    refine WL_pure (.bool ((ix a0_l i10).isNone)) (R_ptrnil rfl hV18 rfl Try.underlying26) rfl rfl ?_
    refine WL_nil ?_
    refine WP_cond ((ix a0_l i10).isNone) rfl (fun hc20 => ?_) (fun hc20 => ?_)
    · have hd20 : ((ix a0_l i10).isNone) = true := hc20
      have h := h.1 hd20
      refine WP_exit ?_
      refine WP_region ?_
      refine WL_pure (.int .i64 (i10 + 1)) (R_inc rfl rfl hw10_16 hd14 (len_wf (h_a0_l).wf.1)) rfl rfl ?_
      refine WL_pure (.int .i64 (i10 + 1)) (R_mv rfl) rfl rfl ?_
      refine WL_nil ?_
      refine BackQ.mk (a10, b10, found10, (i10 + 1), y10, y10') [(2, u2_10), (3, u3_10), (4, (.bool found10)), (16, (.int .i64 (i10 + 1)))] ?_ ?_ ?_ ?_
      rotate_left
      · exact h.2
      · repeat (first | exact Off.lay0 rfl | refine Off.updO ?_ rfl _ | refine Off.updN ?_ _ | refine Off.lay ?_ rfl)
      · repeat (first | exact trivial | refine ⟨rfl, ?_⟩)
      exact ⟨K11, u2_10, u3_10, z7_0_0_10, z7_0_1_10, h.1, rfl, ((Ext.refl _ _ _).comp hX11 (fun c hx hlt => Or.elim hx (fun hx => (.inl (hx))) (fun hx => Or.elim hx (fun hx => (.inl (hx))) (fun hx => Or.elim hx (fun hx => (absurd hlt (Nat.not_lt.2 (nilS hx)))) (fun hx => Or.elim hx (fun hx => (absurd hlt (Nat.not_lt.2 (nilM hx)))) (fun hx => (.inr (.inr (.inr (.inr (hx))))))))))), hM11, (inc_wf hw10_16 hd14 (len_wf (h_a0_l).wf.1)), hL10_u2, (fun g hg => ((ho10_u2 g hg).elim (fun hz => (.inl hz)) (fun hz => .inr (Nat.le_trans (Nat.le_refl _) hz)))), hL10_u3, (fun g hg => ((ho10_u3 g hg).elim (fun hz => (.inl hz)) (fun hz => .inr (Nat.le_trans (Nat.le_refl _) hz)))), hL10_z7_0_0, (fun g hg => .inr ((ho10_z7_0_0 g hg).elim (fun hz => (nilS hz)) (fun hz => (Nat.le_trans (Nat.le_refl _) hz)))), hL10_z7_0_1, (fun g hg => .inr ((ho10_z7_0_1 g hg).elim (fun hz => (nilM hz)) (fun hz => (Nat.le_trans (Nat.le_refl _) hz)))), hL10_7, hs10_u2_u3⟩
    · have hd20 : ((ix a0_l i10).isNone) = false := hc20
      have h := h.2 hd20
      obtain ⟨y20, b20, o20, hy20, hv20, hP20⟩ := ptr_some hV18 (by rw [hd20]; decide)
      have h := h y20 hy20
      subst hv20
      refine WP_skip ?_
      refine WP_seq ?_
      refine WP_region ?_
      refine WL_pure (.pointer (some ⟨b20, o20, none⟩)) (R_mv rfl) rfl rfl ?_
      refine WL_pure (.pointer (some ⟨b20, o20, none⟩)) (R_nilck rfl) rfl rfl ?_
      have hP22 := Kd.Pt.foc (Foc.fst kd_Sseal_notesF (Kd.int .i64)) hP20
      refine WL_pure (.pointer (some ⟨b20, o20 + 0, none⟩)) (R_fa rfl Try.underlying32 rfl rfl ty30F rfl) rfl rfl ?_
      have hP24 := Kd.Pt.foc (Foc.fst kd_l_Sseal_note Kd.anm) hP22
      refine WL_pure (.pointer (some ⟨b20, o20 + 0 + 0, none⟩)) (R_fa rfl Try.underlying30 rfl rfl ty27 rfl) rfl rfl ?_
      refine WL_L hM11 (S_ld rfl ty27 hP24) rfl rfl ?_
      rintro v26 (hV26 : kd_l_Sseal_note.V _ y20.1.1 _)
      refine WL_pure (.int .i64 (y20.1.1.length : Int)) (R_len rfl hV26 Try.underlying27) rfl rfl ?_
      refine WL_pure (.int .i64 0) (R_mv rfl) rfl rfl ?_
      refine WL_nil ?_
      refine WP_block ?_
      obtain ⟨I28, μ28, h0, h⟩ := h
      refine WP_loopE (ι := (List UInt8) × (List UInt8) × Bool × Int × (List ((List UInt8) × (List UInt8))) × (List ((List UInt8) × Int))) [2, 3, 4, 9, 10, 11, 28, 29, 30, 31, 32, 33, 34, 35, 36, 37, 38, 39, 40, 41, 42, 43, 44, 45, 46, 47, 48, 49, 50, 51, 52, 53, 54, 55, 56, 57, 58, 59, 60, 61, 62, 63, 64, 65, 66, 67, 68, 69, 70, 71, 72, 73, 74, 75, 76, 77, 78, 79, 80] (fun s l w => ∃ K u2 u3 z7_0_0 z7_0_1, I28 s.1 s.2.1 s.2.2.1 s.2.2.2.1 s.2.2.2.2.1 s.2.2.2.2.2 ∧ l = [(2, u2), (3, u3), (4, (.bool s.2.2.1)), (28, (.int .i64 s.2.2.2.1))] ∧ Ext (fun c => ob u2_10 = some c ∨ ob u3_10 = some c ∨ ob z7_0_0_10 = some c ∨ mb z7_0_1_10 = some c ∨ c = b6) w11 K11 w K ∧ Models w K ∧ (Kd.int .i64).wf s.2.2.2.1 ∧ Own Kd.byte 5 w K s.1 u2 ∧ (∀ g, ob u2 = some g → ob u2_10 = some g ∨ w11.heap.size ≤ g) ∧ Own Kd.byte 5 w K s.2.1 u3 ∧ (∀ g, ob u3 = some g → ob u3_10 = some g ∨ w11.heap.size ≤ g) ∧ Own kd_Sseal_note 90 w K s.2.2.2.2.1 z7_0_0 ∧ (∀ g, ob z7_0_0 = some g → ob z7_0_0_10 = some g ∨ w11.heap.size ≤ g) ∧ Mp kd_a32_u8 (Kd.int .i64) w K s.2.2.2.2.2 z7_0_1 ∧ (∀ g, mb z7_0_1 = some g → mb z7_0_1_10 = some g ∨ w11.heap.size ≤ g) ∧ Bx kd_Sseal_Book w K b6 [] [] ((z7_0_0, z7_0_1), 0) ∧ (∀ g, ob u2 = some g → ¬ (ob u3 = some g))) (fun s => μ28 s.1 s.2.1 s.2.2.1 s.2.2.2.1 s.2.2.2.2.1 s.2.2.2.2.2) (a10, b10, found10, 0, y10, y10') [(2, u2_10), (3, u3_10), (4, (.bool found10)), (28, (.int .i64 0))]
        ⟨K11, u2_10, u3_10, z7_0_0_10, z7_0_1_10, h0, rfl, Ext.refl _ _ _, hM11, (show (Kd.int .i64).wf 0 from by constructor <;> decide), hL10_u2, (fun g hg => (.inl hg)), hL10_u3, (fun g hg => (.inl hg)), hL10_z7_0_0, (fun g hg => (.inl hg)), hL10_z7_0_1, (fun g hg => (.inl hg)), hL10_7, hs10_u2_u3⟩ (by repeat (first | exact trivial | refine ⟨rfl, ?_⟩)) ?_
      rintro ⟨a28, b28, found28, i28, y28, y28'⟩ l σ28 w29 ⟨K29, u2_28, u3_28, z7_0_0_28, z7_0_1_28, hI, rfl, hX29, hM29, hw28_28, hL28_u2, ho28_u2, hL28_u3, ho28_u3, hL28_z7_0_0, ho28_z7_0_0, hL28_z7_0_1, ho28_z7_0_1, hL28_7, hs28_u2_u3⟩
      dsimp only at hI hw28_28 hL28_u2 ho28_u2 hL28_u3 ho28_u3 hL28_z7_0_0 ho28_z7_0_0 hL28_z7_0_1 ho28_z7_0_1 hL28_7
      have hE29 := hE11.comp hX29 (fun c hx hlt => Or.elim hx (fun hx => (fun g hg hlt => absurd hlt (Nat.not_lt.2 ((fun g hg => (ho10_u2 g hg).elim (fun hx => (fun g hg => nilS hg) g hx) (fun hx => Nat.le_trans hE6.size hx)) g hg))) c hx hlt) (fun hx => Or.elim hx (fun hx => (fun g hg hlt => absurd hlt (Nat.not_lt.2 ((fun g hg => (ho10_u3 g hg).elim (fun hx => (fun g hg => nilS hg) g hx) (fun hx => Nat.le_trans hE6.size hx)) g hg))) c hx hlt) (fun hx => Or.elim hx (fun hx => (fun g hg hlt => absurd hlt (Nat.not_lt.2 ((fun g hg => (ho10_z7_0_0 g hg).elim (fun hx => (fun g hg => nilS hg) g hx) (fun hx => Nat.le_trans hE6.size hx)) g hg))) c hx hlt) (fun hx => Or.elim hx (fun hx => (fun g hg hlt => absurd hlt (Nat.not_lt.2 ((fun g hg => (ho10_z7_0_1 g hg).elim (fun hx => (fun g hg => nilM hg) g hx) (fun hx => Nat.le_trans hE6.size hx)) g hg))) c hx hlt) (fun hx => (by subst hx; exact (fun hlt => absurd hlt (Nat.not_lt.2 (Nat.le_trans hE0.size hge6))) hlt))))))
      have h := h a28 b28 found28 i28 y28 y28' hI hL28_u2.wf hL28_u3.wf hw28_28 hL28_z7_0_0.wf
      refine WP_seq ?_
      refine WP_region ?_
      refine WL_pure (.bool (decide (i28 < (y20.1.1.length : Int)))) (R_lss rfl rfl) rfl rfl ?_
      refine WL_nil ?_
      refine WP_seq ?_
      refine WP_cond (decide (i28 < (y20.1.1.length : Int))) rfl (fun hc30 => ?_) (fun hc30 => ?_)
      · have hd30 : i28 < (y20.1.1.length : Int) := dec_t hc30
        have h := h.1 hd30
        refine WP_skip ?_
        refine WP_seq ?_
        refine WP_block ?_
        refine WP_seq ?_
        refine WP_region ?_
        obtain ⟨hp32, h⟩ := h
        refine WL_P (S_ixs rfl (hV26.mono hX29.le) rfl Try.underlying27 ty90 hp32.1 hp32.2) rfl rfl ?_
        rintro b31 o31 hP31
        refine WL_L hM29 (S_ld rfl ty90 hP31) rfl rfl ?_
        rintro v34 (hV34 : kd_Sseal_note.V _ (ix y20.1.1 i28) _)
        refine WL_eff rfl rfl (St_B (S_alloc hM29 ty90) ?_)
        rintro b36 w36 (hB36 : Bx kd_Sseal_note _ _ _ _ _ ((List.replicate 32 0), ([] : List UInt8))) hS36 hM36 hge36
        have hE36 := hE29.andN hS36
        refine WL_eff rfl rfl (St_St (S_stB (Foc.id _) hM36 rfl rfl (hV34.mono hS36.le) ty90 hB36 (by first | rfl | simp | omega)) ?_)
        rintro w38 (hB38 : Bx kd_Sseal_note _ _ b36 [] [] (ix y20.1.1 i28)) hS38 hM38
        have hE38 := hE36.comp hS38 (fun c hx hlt => (by subst hx; exact (fun hlt => absurd hlt (Nat.not_lt.2 (Nat.le_trans hE29.size hge36))) hlt))
        refine WL_nil ?_
        refine WP_seq ?_
        refine WP_seq ?_
        refine WP_ordD (K := K29) NX [.o 0 2, .o 1 2, .o 2 2, .o 3 2, .o 4 2, .o 5 2, .o 6 2, .o 7 2, .o 8 2, .o 9 2, .o 10 2, .o 11 2, .o 12 2] (by kernel_rfl) (by kernel_rfl) hM38 ?_
        rintro w39 hS39 hM39
        have hE39 := hE38.andN hS39
        refine WO_pure (.pointer (some ⟨b6, 0, none⟩)) rfl l0 hM39 (fun _ => R_mv rfl) rfl (gN rfl) rfl ?_
        refine WO_pure (.pointer (some ⟨b6, 0, none⟩)) rfl l0 hM39 (fun _ => R_nilck rfl) rfl (gN rfl) rfl ?_
        refine WO_pure (.pointer (some ⟨b6, 0 + 0, none⟩)) rfl l0 hM39 (fun _ => R_fa rfl Try.underlying32 rfl rfl ty30 rfl) rfl (gN rfl) rfl ?_
        refine WO_pure (.pointer (some ⟨b6, 0 + 0 + 1, none⟩)) rfl l0 hM39 (fun _ => R_fa rfl Try.underlying30 rfl rfl ty28r rfl) rfl (gN rfl) rfl ?_
        have hR41 := (hL28_7.extN hS36)
        have hR42 := ((hR41.ext hS38 (fun hx => (fun he => (ne_new hge36 hL28_7.lt) he.symm) hx)).extN hS39)
        refine WO_L0 hM39 (S_ldB (Foc.trans (Foc.fst kd_Sseal_notes (Kd.int .i64)) (Foc.snd Kd.rsl Kd.rmp)) rfl ty28r hR42 (by first | rfl | simp | omega) (fun h => h)) rfl (gN rfl) rfl ?_
        rintro v40 (hV40 : Kd.rmp.V _ z7_0_1_28 _)
        obtain rfl := rw_form hV40
        refine WO_pure (.pointer (some ⟨b36, 0 + 0, none⟩)) rfl l0 hM39 (fun _ => R_fa rfl Try.underlying90 rfl rfl ty23 rfl) rfl (gN rfl) rfl ?_
        have hR44 := (hB38.extN hS39)
        refine WO_L0 hM39 (S_ldB (Foc.fst kd_a32_u8 kd_l_u8) rfl ty23 hR44 (by first | rfl | simp | omega) (fun h => h)) rfl (gN rfl) rfl ?_
        rintro v43 (hV43 : kd_a32_u8.V _ ((ix y20.1.1 i28).1) _)
        have hR47 := (hL28_z7_0_1.extN hS36)
        have hR48 := ((hR47.ext hS38 (fun g hg hx => (fun g hg hx => hR47.box hB36 (hg.trans (congrArg some hx))) g hg hx)).extN hS39)
        refine WO_LK0 hM39 (S_lkp (kv := (Kd.int .i64)) rfl rfl hR48 hV43 Try.underlying28 (keyOk_arr Try.underlying23 Try.underlying5 ty5b) ty3 (fun _ _ h => h)) rfl (gN rfl) rfl ?_
        rintro v46 (hV46 : (Kd.int .i64).V _ ((mfind ((ix y20.1.1 i28).1) y28').getD 0) _)
        obtain rfl := int_form hV46
        refine WO_pure (.tuple #[(.int .i64 ((mfind ((ix y20.1.1 i28).1) y28').getD 0)), (.bool ((mfind ((ix y20.1.1 i28).1) y28').isSome))]) rfl l0 hM39 (fun _ => R_mv rfl) rfl (gN rfl) rfl ?_
        refine WO_pure (.int .i64 ((mfind ((ix y20.1.1 i28).1) y28').getD 0)) rfl l0 hM39 (fun _ => R_ext rfl rfl) rfl (gN rfl) rfl ?_
        refine WO_pure (.bool ((mfind ((ix y20.1.1 i28).1) y28').isSome)) rfl l0 hM39 (fun _ => R_ext rfl rfl) rfl (gN rfl) rfl ?_
        refine WO_pure (.int .i64 ((mfind ((ix y20.1.1 i28).1) y28').getD 0)) rfl l0 hM39 (fun _ => R_as rfl) rfl (gN rfl) rfl ?_
        refine WO_pure (.bool ((mfind ((ix y20.1.1 i28).1) y28').isSome)) rfl l0 hM39 (fun _ => R_as rfl) rfl (gN rfl) rfl ?_
        refine WO_nil ?_
        refine WP_seq ?_
        refine WP_ordD (K := K29) NX [.o 0 2, .o 1 2, .o 2 2, .o 3 2, .o 4 2, .o 5 2, .o 6 2, .o 7 2, .o 8 2, .o 9 2, .o 10 2, .o 11 2, .o 12 2, .o 13 0, .o 14 2, .o 15 2] (by kernel_rfl) (by kernel_rfl) hM39 ?_
        rintro w49 hS49 hM49
        have hE49 := hE39.andN hS49
        refine WO_pure (.bool ((mfind ((ix y20.1.1 i28).1) y28').isSome)) rfl l0 hM49 (fun _ => R_mv rfl) rfl (gN rfl) rfl ?_
        refine WO_pure (.bool ((mfind ((ix y20.1.1 i28).1) y28').isSome)) rfl l0 hM49 (fun _ => R_mv rfl) rfl (gN rfl) rfl ?_
        obtain ⟨hq50, h⟩ := h
        refine WO_meet (al := true) (l1 := [.o 2 2, .o 3 2, .o 4 2, .o 5 2, .o 6 2, .o 7 2, .o 8 2, .o 9 2, .o 10 2, .o 11 2, .o 12 2, .o 13 0, .o 14 2, .o 15 2]) [45, 46, 47, 48, 49, 50, 51, 52, 53, 54, 55, 56, 57, 58] NX (fun l w K => l = [(58, (.bool (decide ((((mfind ((ix y20.1.1 i28).1) y28').isSome) = true) ∧ (¬ (((ix y28 ((mfind ((ix y20.1.1 i28).1) y28').getD 0)).2) = ((ix y20.1.1 i28).2)))))))] ∧ Ext NX w49 K29 w K ∧ Models w K) ?_ ?_
        · rcases Classical.em (((mfind ((ix y20.1.1 i28).1) y28').isSome) = true) with hp50 | hp50
          · skip
            have h := hq50 hp50
            refine WO_pure (.pointer (some ⟨b6, 0, none⟩)) rfl l0 hM49 (fun _ => R_mv rfl) rfl (gY rfl rfl rfl hp50) rfl ?_
            refine WO_pure (.pointer (some ⟨b6, 0, none⟩)) rfl l0 hM49 (fun _ => R_nilck rfl) rfl (gY rfl rfl rfl hp50) rfl ?_
            refine WO_pure (.pointer (some ⟨b6, 0 + 0, none⟩)) rfl l0 hM49 (fun _ => R_fa rfl Try.underlying32 rfl rfl ty30 rfl) rfl (gY rfl rfl rfl hp50) rfl ?_
            refine WO_pure (.pointer (some ⟨b6, 0 + 0 + 0, none⟩)) rfl l0 hM49 (fun _ => R_fa rfl Try.underlying30 rfl rfl ty27r rfl) rfl (gY rfl rfl rfl hp50) rfl ?_
            have hR52 := (hR42.extN hS49)
            refine WO_L0 hM49 (S_ldB (Foc.trans (Foc.fst kd_Sseal_notes (Kd.int .i64)) (Foc.fst Kd.rsl Kd.rmp)) rfl ty27r hR52 (by first | rfl | simp | omega) (fun h => h)) rfl (gY rfl rfl rfl hp50) rfl ?_
            rintro v51 (hV51 : Kd.rsl.V _ z7_0_0_28 _)
            obtain rfl := rw_form hV51
            refine WO_pure (.int .i64 ((mfind ((ix y20.1.1 i28).1) y28').getD 0)) rfl l0 hM49 (fun _ => R_mv rfl) rfl (gY rfl rfl rfl hp50) rfl ?_
            obtain ⟨hp54, h⟩ := h
            refine WO_P rfl l0 hM49 (S_ixs rfl (hL28_z7_0_0.V.mono (hS36.le.trans (hS38.le.trans (hS39.le.trans hS49.le)))) rfl Try.underlying27 ty90 hp54.1 hp54.2) rfl (gY rfl rfl rfl hp50) rfl ?_
            rintro b53 o53 hP53
            have hP56 := Kd.Pt.foc (Foc.snd kd_a32_u8 kd_l_u8) hP53
            refine WO_pure (.pointer (some ⟨b53, o53 + 32, none⟩)) rfl l0 hM49 (fun _ => R_fa rfl Try.underlying90 rfl rfl ty39 rfl) rfl (gY rfl rfl rfl hp50) rfl ?_
            refine WO_L0 hM49 (S_ld rfl ty39 hP56) rfl (gY rfl rfl rfl hp50) rfl ?_
            rintro v58 (hV58 : kd_l_u8.V _ ((ix y28 ((mfind ((ix y20.1.1 i28).1) y28').getD 0)).2) _)
            refine WO_pure (.pointer (some ⟨b36, 0 + 32, none⟩)) rfl l0 hM49 (fun _ => R_fa rfl Try.underlying90 rfl rfl ty39 rfl) rfl (gY rfl rfl rfl hp50) rfl ?_
            have hR61 := (hR44.extN hS49)
            refine WO_L0 hM49 (S_ldB (Foc.snd kd_a32_u8 kd_l_u8) rfl ty39 hR61 (by first | rfl | simp | omega) (fun h => h)) rfl (gY rfl rfl rfl hp50) rfl ?_
            rintro v60 (hV60 : kd_l_u8.V _ ((ix y20.1.1 i28).2) _)
            refine WO_eff0 rfl (gY rfl rfl rfl hp50) rfl (St_call (R_call Try.call48 rfl) ((Equal_c hM49 hV58 hV60).mono ?_))
            rintro _ w63 ⟨K63, v63_0, rfl, hS63, hM63, hV63_0⟩
            refine ⟨v63_0, rfl, ?_⟩
            refine ⟨K63, hS63, hM63, ?_⟩
            have hE63 := hE49.andN hS63
            obtain rfl := bool_form hV63_0
            refine WO_pure (.bool (decide (¬ (((ix y28 ((mfind ((ix y20.1.1 i28).1) y28').getD 0)).2) = ((ix y20.1.1 i28).2))))) rfl l0 hM63 (fun _ => R_notd rfl) rfl (gY rfl rfl rfl hp50) rfl ?_
            refine WO_pure (.bool (decide ((((mfind ((ix y20.1.1 i28).1) y28').isSome) = true) ∧ (¬ (((ix y28 ((mfind ((ix y20.1.1 i28).1) y28').getD 0)).2) = ((ix y20.1.1 i28).2)))))) rfl l0 hM63 (fun _ => R_pick1 rfl hp50 rfl (and_T hp50)) rfl (gN rfl) rfl ?_
            exact WO_end [(58, (.bool (decide ((((mfind ((ix y20.1.1 i28).1) y28').isSome) = true) ∧ (¬ (((ix y28 ((mfind ((ix y20.1.1 i28).1) y28').getD 0)).2) = ((ix y20.1.1 i28).2)))))))] K63 rfl ⟨rfl, ((Ext.refl _ _ _).andN hS63), hM63⟩ (by repeat (first | exact Off.refl _ _ | refine Off.updO ?_ rfl _ | refine Off.updN ?_ _ | refine Off.lay ?_ rfl)) ⟨rfl, trivial⟩
          · skip
            refine WO_skip _ hM49 l0 rfl (gF rfl rfl rfl (eq_false_of_ne_true hp50)) rfl ?_
            refine WO_skip _ hM49 l0 rfl (gF rfl rfl rfl (eq_false_of_ne_true hp50)) rfl ?_
            refine WO_skip _ hM49 l0 rfl (gF rfl rfl rfl (eq_false_of_ne_true hp50)) rfl ?_
            refine WO_skip _ hM49 l0 rfl (gF rfl rfl rfl (eq_false_of_ne_true hp50)) rfl ?_
            refine WO_skip _ hM49 l0 rfl (gF rfl rfl rfl (eq_false_of_ne_true hp50)) rfl ?_
            refine WO_skip _ hM49 l0 rfl (gF rfl rfl rfl (eq_false_of_ne_true hp50)) rfl ?_
            refine WO_skip _ hM49 l0 rfl (gF rfl rfl rfl (eq_false_of_ne_true hp50)) rfl ?_
            refine WO_skip _ hM49 l0 rfl (gF rfl rfl rfl (eq_false_of_ne_true hp50)) rfl ?_
            refine WO_skip _ hM49 l0 rfl (gF rfl rfl rfl (eq_false_of_ne_true hp50)) rfl ?_
            refine WO_skip _ hM49 l0 rfl (gF rfl rfl rfl (eq_false_of_ne_true hp50)) rfl ?_
            refine WO_skip _ hM49 l0 rfl (gF rfl rfl rfl (eq_false_of_ne_true hp50)) rfl ?_
            refine WO_skip _ hM49 l0 rfl (gF rfl rfl rfl (eq_false_of_ne_true hp50)) rfl ?_
            refine WO_skip _ hM49 l0 rfl (gF rfl rfl rfl (eq_false_of_ne_true hp50)) rfl ?_
            refine WO_pure (.bool (decide ((((mfind ((ix y20.1.1 i28).1) y28').isSome) = true) ∧ (¬ (((ix y28 ((mfind ((ix y20.1.1 i28).1) y28').getD 0)).2) = ((ix y20.1.1 i28).2)))))) rfl l0 hM49 (fun _ => R_pick2 rfl (eq_false_of_ne_true hp50) rfl (and_F hp50)) rfl (gN rfl) rfl ?_
            exact WO_end [(58, (.bool (decide ((((mfind ((ix y20.1.1 i28).1) y28').isSome) = true) ∧ (¬ (((ix y28 ((mfind ((ix y20.1.1 i28).1) y28').getD 0)).2) = ((ix y20.1.1 i28).2)))))))] K29 rfl ⟨rfl, (Ext.refl _ _ _), hM49⟩ (by repeat (first | exact Off.refl _ _ | refine Off.updO ?_ rfl _ | refine Off.updN ?_ _ | refine Off.lay ?_ rfl)) ⟨rfl, trivial⟩
        rintro l σ64 w64 K64 ⟨rfl, hS64, hM64⟩
        have hE64 := hE49.andN hS64
        refine WO_nil ?_
        refine WP_cond (decide ((((mfind ((ix y20.1.1 i28).1) y28').isSome) = true) ∧ (¬ (((ix y28 ((mfind ((ix y20.1.1 i28).1) y28').getD 0)).2) = ((ix y20.1.1 i28).2))))) rfl (fun hc65 => ?_) (fun hc65 => ?_)
        · have hd65 : (((mfind ((ix y20.1.1 i28).1) y28').isSome) = true) ∧ (¬ (((ix y28 ((mfind ((ix y20.1.1 i28).1) y28').getD 0)).2) = ((ix y20.1.1 i28).2))) := dec_t hc65
          have h := h.1 hd65
          refine WP_seq ?_
          refine WP_ordD (K := K64) NX [.o 0 2, .o 1 2, .o 2 2, .o 3 2, .o 4 2, .o 5 2, .o 6 2, .o 7 2, .o 8 2, .o 10 2, .o 11 2, .o 9 0, .o 12 0, .o 13 2, .o 14 2, .o 15 2] (by kernel_rfl) (by kernel_rfl) hM64 ?_
          rintro w66 hS66 hM66
          have hE66 := hE64.andN hS66
          refine WO_pure (.pointer (some ⟨b6, 0, none⟩)) rfl l0 hM66 (fun _ => R_mv rfl) rfl (gN rfl) rfl ?_
          refine WO_pure (.pointer (some ⟨b6, 0, none⟩)) rfl l0 hM66 (fun _ => R_nilck rfl) rfl (gN rfl) rfl ?_
          refine WO_pure (.pointer (some ⟨b6, 0 + 0, none⟩)) rfl l0 hM66 (fun _ => R_fa rfl Try.underlying32 rfl rfl ty30 rfl) rfl (gN rfl) rfl ?_
          refine WO_pure (.pointer (some ⟨b6, 0 + 0 + 0, none⟩)) rfl l0 hM66 (fun _ => R_fa rfl Try.underlying30 rfl rfl ty27r rfl) rfl (gN rfl) rfl ?_
          have hR68 := (((hR42.extN hS49).extN hS64).extN hS66)
          refine WO_L0 hM66 (S_ldB (Foc.trans (Foc.fst kd_Sseal_notes (Kd.int .i64)) (Foc.fst Kd.rsl Kd.rmp)) rfl ty27r hR68 (by first | rfl | simp | omega) (fun h => h)) rfl (gN rfl) rfl ?_
          rintro v67 (hV67 : Kd.rsl.V _ z7_0_0_28 _)
          obtain rfl := rw_form hV67
          refine WO_pure (.int .i64 ((mfind ((ix y20.1.1 i28).1) y28').getD 0)) rfl l0 hM66 (fun _ => R_mv rfl) rfl (gN rfl) rfl ?_
          obtain ⟨hp70, h⟩ := h
          refine WO_P rfl l0 hM66 (S_ixs rfl (hL28_z7_0_0.V.mono (hS36.le.trans (hS38.le.trans (hS39.le.trans (hS49.le.trans (hS64.le.trans hS66.le)))))) rfl Try.underlying27 ty90 hp70.1 hp70.2) rfl (gN rfl) rfl ?_
          rintro b69 o69 hP69
          have hP72 := Kd.Pt.foc (Foc.snd kd_a32_u8 kd_l_u8) hP69
          refine WO_pure (.pointer (some ⟨b69, o69 + 32, none⟩)) rfl l0 hM66 (fun _ => R_fa rfl Try.underlying90 rfl rfl ty39 rfl) rfl (gN rfl) rfl ?_
          refine WO_L0 hM66 (S_ld rfl ty39 hP72) rfl (gN rfl) rfl ?_
          rintro v74 (hV74 : kd_l_u8.V _ ((ix y28 ((mfind ((ix y20.1.1 i28).1) y28').getD 0)).2) _)
          refine WO_pure (.pointer (some ⟨b36, 0 + 32, none⟩)) rfl l0 hM66 (fun _ => R_fa rfl Try.underlying90 rfl rfl ty39 rfl) rfl (gN rfl) rfl ?_
          have hR77 := (((hR44.extN hS49).extN hS64).extN hS66)
          refine WO_L0 hM66 (S_ldB (Foc.snd kd_a32_u8 kd_l_u8) rfl ty39 hR77 (by first | rfl | simp | omega) (fun h => h)) rfl (gN rfl) rfl ?_
          rintro v76 (hV76 : kd_l_u8.V _ ((ix y20.1.1 i28).2) _)
          have hR79 := (hL28_u2.extN hS36)
          have hR80 := (((((hR79.ext hS38 (fun g hg hx => (fun g hg hx => hR79.box hB36 (hg.trans (congrArg some hx))) g hg hx)).extN hS39).extN hS49).extN hS64).extN hS66)
          have hR81 := (hL28_u3.extN hS36)
          have hR82 := (((((hR81.ext hS38 (fun g hg hx => (fun g hg hx => hR81.box hB36 (hg.trans (congrArg some hx))) g hg hx)).extN hS39).extN hS49).extN hS64).extN hS66)
          have hR83 := (hL28_z7_0_0.extN hS36)
          have hR84 := (((((hR83.ext hS38 (fun g hg hx => (fun g hg hx => hR83.box hB36 (hg.trans (congrArg some hx))) g hg hx)).extN hS39).extN hS49).extN hS64).extN hS66)
          have hR85 := (((hR48.extN hS49).extN hS64).extN hS66)
          obtain ⟨hp87, h⟩ := h
          refine WO_eff0 rfl (gN rfl) rfl (St_call (R_call Try.call46 rfl) ((Clone_c hM66 hV74 hp87).mono ?_))
          rintro _ w86 ⟨K86, v86_0, rfl, hS86, hM86, hO86_0, hg86_0⟩
          refine ⟨v86_0, rfl, ?_⟩
          refine ⟨K86, hS86, hM86, ?_⟩
          have hE86 := hE66.andN hS86
          have h := h hO86_0.wf
          have hR89 := (hR80.extN hS86)
          have hR90 := (hR82.extN hS86)
          have hR91 := (hR68.extN hS86)
          have hR92 := (hR84.extN hS86)
          have hR93 := (hR85.extN hS86)
          have hR94 := (hR77.extN hS86)
          obtain ⟨hp96, h⟩ := h
          refine WO_eff0 rfl (gN rfl) rfl (St_call (R_call Try.call46 rfl) ((Clone_c hM86 (hV76.mono hS86.le) hp96).mono ?_))
          rintro _ w95 ⟨K95, v95_0, rfl, hS95, hM95, hO95_0, hg95_0⟩
          refine ⟨v95_0, rfl, ?_⟩
          refine ⟨K95, hS95, hM95, ?_⟩
          have hE95 := hE86.andN hS95
          have h := h hO95_0.wf
          refine WO_pure v86_0 rfl l0 hM95 (fun _ => R_as rfl) rfl (gN rfl) rfl ?_
          refine WO_pure v95_0 rfl l0 hM95 (fun _ => R_as rfl) rfl (gN rfl) rfl ?_
          refine WO_pure (.bool true) rfl l0 hM95 (fun _ => R_as rfl) rfl (gN rfl) rfl ?_
          refine WO_nil ?_
          refine WP_ret ?_
          exact endR_ret hR (v := (.tuple #[v86_0, v95_0, (.bool true)])) (resE_3 rfl rfl rfl rfl) ⟨K95, v86_0, v95_0, (.bool true), ((ix y28 ((mfind ((ix y20.1.1 i28).1) y28').getD 0)).2), ((ix y20.1.1 i28).2), true, rfl, h, hE95, hM95, (hO86_0.V.mono hS95.le), hO95_0.V, bool_V⟩
        · have hd65 : ¬ ((((mfind ((ix y20.1.1 i28).1) y28').isSome) = true) ∧ (¬ (((ix y28 ((mfind ((ix y20.1.1 i28).1) y28').getD 0)).2) = ((ix y20.1.1 i28).2)))) := dec_f hc65
          have h := h.2 hd65
          refine WP_skip ?_
          have hR98 := (hL28_z7_0_0.extN hS36)
          have hR99 := ((((hR98.ext hS38 (fun g hg hx => (fun g hg hx => hR98.box hB36 (hg.trans (congrArg some hx))) g hg hx)).extN hS39).extN hS49).extN hS64)
          have hR100 := ((hR48.extN hS49).extN hS64)
          have hR101 := ((hR44.extN hS49).extN hS64)
          have hR102 := ((hR42.extN hS49).extN hS64)
          refine WP_ordD (K := K64) (fun c => c = b6 ∨ ob z7_0_0_28 = some c ∨ mb z7_0_1_28 = some c ∨ w64.heap.size ≤ c) [.o 0 2, .o 1 2, .o 2 2, .o 3 2, .o 4 2, .o 5 2, .o 6 2, .o 7 1] (by kernel_rfl) (by kernel_rfl) hM64 ?_
          rintro w103 hS103 hM103
          have hE103 := hE64.andN hS103
          refine WO_pure (.pointer (some ⟨b6, 0, none⟩)) rfl l0 hM103 (fun _ => R_mv rfl) rfl (gN rfl) rfl ?_
          refine WO_pure (.pointer (some ⟨b6, 0, none⟩)) rfl l0 hM103 (fun _ => R_nilck rfl) rfl (gN rfl) rfl ?_
          refine WO_pure (.pointer (some ⟨b6, 0 + 0, none⟩)) rfl l0 hM103 (fun _ => R_fa rfl Try.underlying32 rfl rfl ty30 rfl) rfl (gN rfl) rfl ?_
          refine WO_pure (.pointer (some ⟨b36, 0 + 0, none⟩)) rfl l0 hM103 (fun _ => R_fa rfl Try.underlying90 rfl rfl ty23 rfl) rfl (gN rfl) rfl ?_
          have hR105 := (hR101.extN hS103)
          refine WO_L0 hM103 (S_ldB (Foc.fst kd_a32_u8 kd_l_u8) rfl ty23 hR105 (by first | rfl | simp | omega) (fun h => h)) rfl (gN rfl) rfl ?_
          rintro v104 (hV104 : kd_a32_u8.V _ ((ix y20.1.1 i28).1) _)
          refine WO_pure (.pointer (some ⟨b36, 0 + 32, none⟩)) rfl l0 hM103 (fun _ => R_fa rfl Try.underlying90 rfl rfl ty39 rfl) rfl (gN rfl) rfl ?_
          refine WO_L0 hM103 (S_ldB (Foc.snd kd_a32_u8 kd_l_u8) rfl ty39 hR105 (by first | rfl | simp | omega) (fun h => h)) rfl (gN rfl) rfl ?_
          rintro v107 (hV107 : kd_l_u8.V _ ((ix y20.1.1 i28).2) _)
          have hR109 := (hL28_u2.extN hS36)
          have hR110 := (((((hR109.ext hS38 (fun g hg hx => (fun g hg hx => hR109.box hB36 (hg.trans (congrArg some hx))) g hg hx)).extN hS39).extN hS49).extN hS64).extN hS103)
          have hR111 := (hL28_u3.extN hS36)
          have hR112 := (((((hR111.ext hS38 (fun g hg hx => (fun g hg hx => hR111.box hB36 (hg.trans (congrArg some hx))) g hg hx)).extN hS39).extN hS49).extN hS64).extN hS103)
          have hR113 := (hR102.extN hS103)
          have hR114 := (hR99.extN hS103)
          have hR115 := (hR100.extN hS103)
          obtain ⟨p117, q117, hl117, hB117, hback117⟩ := Bx.sub (Foc.fst kd_Sseal_notes (Kd.int .i64)) hR113
          obtain ⟨hp118, h⟩ := h
          refine WO_eff rfl (gN rfl) rfl (St_call (R_call Try.call47 (mapC (show (Value.pointer (some ⟨b6, 0 + 0, none⟩)) = .pointer (some ⟨b6, (([] : List Value) ++ p117).length, none⟩) from by rw [List.length_append, hl117]; first | done | simp) (mapC rfl (mapC rfl mapN)))) ((add_c hM103 hB117 hR114 hR115 hV104 hV107 hp118).mono ?_))
          rintro _ w116 ⟨K116, u116_0_0, u116_0_1, rfl, hS116, hM116, hB116_m0, hu116_0_0, hxu116_0_0, hu116_0_1, hxu116_0_1⟩
          refine ⟨(.tuple #[]), rfl, ?_⟩
          refine ⟨K116, (hS116.weak (fun c hlt hx => Or.elim hx (fun hx => (.inl (hx))) (fun hx => Or.elim hx (fun hx => (.inr (.inl (hx)))) (fun hx => (.inr (.inr (.inl (hx)))))))), hM116, ?_⟩
          have hE116 := hE103.comp hS116 (fun c hx hlt => Or.elim hx (fun hx => (by subst hx; exact (fun hlt => absurd hlt (Nat.not_lt.2 (Nat.le_trans hE0.size hge6))) hlt)) (fun hx => Or.elim hx (fun hx => (fun g hg hlt => absurd hlt (Nat.not_lt.2 ((fun g hg => (ho28_z7_0_0 g hg).elim (fun hx => (fun g hg => (ho10_z7_0_0 g hg).elim (fun hx => (fun g hg => nilS hg) g hx) (fun hx => Nat.le_trans hE6.size hx)) g hx) (fun hx => Nat.le_trans hE11.size hx)) g hg))) c hx hlt) (fun hx => (fun g hg hlt => absurd hlt (Nat.not_lt.2 ((fun g hg => (ho28_z7_0_1 g hg).elim (fun hx => (fun g hg => (ho10_z7_0_1 g hg).elim (fun hx => (fun g hg => nilM hg) g hx) (fun hx => Nat.le_trans hE6.size hx)) g hx) (fun hx => Nat.le_trans hE11.size hx)) g hg))) c hx hlt)))
          have hB116_w : Bx kd_Sseal_Book w116 K116 b6 [] [] ((u116_0_0, u116_0_1), 0) := hback117 hS116.le hB116_m0
          refine WO_nil ?_
          refine WP_region ?_
          refine WL_pure (.int .i64 (i28 + 1)) (R_inc rfl rfl hw28_28 hd30 (len_wf (hV26).wf.1)) rfl rfl ?_
          refine WL_pure (.int .i64 (i28 + 1)) (R_mv rfl) rfl rfl ?_
          refine WL_nil ?_
          have hR119 := (hR110.ext hS116 (fun g hg hx => Or.elim hx (fun hx => (fun g hg hx => hR110.box hR113 (hg.trans (congrArg some hx))) g hg hx) (fun hx => Or.elim hx (fun hx => (Own.ne_type hR110 hR114 (by decide)) g hg hx) (fun hx => (fun g hg => hR115.own hR110 g hg) g hg hx))))
          have hR120 := (hR112.ext hS116 (fun g hg hx => Or.elim hx (fun hx => (fun g hg hx => hR112.box hR113 (hg.trans (congrArg some hx))) g hg hx) (fun hx => Or.elim hx (fun hx => (Own.ne_type hR112 hR114 (by decide)) g hg hx) (fun hx => (fun g hg => hR115.own hR112 g hg) g hg hx))))
          refine BackQ.mk (a28, b28, found28, (i28 + 1), (addL y28 ((ix y20.1.1 i28).1) ((ix y20.1.1 i28).2)), (addM y28 y28' ((ix y20.1.1 i28).1) ((ix y20.1.1 i28).2))) [(2, u2_28), (3, u3_28), (4, (.bool found28)), (28, (.int .i64 (i28 + 1)))] ?_ ?_ ?_ ?_
          rotate_left
          · exact h.2
          · repeat (first | exact Off.lay0 rfl | refine Off.updO ?_ rfl _ | refine Off.updN ?_ _ | refine Off.lay ?_ rfl)
          · repeat (first | exact trivial | refine ⟨rfl, ?_⟩)
          exact ⟨K116, u2_28, u3_28, u116_0_0, u116_0_1, h.1, rfl, (((((((((Ext.refl _ _ _).comp hX29 (fun c hx hlt => Or.elim hx (fun hx => (.inl (hx))) (fun hx => Or.elim hx (fun hx => (.inr (.inl (hx)))) (fun hx => Or.elim hx (fun hx => (.inr (.inr (.inl (hx))))) (fun hx => Or.elim hx (fun hx => (.inr (.inr (.inr (.inl (hx)))))) (fun hx => (.inr (.inr (.inr (.inr (hx))))))))))).andN hS36).comp hS38 (fun c hx hlt => (by subst hx; exact absurd hlt (Nat.not_lt.2 (Nat.le_trans hX29.size hge36))))).andN hS39).andN hS49).andN hS64).andN hS103).comp hS116 (fun c hx hlt => Or.elim hx (fun hx => (.inr (.inr (.inr (.inr (hx)))))) (fun hx => Or.elim hx (fun hx => ((((ho28_z7_0_0 c hx).elim (fun hz => (.inl hz)) (fun hz => .inr (Nat.le_trans (Nat.le_refl _) hz))) : ob z7_0_0_10 = some c ∨ w11.heap.size ≤ c).elim (fun hx => (.inr (.inr (.inl (hx))))) (fun hz => absurd hlt (Nat.not_lt.2 hz)))) (fun hx => ((((ho28_z7_0_1 c hx).elim (fun hz => (.inl hz)) (fun hz => .inr (Nat.le_trans (Nat.le_refl _) hz))) : mb z7_0_1_10 = some c ∨ w11.heap.size ≤ c).elim (fun hx => (.inr (.inr (.inr (.inl (hx)))))) (fun hz => absurd hlt (Nat.not_lt.2 hz))))))), hM116, (inc_wf hw28_28 hd30 (len_wf (hV26).wf.1)), hR119, (fun g hg => ((ho28_u2 g hg).elim (fun hz => (.inl hz)) (fun hz => .inr (Nat.le_trans (Nat.le_refl _) hz)))), hR120, (fun g hg => ((ho28_u3 g hg).elim (fun hz => (.inl hz)) (fun hz => .inr (Nat.le_trans (Nat.le_refl _) hz)))), hu116_0_0, (fun g hg => ((hxu116_0_0 g hg).elim (fun hz => ((ho28_z7_0_0 g hz).elim (fun hz => (.inl hz)) (fun hz => .inr (Nat.le_trans (Nat.le_refl _) hz)))) (fun hz => .inr (Nat.le_trans (Nat.le_trans hX29.size (Nat.le_trans hS36.size (Nat.le_trans hS38.size (Nat.le_trans hS39.size (Nat.le_trans hS49.size (Nat.le_trans hS64.size hS103.size)))))) hz)))), hu116_0_1, (fun g hg => ((hxu116_0_1 g hg).elim (fun hz => ((ho28_z7_0_1 g hz).elim (fun hz => (.inl hz)) (fun hz => .inr (Nat.le_trans (Nat.le_refl _) hz)))) (fun hz => .inr (Nat.le_trans (Nat.le_trans hX29.size (Nat.le_trans hS36.size (Nat.le_trans hS38.size (Nat.le_trans hS39.size (Nat.le_trans hS49.size (Nat.le_trans hS64.size hS103.size)))))) hz)))), hB116_w, hs28_u2_u3⟩
      · have hd30 : ¬ (i28 < (y20.1.1.length : Int)) := dec_f hc30
        have h := h.2 hd30
        refine WP_exit ?_
        refine WP_region ?_
        refine WL_pure (.int .i64 (IntKind.i64.wrap (i10 + 1))) (R_add rfl rfl) rfl rfl ?_
        refine WL_pure (.int .i64 (IntKind.i64.wrap (i10 + 1))) (R_mv rfl) rfl rfl ?_
        refine WL_nil ?_
        refine BackQ.mk (a28, b28, found28, (IntKind.i64.wrap (i10 + 1)), y28, y28') [(2, u2_28), (3, u3_28), (4, (.bool found28)), (16, (.int .i64 (IntKind.i64.wrap (i10 + 1))))] ?_ ?_ ?_ ?_
        rotate_left
        · exact h.2
        · repeat (first | exact Off.lay0 rfl | refine Off.updO ?_ rfl _ | refine Off.updN ?_ _ | refine Off.lay ?_ rfl)
        · repeat (first | exact trivial | refine ⟨rfl, ?_⟩)
        exact ⟨K29, u2_28, u3_28, z7_0_0_28, z7_0_1_28, h.1, rfl, (((Ext.refl _ _ _).comp hX11 (fun c hx hlt => Or.elim hx (fun hx => (.inl (hx))) (fun hx => Or.elim hx (fun hx => (.inl (hx))) (fun hx => Or.elim hx (fun hx => (absurd hlt (Nat.not_lt.2 (nilS hx)))) (fun hx => Or.elim hx (fun hx => (absurd hlt (Nat.not_lt.2 (nilM hx)))) (fun hx => (.inr (.inr (.inr (.inr (hx))))))))))).comp hX29 (fun c hx hlt => Or.elim hx (fun hx => ((((ho10_u2 c hx).elim (fun hz => (.inl hz)) (fun hz => .inr (Nat.le_trans (Nat.le_refl _) hz))) : ob (.slice none 0 0) = some c ∨ w6.heap.size ≤ c).elim (fun hx => (.inl (hx))) (fun hz => absurd hlt (Nat.not_lt.2 hz)))) (fun hx => Or.elim hx (fun hx => ((((ho10_u3 c hx).elim (fun hz => (.inl hz)) (fun hz => .inr (Nat.le_trans (Nat.le_refl _) hz))) : ob (.slice none 0 0) = some c ∨ w6.heap.size ≤ c).elim (fun hx => (.inl (hx))) (fun hz => absurd hlt (Nat.not_lt.2 hz)))) (fun hx => Or.elim hx (fun hx => (absurd hlt (Nat.not_lt.2 ((ho10_z7_0_0 c hx).elim (fun hz => (nilS hz)) (fun hz => (Nat.le_trans (Nat.le_refl _) hz)))))) (fun hx => Or.elim hx (fun hx => (absurd hlt (Nat.not_lt.2 ((ho10_z7_0_1 c hx).elim (fun hz => (nilM hz)) (fun hz => (Nat.le_trans (Nat.le_refl _) hz)))))) (fun hx => (.inr (.inr (.inr (.inr (hx))))))))))), hM29, (wrap_wf _ _), hL28_u2, (fun g hg => ((ho28_u2 g hg).elim (fun hz => ((ho10_u2 g hz).elim (fun hz => (.inl hz)) (fun hz => .inr (Nat.le_trans (Nat.le_refl _) hz)))) (fun hz => .inr (Nat.le_trans hX11.size hz)))), hL28_u3, (fun g hg => ((ho28_u3 g hg).elim (fun hz => ((ho10_u3 g hz).elim (fun hz => (.inl hz)) (fun hz => .inr (Nat.le_trans (Nat.le_refl _) hz)))) (fun hz => .inr (Nat.le_trans hX11.size hz)))), hL28_z7_0_0, (fun g hg => .inr ((ho28_z7_0_0 g hg).elim (fun hz => ((ho10_z7_0_0 g hz).elim (fun hz => (nilS hz)) (fun hz => (Nat.le_trans (Nat.le_refl _) hz)))) (fun hz => (Nat.le_trans hX11.size hz)))), hL28_z7_0_1, (fun g hg => .inr ((ho28_z7_0_1 g hg).elim (fun hz => ((ho10_z7_0_1 g hz).elim (fun hz => (nilM hz)) (fun hz => (Nat.le_trans (Nat.le_refl _) hz)))) (fun hz => (Nat.le_trans hX11.size hz)))), hL28_7, hs28_u2_u3⟩
  · have hd14 : ¬ (i10 < (a0_l.length : Int)) := dec_f hc14
    have h := h.2 hd14
    refine WP_exit ?_
    refine WP_seq ?_
    refine WP_region ?_
    have hR121 : Own Kd.byte 5 w11 K11 ([] : List UInt8) (.slice none 0 0) := Own.nil
    refine WL_pure (.slice none 0 0) (R_as rfl) rfl rfl ?_
    have hR122 : Own Kd.byte 5 w11 K11 ([] : List UInt8) (.slice none 0 0) := Own.nil
    refine WL_pure (.slice none 0 0) (R_as rfl) rfl rfl ?_
    refine WL_pure (.bool false) (R_as rfl) rfl rfl ?_
    refine WL_nil ?_
    refine WP_ret ?_
    exact endR_ret hR (v := (.tuple #[(.slice none 0 0), (.slice none 0 0), (.bool false)])) (resE_3 rfl rfl rfl rfl) ⟨K11, (.slice none 0 0), (.slice none 0 0), (.bool false), ([] : List UInt8), ([] : List UInt8), false, rfl, h, hE11, hM11, hR121.V, hR122.V, bool_V⟩
theorem Clash_c {w0 : World} {K0 : Ghost} {a0_l_v : Value} {a0_l : (List (Option (((List ((List UInt8) × (List UInt8))) × Unit) × Int)))} (hM0 : Models w0 K0) (h_a0_l : kd_l_p_Sseal_BookF.V K0 a0_l a0_l_v) (hp : clashPre a0_l) : Calls Try.prog 20 #[a0_l_v] w0 (fun e w' => ∃ (K' : Ghost) (r0 : Value) (r1 : Value) (r2 : Value), e = .returned (.tuple #[r0, r1, r2]) ∧ Ext NX w0 K0 w' K' ∧ Models w' K' ∧ kd_l_u8.V K' ((clashA a0_l).1) r0 ∧ kd_l_u8.V K' ((clashA a0_l).2.1) r1 ∧ Kd.bool.V K' ((clashA a0_l).2.2) r2) := by
  refine (Clash_walk hM0 h_a0_l (Clash_ok h_a0_l.wf hp)).mono ?_
  rintro _ w' ⟨K', r0, r1, r2, o0, o1, o2, rfl, ⟨rfl, rfl, rfl⟩, hF⟩
  exact ⟨K', r0, r1, r2, rfl, hF⟩
end Go.Proofs.Ytfbhiilolpamaaa
