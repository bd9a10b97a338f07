/- Each function that stands here: what its call must answer for (_VC), that it does (_ok), the walk through its code (_walk), its contract (_c). -/
import Derived.Test.YtfbhiilolpamaaaS14
import Derived.Test.YtfbhiilolpamaaaChecked
import Derived.Test.YtfbhiilolpamaaaB21
import Derived.Test.YtfbhiilolpamaaaP8
set_option linter.unusedVariables false
set_option maxRecDepth 100000
set_option maxHeartbeats 2000000
namespace Go.Proofs.Ytfbhiilolpamaaa
open Go Go.RowKit Go.Inc
def Block_VC (a0_old : (List Int)) (a1_b : (List UInt8)) (Q : (List Int) → Prop) : Prop :=
  ((([] : List Int).length + a0_old.length) * 4 ≤ 140737488355328) ∧ ((a1_b.length = 64) ∧ ((kd_l_u32.wf (wordsN a1_b 64)) → ((kd_l_u32.wf shaK) → (∃ (I18 : (List Int) → Int → Prop) (μ18 : (List Int) → Int → Nat), I18 a0_old 0 ∧ ∀ (x18 : (List Int)) (i18 : Int), I18 x18 i18 → (kd_l_u32.wf x18) → ((Kd.int .i64).wf i18) → (((i18 < 64) → (0 ≤ (0 : Int) ∧ (0 : Int) < (x18.length : Int)) ∧ ((0 ≤ (4 : Int) ∧ (4 : Int) < (x18.length : Int)) ∧ ((0 ≤ (7 : Int) ∧ (7 : Int) < (x18.length : Int)) ∧ ((0 ≤ (5 : Int) ∧ (5 : Int) < (x18.length : Int)) ∧ ((0 ≤ (6 : Int) ∧ (6 : Int) < (x18.length : Int)) ∧ ((0 ≤ i18 ∧ i18 < (shaK.length : Int)) ∧ ((0 ≤ i18 ∧ i18 < ((wordsN a1_b 64).length : Int)) ∧ (((1 : Int) ≤ 6 ∧ 6 ≤ (31 : Int)) ∧ (((Kd.int .u32).wf (turnR (ix x18 4) 6)) → (((1 : Int) ≤ 11 ∧ 11 ≤ (31 : Int)) ∧ (((Kd.int .u32).wf (turnR (ix x18 4) 11)) → (((1 : Int) ≤ 25 ∧ 25 ≤ (31 : Int)) ∧ (((Kd.int .u32).wf (turnR (ix x18 4) 25)) → (((Kd.int .u32).wf (bxor .u32 (bxor .u32 (turnR (ix x18 4) 6) (turnR (ix x18 4) 11)) (turnR (ix x18 4) 25))) → ((0 ≤ (1 : Int) ∧ (1 : Int) < (x18.length : Int)) ∧ ((0 ≤ (2 : Int) ∧ (2 : Int) < (x18.length : Int)) ∧ ((0 ≤ (1 : Int) ∧ (1 : Int) < (x18.length : Int)) ∧ ((0 ≤ (2 : Int) ∧ (2 : Int) < (x18.length : Int)) ∧ (((1 : Int) ≤ 2 ∧ 2 ≤ (31 : Int)) ∧ (((Kd.int .u32).wf (turnR (ix x18 0) 2)) → (((1 : Int) ≤ 13 ∧ 13 ≤ (31 : Int)) ∧ (((Kd.int .u32).wf (turnR (ix x18 0) 13)) → (((1 : Int) ≤ 22 ∧ 22 ≤ (31 : Int)) ∧ (((Kd.int .u32).wf (turnR (ix x18 0) 22)) → (((Kd.int .u32).wf (bxor .u32 (bxor .u32 (turnR (ix x18 0) 2) (turnR (ix x18 0) 13)) (turnR (ix x18 0) 22))) → ((0 ≤ (3 : Int) ∧ (3 : Int) < (x18.length : Int)) ∧ ((0 ≤ (3 : Int) ∧ (3 : Int) < (x18.length : Int)) ∧ ((0 ≤ (7 : Int) ∧ (7 : Int) ≤ ((x18.set (3 : Int).toNat (IntKind.u32.wrap ((ix x18 3) + (IntKind.u32.wrap ((IntKind.u32.wrap ((IntKind.u32.wrap ((IntKind.u32.wrap ((ix x18 7) + (bxor .u32 (bxor .u32 (turnR (ix x18 4) 6) (turnR (ix x18 4) 11)) (turnR (ix x18 4) 25)))) + (bor .u32 (band .u32 (ix x18 4) (ix x18 5)) (band .u32 (bxor .u32 4294967295 (ix x18 4)) (ix x18 6))))) + (ix shaK i18))) + (ix (wordsN a1_b 64) i18)))))).length : Int)) ∧ ((([(IntKind.u32.wrap ((IntKind.u32.wrap ((IntKind.u32.wrap ((IntKind.u32.wrap ((IntKind.u32.wrap ((ix x18 7) + (bxor .u32 (bxor .u32 (turnR (ix x18 4) 6) (turnR (ix x18 4) 11)) (turnR (ix x18 4) 25)))) + (bor .u32 (band .u32 (ix x18 4) (ix x18 5)) (band .u32 (bxor .u32 4294967295 (ix x18 4)) (ix x18 6))))) + (ix shaK i18))) + (ix (wordsN a1_b 64) i18))) + (IntKind.u32.wrap ((bxor .u32 (bxor .u32 (turnR (ix x18 0) 2) (turnR (ix x18 0) 13)) (turnR (ix x18 0) 22)) + (bor .u32 (bor .u32 (band .u32 (ix x18 0) (ix x18 1)) (band .u32 (ix x18 0) (ix x18 2))) (band .u32 (ix x18 1) (ix x18 2)))))))].length + ((x18.set (3 : Int).toNat (IntKind.u32.wrap ((ix x18 3) + (IntKind.u32.wrap ((IntKind.u32.wrap ((IntKind.u32.wrap ((IntKind.u32.wrap ((ix x18 7) + (bxor .u32 (bxor .u32 (turnR (ix x18 4) 6) (turnR (ix x18 4) 11)) (turnR (ix x18 4) 25)))) + (bor .u32 (band .u32 (ix x18 4) (ix x18 5)) (band .u32 (bxor .u32 4294967295 (ix x18 4)) (ix x18 6))))) + (ix shaK i18))) + (ix (wordsN a1_b 64) i18)))))).take (7 : Int).toNat).length) * 4 ≤ 140737488355328) ∧ (I18 ([(IntKind.u32.wrap ((IntKind.u32.wrap ((IntKind.u32.wrap ((IntKind.u32.wrap ((IntKind.u32.wrap ((ix x18 7) + (bxor .u32 (bxor .u32 (turnR (ix x18 4) 6) (turnR (ix x18 4) 11)) (turnR (ix x18 4) 25)))) + (bor .u32 (band .u32 (ix x18 4) (ix x18 5)) (band .u32 (bxor .u32 4294967295 (ix x18 4)) (ix x18 6))))) + (ix shaK i18))) + (ix (wordsN a1_b 64) i18))) + (IntKind.u32.wrap ((bxor .u32 (bxor .u32 (turnR (ix x18 0) 2) (turnR (ix x18 0) 13)) (turnR (ix x18 0) 22)) + (bor .u32 (bor .u32 (band .u32 (ix x18 0) (ix x18 1)) (band .u32 (ix x18 0) (ix x18 2))) (band .u32 (ix x18 1) (ix x18 2)))))))] ++ ((x18.set (3 : Int).toNat (IntKind.u32.wrap ((ix x18 3) + (IntKind.u32.wrap ((IntKind.u32.wrap ((IntKind.u32.wrap ((IntKind.u32.wrap ((ix x18 7) + (bxor .u32 (bxor .u32 (turnR (ix x18 4) 6) (turnR (ix x18 4) 11)) (turnR (ix x18 4) 25)))) + (bor .u32 (band .u32 (ix x18 4) (ix x18 5)) (band .u32 (bxor .u32 4294967295 (ix x18 4)) (ix x18 6))))) + (ix shaK i18))) + (ix (wordsN a1_b 64) i18)))))).take (7 : Int).toNat)) (IntKind.i64.wrap (i18 + 1)) ∧ μ18 ([(IntKind.u32.wrap ((IntKind.u32.wrap ((IntKind.u32.wrap ((IntKind.u32.wrap ((IntKind.u32.wrap ((ix x18 7) + (bxor .u32 (bxor .u32 (turnR (ix x18 4) 6) (turnR (ix x18 4) 11)) (turnR (ix x18 4) 25)))) + (bor .u32 (band .u32 (ix x18 4) (ix x18 5)) (band .u32 (bxor .u32 4294967295 (ix x18 4)) (ix x18 6))))) + (ix shaK i18))) + (ix (wordsN a1_b 64) i18))) + (IntKind.u32.wrap ((bxor .u32 (bxor .u32 (turnR (ix x18 0) 2) (turnR (ix x18 0) 13)) (turnR (ix x18 0) 22)) + (bor .u32 (bor .u32 (band .u32 (ix x18 0) (ix x18 1)) (band .u32 (ix x18 0) (ix x18 2))) (band .u32 (ix x18 1) (ix x18 2)))))))] ++ ((x18.set (3 : Int).toNat (IntKind.u32.wrap ((ix x18 3) + (IntKind.u32.wrap ((IntKind.u32.wrap ((IntKind.u32.wrap ((IntKind.u32.wrap ((ix x18 7) + (bxor .u32 (bxor .u32 (turnR (ix x18 4) 6) (turnR (ix x18 4) 11)) (turnR (ix x18 4) 25)))) + (bor .u32 (band .u32 (ix x18 4) (ix x18 5)) (band .u32 (bxor .u32 4294967295 (ix x18 4)) (ix x18 6))))) + (ix shaK i18))) + (ix (wordsN a1_b 64) i18)))))).take (7 : Int).toNat)) (IntKind.i64.wrap (i18 + 1)) < μ18 x18 i18)))))))))))))))))))))))))))))) ∧ ((¬ (i18 < 64)) → ∃ (I117 : Int → (List Int) → Prop) (μ117 : Int → (List Int) → Nat), I117 0 x18 ∧ ∀ (i117 : Int) (b117 : (List Int)), I117 i117 b117 → ((Kd.int .i64).wf i117) → (kd_l_u32.wf b117) → (((i117 < 8) → (0 ≤ i117 ∧ i117 < (b117.length : Int)) ∧ ((0 ≤ i117 ∧ i117 < (a0_old.length : Int)) ∧ ((0 ≤ i117 ∧ i117 < (b117.length : Int)) ∧ (I117 (IntKind.i64.wrap (i117 + 1)) (b117.set i117.toNat (IntKind.u32.wrap ((ix b117 i117) + (ix a0_old i117)))) ∧ μ117 (IntKind.i64.wrap (i117 + 1)) (b117.set i117.toNat (IntKind.u32.wrap ((ix b117 i117) + (ix a0_old i117)))) < μ117 i117 b117)))) ∧ ((¬ (i117 < 8)) → Q b117))))))))
theorem Block_ok {a0_old : (List Int)} {a1_b : (List UInt8)} (w_0 : kd_l_u32.wf a0_old) (w_1 : kd_l_u8.wf a1_b) (hp : a0_old.length = 8 ∧ a1_b.length = 64) : Block_VC a0_old a1_b (fun o0 => o0 = (takeW a0_old a1_b)) := by
  obtain ⟨hp1, hp2⟩ := hp
  have w64 : ∀ a : Int, -1000 ≤ a → a ≤ 1000 → IntKind.i64.wrap a = a := fun a h1 h2 => wrap_id (wf64 (by omega) (by omega))
  have hk : shaK.length = 64 := by decide
  have hwl := wordsN_len a1_b 64
  have hrl : ∀ n, (roundsN (wordsN a1_b 64) a0_old n).length = 8 := fun n => by
    cases n with
    | zero => exact hp1
    | succ n => rfl
  unfold Block_VC
  refine ⟨by simp; omega, hp2, fun _ _ => ⟨fun x i => ∃ n : Nat, i = (n : Int) ∧ n ≤ 64 ∧ x = roundsN (wordsN a1_b 64) a0_old n, fun _ i => 64 - i.toNat, ⟨0, rfl, by omega, rfl⟩, ?_⟩⟩
  rintro x i ⟨n, rfl, hn, rfl⟩ hwf _
  have hx := hrl n
  rw [w64 ((n : Int) + 1) (by omega) (by omega)]
  refine ⟨fun hlt => ?_, fun hge => ?_⟩
  · have x4 := wf32 (hwf.2 _ (ix_mem (l := roundsN (wordsN a1_b 64) a0_old n) (i := 4) (by omega) (by rw [hx]; decide)))
    have x0 := wf32 (hwf.2 _ (ix_mem (l := roundsN (wordsN a1_b 64) a0_old n) (i := 0) (by omega) (by rw [hx]; decide)))
    have hnext : roundsN (wordsN a1_b 64) a0_old (n + 1) = roundOn (wordsN a1_b 64) (roundsN (wordsN a1_b 64) a0_old n) n := rfl
    rw [← turnsA x4, ← turnsB x0, ch_eq, maj_eq]
    generalize hX : roundsN (wordsN a1_b 64) a0_old n = X at *
    rw [hx, hk, hwl]
    refine ⟨by omega, by omega, by omega, by omega, by omega, by omega, by omega, by omega, fun _ => ⟨by omega, fun _ => ⟨by omega, fun _ _ => ?_⟩⟩⟩
    refine ⟨by omega, by omega, by omega, by omega, by omega, fun _ => ⟨by omega, fun _ => ⟨by omega, fun _ _ => ?_⟩⟩⟩
    refine ⟨by omega, by omega, ?_, ?_, ⟨n + 1, by omega, by omega, ?_⟩, (by show 64 - ((n : Int) + 1).toNat < 64 - (n : Int).toNat; omega)⟩
    · rw [List.length_set, hx]; decide
    · simp only [List.length_cons, List.length_nil, List.length_take, List.length_set, hx]; decide
    · rw [hnext]
      match X, hx with
      | [y0, y1, y2, y3, y4, y5, y6, y7], _ => rfl
  · have hn64 : n = 64 := by omega
    subst hn64
    have hT : takeW a0_old a1_b = addN a0_old (roundsN (wordsN a1_b 64) a0_old 64) 8 := by unfold takeW; rfl
    rw [hT]
    have hTl : (addN a0_old (roundsN (wordsN a1_b 64) a0_old 64) 8).length = 8 := by rw [addN_len, hp1]
    have hadd := addN_get (x := roundsN (wordsN a1_b 64) a0_old 64) hp1
    clear hrl hT hwf hn hge
    generalize roundsN (wordsN a1_b 64) a0_old 64 = R at *
    refine ⟨fun i x => ∃ n : Nat, i = (n : Int) ∧ n ≤ 8 ∧ x.length = 8 ∧ ∀ j : Nat, j < 8 → x[j]? = if j < n then (addN a0_old R 8)[j]? else R[j]?, fun i _ => 8 - i.toNat, ⟨0, rfl, by omega, hx, fun j hj => by rw [if_neg (by omega)]⟩, ?_⟩
    rintro i x ⟨n, rfl, hn, hxl, hxj⟩ _ _
    rw [w64 ((n : Int) + 1) (by omega) (by omega)]
    refine ⟨fun hlt => ⟨by omega, by omega, by omega, ⟨n + 1, by omega, by omega, by rw [List.length_set]; exact hxl, fun j hj => ?_⟩, by show 8 - ((n : Int) + 1).toNat < 8 - (n : Int).toNat; omega⟩, fun hge => ?_⟩
    · have hi : ix x (n : Int) = ix R (n : Int) := by
        have h := hxj n (by omega)
        rw [if_neg (by omega)] at h
        unfold ix
        simp only [List.getD_eq_getElem?_getD, Int.toNat_natCast]
        rw [h]
      rw [hi, List.getElem?_set, Int.toNat_natCast]
      by_cases h : n = j
      · subst h
        rw [if_pos rfl, if_pos (by omega), if_pos (by omega), hadd 8 n (by omega) (by omega), if_pos (by omega), Int.add_comm]
      · rw [if_neg h, hxj j hj]
        by_cases h2 : j < n
        · rw [if_pos h2, if_pos (by omega)]
        · rw [if_neg h2, if_neg (by omega)]
    · have hn8 : n = 8 := by omega
      subst hn8
      apply List.ext_getElem?
      intro j
      by_cases hj : j < 8
      · rw [hxj j hj, if_pos hj]
      · rw [List.getElem?_eq_none (by omega), List.getElem?_eq_none (by omega)]

theorem Block_walk {w0 : World} {K0 : Ghost} {a0_old_v : Value} {a0_old : (List Int)} {a1_b_v : Value} {a1_b : (List UInt8)} {Q : (List Int) → Prop} (hM0 : Models w0 K0) (h_a0_old : kd_l_u32.V K0 a0_old a0_old_v) (h_a1_b : kd_l_u8.V K0 a1_b a1_b_v) (h : Block_VC a0_old a1_b Q) : Calls Try.prog 75 #[a0_old_v, a1_b_v] w0 (fun e w' => ∃ (K' : Ghost) (r0 : Value) (o0 : (List Int)), e = .returned r0 ∧ Q o0 ∧ Ext NX w0 K0 w' K' ∧ Models w' K' ∧ Own (Kd.int .u32) 123 w' K' o0 r0 ∧ (∀ g, ob r0 = some g → w0.heap.size ≤ g)) := by
  unfold Block_VC at h
  have hE0 : Ext NX w0 K0 w0 K0 := Ext.refl _ _ _
  refine calls_gen fun R hR => ?_
  refine calls_env (args := [a0_old_v, a1_b_v]) Try.func75 rfl (Nat.le_of_ble_eq_true rfl) ?_
  refine WP_seq ?_
  refine WP_region ?_
  have hR3 : Own (Kd.int .u32) 123 w0 K0 ([] : List Int) (.slice none 0 0) := Own.nil
  refine WL_pure (.slice none 0 0) (R_as rfl) rfl rfl ?_
  refine WL_nil ?_
  refine WP_seq ?_
  refine WP_region ?_
  refine WL_eff rfl rfl (St_S0 (S_bsl (k := (Kd.int .u32)) (l := []) hM0 rfl (by intro p hp; cases hp) rfl Try.underlying124 ty123 rfl rfl) ?_)
  rintro v4 w4 K4 (hO4 : Own (Kd.int .u32) 123 w4 K4 ([] : List Int) v4) hS4 hM4 hg4
  obtain ⟨K4, hO4, hS4, hM4⟩ := Own.unkN hO4 hS4 hM4 hM0 hg4
  have hE4 := hE0.andN hS4
  refine WL_pure a0_old_v (R_mv rfl) rfl rfl ?_
  obtain ⟨hp7, h⟩ := h
  refine WL_eff rfl rfl (St_SR (S_appR hM4 rfl hO4 rfl (Cells.ofV hM4 (h_a0_old.mono hS4.le)) Try.underlying124 ty123 rfl hp7) ?_)
  rintro v6 w6 K6 hO6 hS6 hM6 hob6
  have hE6 := hE4.comp hS6 (fun c hx hlt => (fun g hg hlt => absurd hlt (Nat.not_lt.2 ((fun g hg => Nat.le_trans hE0.size (hg4 g hg)) g hg))) c hx hlt)
  have hR8 := (hR3.extN hS4)
  have hR9 := (hR8.ext hS6 (fun g hg hx => (fun g hg hx => (fun g hg hx => absurd (hR3.lt _ hx) (Nat.not_lt.2 (hg4 g hg))) g hx hg) g hg hx))
  rw [List.nil_append] at hO6
  have hf6 : ∀ g, ob v6 = some g → w0.heap.size ≤ g := fun g hg => by rcases hob6 with hq | hq <;> rw [hq] at hg; exact (fun g hg => Nat.le_trans hE0.size (hg4 g hg)) g hg; cases hg; exact hE4.size
  refine WL_pure v6 (R_as rfl) rfl rfl ?_
  refine WL_nil ?_
  refine WP_seq ?_
  refine WP_region ?_
  refine WL_pure a1_b_v (R_mv rfl) rfl rfl ?_
  obtain ⟨hp12, h⟩ := h
  refine WL_eff rfl rfl (St_call (R_call Try.call97 rfl) ((schedule_c hM6 (h_a1_b.mono (hS4.le.trans hS6.le)) hp12).mono ?_))
  rintro _ w11 ⟨K11, v11_0, rfl, hS11, hM11, hO11_0, hg11_0⟩
  refine ⟨v11_0, rfl, ?_⟩
  have hE11 := hE6.andN hS11
  have h := h hO11_0.wf
  have hR14 := (hR9.extN hS11)
  have hR15 := (hO6.extN hS11)
  refine WL_eff rfl rfl (St_call (R_call Try.call98 rfl) ((constants_c hM11 ).mono ?_))
  rintro _ w16 ⟨K16, v16_0, rfl, hS16, hM16, hO16_0, hg16_0⟩
  refine ⟨v16_0, rfl, ?_⟩
  have hE16 := hE11.andN hS16
  have h := h hO16_0.wf
  refine WL_pure v11_0 (R_as rfl) rfl rfl ?_
  refine WL_pure v16_0 (R_as rfl) rfl rfl ?_
  refine WL_nil ?_
  refine WP_seq ?_
  refine WP_seq ?_
  refine WP_region ?_
  refine WL_pure (.int .i64 0) (R_as rfl) rfl rfl ?_
  refine WL_nil ?_
  refine WP_block ?_
  have hR20 := (hR15.extN hS16)
  obtain ⟨I18, μ18, h0, h⟩ := h
  refine WP_loopE (ι := (List Int) × Int) [5, 8, 9, 10, 11, 12, 13, 21, 22, 23, 24, 25, 26, 27, 28, 29, 30, 31, 32, 33, 34, 35, 36, 37, 38, 39, 40, 41, 42, 43, 44, 45, 46, 47, 48, 49, 50, 51, 52, 53, 54, 55, 56, 57, 58, 59, 60, 61, 62, 63, 64, 65, 66, 67, 68, 69, 70, 71, 72, 73, 74, 75, 76, 77, 78, 79, 80, 81, 82, 83, 84, 85, 86, 87, 88, 89, 90, 91, 92, 93, 94, 95, 96, 97, 98, 99, 100, 101, 102, 103, 104, 105, 106] (fun s l w => ∃ K u5, I18 s.1 s.2 ∧ l = [(5, u5), (8, (.int .i64 s.2))] ∧ Ext (fun c => ob v6 = some c) w16 K16 w K ∧ Models w K ∧ (Kd.int .i64).wf s.2 ∧ Rw (Kd.int .u32) 123 w K s.1 u5 ∧ (∀ g, ob u5 = some g → ob v6 = some g ∨ w16.heap.size ≤ g)) (fun s => μ18 s.1 s.2) (a0_old, 0) [(5, v6), (8, (.int .i64 0))]
    ⟨K16, v6, h0, rfl, Ext.refl _ _ _, hM16, (show (Kd.int .i64).wf 0 from by constructor <;> decide), hR20, (fun g hg => (.inl hg))⟩ (by repeat (first | exact trivial | refine ⟨rfl, ?_⟩)) ?_
  rintro ⟨x18, i18⟩ l σ18 w19 ⟨K19, u5_18, hI, rfl, hX19, hM19, hw18_8, hL18_u5, ho18_u5⟩
  dsimp only at hI hw18_8 hL18_u5 ho18_u5
  have hE19 := hE16.comp hX19 (fun c hx hlt => (fun g hg hlt => absurd hlt (Nat.not_lt.2 (hf6 g hg))) c hx hlt)
  have hR21 := (hR14.extN hS16)
  have hR22 := (hR21.ext hX19 (fun g hg hx => (fun g hg hx => (fun g _ hx => nilS hx) g hx hg) g hg hx))
  have hR23 := (hO11_0.extN hS16)
  have hR24 := (hR23.ext hX19 (fun g hg hx => (fun g hg hx => absurd (hO6.lt _ hx) (Nat.not_lt.2 (hg11_0 g hg))) g hg hx))
  have hR25 := (hO16_0.ext hX19 (fun g hg hx => (fun g hg hx => absurd (hR15.lt _ hx) (Nat.not_lt.2 (hg16_0 g hg))) g hg hx))
  have hR26 := (hR14.extN hS16)
  have hR27 := (hO11_0.extN hS16)
  have h := h x18 i18 hI hL18_u5.wf hw18_8
  refine WP_seq ?_
  refine WP_seq ?_
  refine WP_region ?_
  refine WL_pure (.int .i64 i18) (R_mv rfl) rfl rfl ?_
  refine WL_pure (.bool (decide (i18 < 64))) (R_lss rfl rfl) rfl rfl ?_
  refine WL_nil ?_
  refine WP_cond (decide (i18 < 64)) rfl (fun hc28 => ?_) (fun hc28 => ?_)
  · have hd28 : i18 < 64 := dec_t hc28
    have h := h.1 hd28
    refine WP_skip ?_
    refine WP_seq ?_
    refine WP_block ?_
    refine WP_seq ?_
    refine WP_ordD (K := K19) NX [.o 0 2, .o 1 2, .o 2 2, .o 3 2, .o 4 2, .o 5 2, .o 6 2, .o 7 2] (by kernel_rfl) (by kernel_rfl) hM19 ?_
    rintro w29 hS29 hM29
    have hE29 := hE19.andN hS29
    refine WO_pure u5_18 rfl l0 hM29 (fun _ => R_mv rfl) rfl (gN rfl) rfl ?_
    obtain ⟨hp31, h⟩ := h
    have hR32 := (hL18_u5.extN hS29)
    refine WO_PQ rfl l0 hM29 (S_ixR rfl hR32 rfl Try.underlying124 ty123 hp31.1 hp31.2) rfl (gN rfl) rfl ?_
    rintro b30 o30 hA30
    refine WO_L0 hM29 (S_ldR (fun _ _ _ _ h => h) hM29 rfl ty123 hR32 hA30 (fun _ _ h => h)) rfl (gN rfl) rfl ?_
    rintro v33 (hV33 : (Kd.int .u32).V _ (ix x18 0) _)
    obtain rfl := int_form hV33
    refine WO_pure u5_18 rfl l0 hM29 (fun _ => R_mv rfl) rfl (gN rfl) rfl ?_
    obtain ⟨hp35, h⟩ := h
    refine WO_PQ rfl l0 hM29 (S_ixR rfl hR32 rfl Try.underlying124 ty123 hp35.1 hp35.2) rfl (gN rfl) rfl ?_
    rintro b34 o34 hA34
    refine WO_L0 hM29 (S_ldR (fun _ _ _ _ h => h) hM29 rfl ty123 hR32 hA34 (fun _ _ h => h)) rfl (gN rfl) rfl ?_
    rintro v36 (hV36 : (Kd.int .u32).V _ (ix x18 4) _)
    obtain rfl := int_form hV36
    refine WO_pure (.int .u32 (ix x18 0)) rfl l0 hM29 (fun _ => R_as rfl) rfl (gN rfl) rfl ?_
    refine WO_pure (.int .u32 (ix x18 4)) rfl l0 hM29 (fun _ => R_as rfl) rfl (gN rfl) rfl ?_
    refine WO_nil ?_
    refine WP_seq ?_
    refine WP_ordD (K := K19) NX [.o 0 2, .o 1 2, .o 2 2, .o 3 2, .o 5 2, .o 7 2, .o 11 2, .o 12 2, .o 13 2, .o 14 2, .o 15 2, .o 16 2, .o 17 2, .o 18 2, .o 19 2, .o 20 2, .o 21 2, .o 22 2, .o 24 2, .o 25 2, .o 26 2, .o 27 2, .o 29 2, .o 30 2, .o 31 2, .o 32 2, .o 4 0, .o 6 0, .o 8 0, .o 9 0, .o 10 2, .o 23 2, .o 28 2, .o 33 2, .o 34 2] (by kernel_rfl) (by kernel_rfl) hM29 ?_
    rintro w37 hS37 hM37
    have hE37 := hE29.andN hS37
    refine WO_pure u5_18 rfl l0 hM37 (fun _ => R_mv rfl) rfl (gN rfl) rfl ?_
    obtain ⟨hp39, h⟩ := h
    have hR40 := (hR32.extN hS37)
    refine WO_PQ rfl l0 hM37 (S_ixR rfl hR40 rfl Try.underlying124 ty123 hp39.1 hp39.2) rfl (gN rfl) rfl ?_
    rintro b38 o38 hA38
    refine WO_L0 hM37 (S_ldR (fun _ _ _ _ h => h) hM37 rfl ty123 hR40 hA38 (fun _ _ h => h)) rfl (gN rfl) rfl ?_
    rintro v41 (hV41 : (Kd.int .u32).V _ (ix x18 7) _)
    obtain rfl := int_form hV41
    refine WO_pure (.int .u32 (ix x18 4)) rfl l0 hM37 (fun _ => R_mv rfl) rfl (gN rfl) rfl ?_
    refine WO_pure (.int .u32 (ix x18 4)) rfl l0 hM37 (fun _ => R_mv rfl) rfl (gN rfl) rfl ?_
    refine WO_pure (.int .u32 (ix x18 4)) rfl l0 hM37 (fun _ => R_mv rfl) rfl (gN rfl) rfl ?_
    refine WO_pure (.int .u32 (ix x18 4)) rfl l0 hM37 (fun _ => R_mv rfl) rfl (gN rfl) rfl ?_
    refine WO_pure u5_18 rfl l0 hM37 (fun _ => R_mv rfl) rfl (gN rfl) rfl ?_
    obtain ⟨hp43, h⟩ := h
    refine WO_PQ rfl l0 hM37 (S_ixR rfl hR40 rfl Try.underlying124 ty123 hp43.1 hp43.2) rfl (gN rfl) rfl ?_
    rintro b42 o42 hA42
    refine WO_L0 hM37 (S_ldR (fun _ _ _ _ h => h) hM37 rfl ty123 hR40 hA42 (fun _ _ h => h)) rfl (gN rfl) rfl ?_
    rintro v44 (hV44 : (Kd.int .u32).V _ (ix x18 5) _)
    obtain rfl := int_form hV44
    refine WO_pure (.int .u32 (band .u32 (ix x18 4) (ix x18 5))) rfl l0 hM37 (fun _ => R_and rfl rfl) rfl (gN rfl) rfl ?_
    refine WO_pure (.int .u32 (ix x18 4)) rfl l0 hM37 (fun _ => R_mv rfl) rfl (gN rfl) rfl ?_
    refine WO_pure (.int .u32 (bxor .u32 4294967295 (ix x18 4))) rfl l0 hM37 (fun _ => R_xor rfl rfl) rfl (gN rfl) rfl ?_
    refine WO_pure u5_18 rfl l0 hM37 (fun _ => R_mv rfl) rfl (gN rfl) rfl ?_
    obtain ⟨hp46, h⟩ := h
    refine WO_PQ rfl l0 hM37 (S_ixR rfl hR40 rfl Try.underlying124 ty123 hp46.1 hp46.2) rfl (gN rfl) rfl ?_
    rintro b45 o45 hA45
    refine WO_L0 hM37 (S_ldR (fun _ _ _ _ h => h) hM37 rfl ty123 hR40 hA45 (fun _ _ h => h)) rfl (gN rfl) rfl ?_
    rintro v47 (hV47 : (Kd.int .u32).V _ (ix x18 6) _)
    obtain rfl := int_form hV47
    refine WO_pure (.int .u32 (band .u32 (bxor .u32 4294967295 (ix x18 4)) (ix x18 6))) rfl l0 hM37 (fun _ => R_and rfl rfl) rfl (gN rfl) rfl ?_
    refine WO_pure (.int .u32 (bor .u32 (band .u32 (ix x18 4) (ix x18 5)) (band .u32 (bxor .u32 4294967295 (ix x18 4)) (ix x18 6)))) rfl l0 hM37 (fun _ => R_or rfl rfl) rfl (gN rfl) rfl ?_
    refine WO_pure v16_0 rfl l0 hM37 (fun _ => R_mv rfl) rfl (gN rfl) rfl ?_
    refine WO_pure (.int .i64 i18) rfl l0 hM37 (fun _ => R_mv rfl) rfl (gN rfl) rfl ?_
    obtain ⟨hp49, h⟩ := h
    refine WO_P rfl l0 hM37 (S_ixs rfl (hR25.V.mono (hS29.le.trans hS37.le)) rfl Try.underlying124 ty123 hp49.1 hp49.2) rfl (gN rfl) rfl ?_
    rintro b48 o48 hP48
    refine WO_L0 hM37 (S_ld rfl ty123 hP48) rfl (gN rfl) rfl ?_
    rintro v51 (hV51 : (Kd.int .u32).V _ (ix shaK i18) _)
    obtain rfl := int_form hV51
    refine WO_pure v11_0 rfl l0 hM37 (fun _ => R_mv rfl) rfl (gN rfl) rfl ?_
    refine WO_pure (.int .i64 i18) rfl l0 hM37 (fun _ => R_mv rfl) rfl (gN rfl) rfl ?_
    obtain ⟨hp53, h⟩ := h
    refine WO_P rfl l0 hM37 (S_ixs rfl (hR24.V.mono (hS29.le.trans hS37.le)) rfl Try.underlying124 ty123 hp53.1 hp53.2) rfl (gN rfl) rfl ?_
    rintro b52 o52 hP52
    refine WO_L0 hM37 (S_ld rfl ty123 hP52) rfl (gN rfl) rfl ?_
    rintro v55 (hV55 : (Kd.int .u32).V _ (ix (wordsN a1_b 64) i18) _)
    obtain rfl := int_form hV55
    obtain ⟨hp57, h⟩ := h
    refine WO_eff0 rfl (gN rfl) rfl (St_call (R_call Try.call100 rfl) ((turn_c hM37 (int_V (hV36).wf) (int_V (show (Kd.int .i64).wf 6 from by constructor <;> decide)) hp57).mono ?_))
    rintro _ w56 ⟨K56, v56_0, rfl, hS56, hM56, hV56_0⟩
    refine ⟨v56_0, rfl, ?_⟩
    refine ⟨K56, hS56, hM56, ?_⟩
    have hE56 := hE37.andN hS56
    obtain rfl := int_form hV56_0
    have h := h hV56_0.wf
    obtain ⟨hp59, h⟩ := h
    refine WO_eff0 rfl (gN rfl) rfl (St_call (R_call Try.call100 rfl) ((turn_c hM56 (int_V (hV36).wf) (int_V (show (Kd.int .i64).wf 11 from by constructor <;> decide)) hp59).mono ?_))
    rintro _ w58 ⟨K58, v58_0, rfl, hS58, hM58, hV58_0⟩
    refine ⟨v58_0, rfl, ?_⟩
    refine ⟨K58, hS58, hM58, ?_⟩
    have hE58 := hE56.andN hS58
    obtain rfl := int_form hV58_0
    have h := h hV58_0.wf
    obtain ⟨hp61, h⟩ := h
    refine WO_eff0 rfl (gN rfl) rfl (St_call (R_call Try.call100 rfl) ((turn_c hM58 (int_V (hV36).wf) (int_V (show (Kd.int .i64).wf 25 from by constructor <;> decide)) hp61).mono ?_))
    rintro _ w60 ⟨K60, v60_0, rfl, hS60, hM60, hV60_0⟩
    refine ⟨v60_0, rfl, ?_⟩
    refine ⟨K60, hS60, hM60, ?_⟩
    have hE60 := hE58.andN hS60
    obtain rfl := int_form hV60_0
    have h := h hV60_0.wf
    refine WO_eff0 rfl (gN rfl) rfl (St_call (R_call Try.call99 rfl) ((three_c hM60 (int_V (hV56_0).wf) (int_V (hV58_0).wf) (int_V (hV60_0).wf)).mono ?_))
    rintro _ w62 ⟨K62, v62_0, rfl, hS62, hM62, hV62_0⟩
    refine ⟨v62_0, rfl, ?_⟩
    refine ⟨K62, hS62, hM62, ?_⟩
    have hE62 := hE60.andN hS62
    obtain rfl := int_form hV62_0
    have h := h hV62_0.wf
    refine WO_pure (.int .u32 (IntKind.u32.wrap ((ix x18 7) + (bxor .u32 (bxor .u32 (turnR (ix x18 4) 6) (turnR (ix x18 4) 11)) (turnR (ix x18 4) 25))))) rfl l0 hM62 (fun _ => R_add rfl rfl) rfl (gN rfl) rfl ?_
    refine WO_pure (.int .u32 (IntKind.u32.wrap ((IntKind.u32.wrap ((ix x18 7) + (bxor .u32 (bxor .u32 (turnR (ix x18 4) 6) (turnR (ix x18 4) 11)) (turnR (ix x18 4) 25)))) + (bor .u32 (band .u32 (ix x18 4) (ix x18 5)) (band .u32 (bxor .u32 4294967295 (ix x18 4)) (ix x18 6)))))) rfl l0 hM62 (fun _ => R_add rfl rfl) rfl (gN rfl) rfl ?_
    refine WO_pure (.int .u32 (IntKind.u32.wrap ((IntKind.u32.wrap ((IntKind.u32.wrap ((ix x18 7) + (bxor .u32 (bxor .u32 (turnR (ix x18 4) 6) (turnR (ix x18 4) 11)) (turnR (ix x18 4) 25)))) + (bor .u32 (band .u32 (ix x18 4) (ix x18 5)) (band .u32 (bxor .u32 4294967295 (ix x18 4)) (ix x18 6))))) + (ix shaK i18)))) rfl l0 hM62 (fun _ => R_add rfl rfl) rfl (gN rfl) rfl ?_
    refine WO_pure (.int .u32 (IntKind.u32.wrap ((IntKind.u32.wrap ((IntKind.u32.wrap ((IntKind.u32.wrap ((ix x18 7) + (bxor .u32 (bxor .u32 (turnR (ix x18 4) 6) (turnR (ix x18 4) 11)) (turnR (ix x18 4) 25)))) + (bor .u32 (band .u32 (ix x18 4) (ix x18 5)) (band .u32 (bxor .u32 4294967295 (ix x18 4)) (ix x18 6))))) + (ix shaK i18))) + (ix (wordsN a1_b 64) i18)))) rfl l0 hM62 (fun _ => R_add rfl rfl) rfl (gN rfl) rfl ?_
    refine WO_pure (.int .u32 (IntKind.u32.wrap ((IntKind.u32.wrap ((IntKind.u32.wrap ((IntKind.u32.wrap ((ix x18 7) + (bxor .u32 (bxor .u32 (turnR (ix x18 4) 6) (turnR (ix x18 4) 11)) (turnR (ix x18 4) 25)))) + (bor .u32 (band .u32 (ix x18 4) (ix x18 5)) (band .u32 (bxor .u32 4294967295 (ix x18 4)) (ix x18 6))))) + (ix shaK i18))) + (ix (wordsN a1_b 64) i18)))) rfl l0 hM62 (fun _ => R_as rfl) rfl (gN rfl) rfl ?_
    refine WO_nil ?_
    refine WP_seq ?_
    refine WP_ordD (K := K62) NX [.o 0 2, .o 1 2, .o 2 2, .o 3 2, .o 4 2, .o 5 2, .o 6 2, .o 7 2, .o 8 2, .o 9 2, .o 10 2, .o 11 2, .o 12 2, .o 13 2, .o 14 2, .o 15 2, .o 16 2, .o 17 2, .o 18 2, .o 19 2] (by kernel_rfl) (by kernel_rfl) hM62 ?_
    rintro w63 hS63 hM63
    have hE63 := hE62.andN hS63
    refine WO_pure (.int .u32 (ix x18 0)) rfl l0 hM63 (fun _ => R_mv rfl) rfl (gN rfl) rfl ?_
    refine WO_pure u5_18 rfl l0 hM63 (fun _ => R_mv rfl) rfl (gN rfl) rfl ?_
    obtain ⟨hp65, h⟩ := h
    have hR66 := (((((hR40.extN hS56).extN hS58).extN hS60).extN hS62).extN hS63)
    refine WO_PQ rfl l0 hM63 (S_ixR rfl hR66 rfl Try.underlying124 ty123 hp65.1 hp65.2) rfl (gN rfl) rfl ?_
    rintro b64 o64 hA64
    refine WO_L0 hM63 (S_ldR (fun _ _ _ _ h => h) hM63 rfl ty123 hR66 hA64 (fun _ _ h => h)) rfl (gN rfl) rfl ?_
    rintro v67 (hV67 : (Kd.int .u32).V _ (ix x18 1) _)
    obtain rfl := int_form hV67
    refine WO_pure (.int .u32 (band .u32 (ix x18 0) (ix x18 1))) rfl l0 hM63 (fun _ => R_and rfl rfl) rfl (gN rfl) rfl ?_
    refine WO_pure (.int .u32 (ix x18 0)) rfl l0 hM63 (fun _ => R_mv rfl) rfl (gN rfl) rfl ?_
    refine WO_pure u5_18 rfl l0 hM63 (fun _ => R_mv rfl) rfl (gN rfl) rfl ?_
    obtain ⟨hp69, h⟩ := h
    refine WO_PQ rfl l0 hM63 (S_ixR rfl hR66 rfl Try.underlying124 ty123 hp69.1 hp69.2) rfl (gN rfl) rfl ?_
    rintro b68 o68 hA68
    refine WO_L0 hM63 (S_ldR (fun _ _ _ _ h => h) hM63 rfl ty123 hR66 hA68 (fun _ _ h => h)) rfl (gN rfl) rfl ?_
    rintro v70 (hV70 : (Kd.int .u32).V _ (ix x18 2) _)
    obtain rfl := int_form hV70
    refine WO_pure (.int .u32 (band .u32 (ix x18 0) (ix x18 2))) rfl l0 hM63 (fun _ => R_and rfl rfl) rfl (gN rfl) rfl ?_
    refine WO_pure (.int .u32 (bor .u32 (band .u32 (ix x18 0) (ix x18 1)) (band .u32 (ix x18 0) (ix x18 2)))) rfl l0 hM63 (fun _ => R_or rfl rfl) rfl (gN rfl) rfl ?_
    refine WO_pure u5_18 rfl l0 hM63 (fun _ => R_mv rfl) rfl (gN rfl) rfl ?_
    obtain ⟨hp72, h⟩ := h
    refine WO_PQ rfl l0 hM63 (S_ixR rfl hR66 rfl Try.underlying124 ty123 hp72.1 hp72.2) rfl (gN rfl) rfl ?_
    rintro b71 o71 hA71
    refine WO_L0 hM63 (S_ldR (fun _ _ _ _ h => h) hM63 rfl ty123 hR66 hA71 (fun _ _ h => h)) rfl (gN rfl) rfl ?_
    rintro v73 (hV73 : (Kd.int .u32).V _ (ix x18 1) _)
    obtain rfl := int_form hV73
    refine WO_pure u5_18 rfl l0 hM63 (fun _ => R_mv rfl) rfl (gN rfl) rfl ?_
    obtain ⟨hp75, h⟩ := h
    refine WO_PQ rfl l0 hM63 (S_ixR rfl hR66 rfl Try.underlying124 ty123 hp75.1 hp75.2) rfl (gN rfl) rfl ?_
    rintro b74 o74 hA74
    refine WO_L0 hM63 (S_ldR (fun _ _ _ _ h => h) hM63 rfl ty123 hR66 hA74 (fun _ _ h => h)) rfl (gN rfl) rfl ?_
    rintro v76 (hV76 : (Kd.int .u32).V _ (ix x18 2) _)
    obtain rfl := int_form hV76
    refine WO_pure (.int .u32 (band .u32 (ix x18 1) (ix x18 2))) rfl l0 hM63 (fun _ => R_and rfl rfl) rfl (gN rfl) rfl ?_
    refine WO_pure (.int .u32 (bor .u32 (bor .u32 (band .u32 (ix x18 0) (ix x18 1)) (band .u32 (ix x18 0) (ix x18 2))) (band .u32 (ix x18 1) (ix x18 2)))) rfl l0 hM63 (fun _ => R_or rfl rfl) rfl (gN rfl) rfl ?_
    refine WO_pure (.int .u32 (bor .u32 (bor .u32 (band .u32 (ix x18 0) (ix x18 1)) (band .u32 (ix x18 0) (ix x18 2))) (band .u32 (ix x18 1) (ix x18 2)))) rfl l0 hM63 (fun _ => R_as rfl) rfl (gN rfl) rfl ?_
    refine WO_nil ?_
    refine WP_seq ?_
    refine WP_region ?_
    refine WL_pure (.int .u32 (ix x18 0)) (R_mv rfl) rfl rfl ?_
    obtain ⟨hp78, h⟩ := h
    refine WL_eff rfl rfl (St_call (R_call Try.call100 rfl) ((turn_c hM63 (int_V (hV33).wf) (int_V (show (Kd.int .i64).wf 2 from by constructor <;> decide)) hp78).mono ?_))
    rintro _ w77 ⟨K77, v77_0, rfl, hS77, hM77, hV77_0⟩
    refine ⟨v77_0, rfl, ?_⟩
    have hE77 := hE63.andN hS77
    obtain rfl := int_form hV77_0
    have h := h hV77_0.wf
    refine WL_pure (.int .u32 (ix x18 0)) (R_mv rfl) rfl rfl ?_
    obtain ⟨hp80, h⟩ := h
    refine WL_eff rfl rfl (St_call (R_call Try.call100 rfl) ((turn_c hM77 (int_V (hV33).wf) (int_V (show (Kd.int .i64).wf 13 from by constructor <;> decide)) hp80).mono ?_))
    rintro _ w79 ⟨K79, v79_0, rfl, hS79, hM79, hV79_0⟩
    refine ⟨v79_0, rfl, ?_⟩
    have hE79 := hE77.andN hS79
    obtain rfl := int_form hV79_0
    have h := h hV79_0.wf
    refine WL_pure (.int .u32 (ix x18 0)) (R_mv rfl) rfl rfl ?_
    obtain ⟨hp82, h⟩ := h
    refine WL_eff rfl rfl (St_call (R_call Try.call100 rfl) ((turn_c hM79 (int_V (hV33).wf) (int_V (show (Kd.int .i64).wf 22 from by constructor <;> decide)) hp82).mono ?_))
    rintro _ w81 ⟨K81, v81_0, rfl, hS81, hM81, hV81_0⟩
    refine ⟨v81_0, rfl, ?_⟩
    have hE81 := hE79.andN hS81
    obtain rfl := int_form hV81_0
    have h := h hV81_0.wf
    refine WL_eff rfl rfl (St_call (R_call Try.call99 rfl) ((three_c hM81 (int_V (hV77_0).wf) (int_V (hV79_0).wf) (int_V (hV81_0).wf)).mono ?_))
    rintro _ w83 ⟨K83, v83_0, rfl, hS83, hM83, hV83_0⟩
    refine ⟨v83_0, rfl, ?_⟩
    have hE83 := hE81.andN hS83
    obtain rfl := int_form hV83_0
    have h := h hV83_0.wf
    refine WL_pure (.int .u32 (bor .u32 (bor .u32 (band .u32 (ix x18 0) (ix x18 1)) (band .u32 (ix x18 0) (ix x18 2))) (band .u32 (ix x18 1) (ix x18 2)))) (R_mv rfl) rfl rfl ?_
    refine WL_pure (.int .u32 (IntKind.u32.wrap ((bxor .u32 (bxor .u32 (turnR (ix x18 0) 2) (turnR (ix x18 0) 13)) (turnR (ix x18 0) 22)) + (bor .u32 (bor .u32 (band .u32 (ix x18 0) (ix x18 1)) (band .u32 (ix x18 0) (ix x18 2))) (band .u32 (ix x18 1) (ix x18 2)))))) (R_add rfl rfl) rfl rfl ?_
    refine WL_pure (.int .u32 (IntKind.u32.wrap ((bxor .u32 (bxor .u32 (turnR (ix x18 0) 2) (turnR (ix x18 0) 13)) (turnR (ix x18 0) 22)) + (bor .u32 (bor .u32 (band .u32 (ix x18 0) (ix x18 1)) (band .u32 (ix x18 0) (ix x18 2))) (band .u32 (ix x18 1) (ix x18 2)))))) (R_as rfl) rfl rfl ?_
    refine WL_nil ?_
    refine WP_seq ?_
    refine WP_region ?_
    refine WL_pure u5_18 (R_mv rfl) rfl rfl ?_
    refine WL_pure u5_18 (R_mv rfl) rfl rfl ?_
    obtain ⟨hp85, h⟩ := h
    have hR86 := ((((hR66.extN hS77).extN hS79).extN hS81).extN hS83)
    refine WL_PQ (S_ixR rfl hR86 rfl Try.underlying124 ty123 hp85.1 hp85.2) rfl rfl ?_
    rintro b84 o84 hA84
    refine WL_L hM83 (S_ldR (fun _ _ _ _ h => h) hM83 rfl ty123 hR86 hA84 (fun _ _ h => h)) rfl rfl ?_
    rintro v87 (hV87 : (Kd.int .u32).V _ (ix x18 3) _)
    obtain rfl := int_form hV87
    refine WL_pure (.int .u32 (IntKind.u32.wrap ((IntKind.u32.wrap ((IntKind.u32.wrap ((IntKind.u32.wrap ((ix x18 7) + (bxor .u32 (bxor .u32 (turnR (ix x18 4) 6) (turnR (ix x18 4) 11)) (turnR (ix x18 4) 25)))) + (bor .u32 (band .u32 (ix x18 4) (ix x18 5)) (band .u32 (bxor .u32 4294967295 (ix x18 4)) (ix x18 6))))) + (ix shaK i18))) + (ix (wordsN a1_b 64) i18)))) (R_mv rfl) rfl rfl ?_
    refine WL_pure (.int .u32 (IntKind.u32.wrap ((ix x18 3) + (IntKind.u32.wrap ((IntKind.u32.wrap ((IntKind.u32.wrap ((IntKind.u32.wrap ((ix x18 7) + (bxor .u32 (bxor .u32 (turnR (ix x18 4) 6) (turnR (ix x18 4) 11)) (turnR (ix x18 4) 25)))) + (bor .u32 (band .u32 (ix x18 4) (ix x18 5)) (band .u32 (bxor .u32 4294967295 (ix x18 4)) (ix x18 6))))) + (ix shaK i18))) + (ix (wordsN a1_b 64) i18)))))) (R_add rfl rfl) rfl rfl ?_
    obtain ⟨hp89, h⟩ := h
    refine WL_PQ (S_ixR rfl hR86 rfl Try.underlying124 ty123 hp89.1 hp89.2) rfl rfl ?_
    rintro b88 o88 hA88
    refine WL_eff rfl rfl (St_StR (S_stR (fun _ _ _ _ h => h) hM83 rfl rfl (int_V (wrap_wf _ _)) ty123 hR86 hA88) ?_)
    rintro w90 (hO90 : Rw (Kd.int .u32) 123 _ _ (x18.set (3 : Int).toNat (IntKind.u32.wrap ((ix x18 3) + (IntKind.u32.wrap ((IntKind.u32.wrap ((IntKind.u32.wrap ((IntKind.u32.wrap ((ix x18 7) + (bxor .u32 (bxor .u32 (turnR (ix x18 4) 6) (turnR (ix x18 4) 11)) (turnR (ix x18 4) 25)))) + (bor .u32 (band .u32 (ix x18 4) (ix x18 5)) (band .u32 (bxor .u32 4294967295 (ix x18 4)) (ix x18 6))))) + (ix shaK i18))) + (ix (wordsN a1_b 64) i18)))))) u5_18) hS90 hM90
    have hE90 := hE83.comp hS90 (fun c hx hlt => (fun g hg hlt => absurd hlt (Nat.not_lt.2 ((fun g hg => (ho18_u5 g hg).elim (fun hx => hf6 g hx) (fun hx => Nat.le_trans hE16.size hx)) g hg))) c hx hlt)
    have hR91 := (((((((((((hR22.extN hS29).extN hS37).extN hS56).extN hS58).extN hS60).extN hS62).extN hS63).extN hS77).extN hS79).extN hS81).extN hS83)
    have hR92 := (hR91.ext hS90 (fun g hg hx => (fun g hg hx => (fun g hg hy => (ho18_u5 g hg).elim (fun hz => (fun g _ hx => nilS hx) g hz hy) (fun hz => absurd (hR26.lt _ hy) (Nat.not_lt.2 hz))) g hx hg) g hg hx))
    have hR93 := (((((((((((hR24.extN hS29).extN hS37).extN hS56).extN hS58).extN hS60).extN hS62).extN hS63).extN hS77).extN hS79).extN hS81).extN hS83)
    have hR94 := (hR93.ext hS90 (fun g hg hx => (fun g hg hx => (fun g hg hy => (ho18_u5 g hg).elim (fun hz => (fun g hg hx => (fun g hg hx => absurd (hO6.lt _ hx) (Nat.not_lt.2 (hg11_0 g hg))) g hx hg) g hz hy) (fun hz => absurd (hR27.lt _ hy) (Nat.not_lt.2 hz))) g hx hg) g hg hx))
    have hR95 := (((((((((((hR25.extN hS29).extN hS37).extN hS56).extN hS58).extN hS60).extN hS62).extN hS63).extN hS77).extN hS79).extN hS81).extN hS83)
    have hR96 := (hR95.ext hS90 (fun g hg hx => (fun g hg hx => (fun g hg hy => (ho18_u5 g hg).elim (fun hz => (fun g hg hx => (fun g hg hx => absurd (hR15.lt _ hx) (Nat.not_lt.2 (hg16_0 g hg))) g hx hg) g hz hy) (fun hz => absurd (hO16_0.lt _ hy) (Nat.not_lt.2 hz))) g hx hg) g hg hx))
    refine WL_nil ?_
    refine WP_region ?_
    refine WL_pure (.int .u32 (IntKind.u32.wrap ((IntKind.u32.wrap ((IntKind.u32.wrap ((IntKind.u32.wrap ((ix x18 7) + (bxor .u32 (bxor .u32 (turnR (ix x18 4) 6) (turnR (ix x18 4) 11)) (turnR (ix x18 4) 25)))) + (bor .u32 (band .u32 (ix x18 4) (ix x18 5)) (band .u32 (bxor .u32 4294967295 (ix x18 4)) (ix x18 6))))) + (ix shaK i18))) + (ix (wordsN a1_b 64) i18)))) (R_mv rfl) rfl rfl ?_
    refine WL_pure (.int .u32 (IntKind.u32.wrap ((bxor .u32 (bxor .u32 (turnR (ix x18 0) 2) (turnR (ix x18 0) 13)) (turnR (ix x18 0) 22)) + (bor .u32 (bor .u32 (band .u32 (ix x18 0) (ix x18 1)) (band .u32 (ix x18 0) (ix x18 2))) (band .u32 (ix x18 1) (ix x18 2)))))) (R_mv rfl) rfl rfl ?_
    refine WL_pure (.int .u32 (IntKind.u32.wrap ((IntKind.u32.wrap ((IntKind.u32.wrap ((IntKind.u32.wrap ((IntKind.u32.wrap ((ix x18 7) + (bxor .u32 (bxor .u32 (turnR (ix x18 4) 6) (turnR (ix x18 4) 11)) (turnR (ix x18 4) 25)))) + (bor .u32 (band .u32 (ix x18 4) (ix x18 5)) (band .u32 (bxor .u32 4294967295 (ix x18 4)) (ix x18 6))))) + (ix shaK i18))) + (ix (wordsN a1_b 64) i18))) + (IntKind.u32.wrap ((bxor .u32 (bxor .u32 (turnR (ix x18 0) 2) (turnR (ix x18 0) 13)) (turnR (ix x18 0) 22)) + (bor .u32 (bor .u32 (band .u32 (ix x18 0) (ix x18 1)) (band .u32 (ix x18 0) (ix x18 2))) (band .u32 (ix x18 1) (ix x18 2)))))))) (R_add rfl rfl) rfl rfl ?_
    refine WL_eff rfl rfl (St_S0 (S_bsl (k := (Kd.int .u32)) (l := [((IntKind.u32.wrap ((IntKind.u32.wrap ((IntKind.u32.wrap ((IntKind.u32.wrap ((IntKind.u32.wrap ((ix x18 7) + (bxor .u32 (bxor .u32 (turnR (ix x18 4) 6) (turnR (ix x18 4) 11)) (turnR (ix x18 4) 25)))) + (bor .u32 (band .u32 (ix x18 4) (ix x18 5)) (band .u32 (bxor .u32 4294967295 (ix x18 4)) (ix x18 6))))) + (ix shaK i18))) + (ix (wordsN a1_b 64) i18))) + (IntKind.u32.wrap ((bxor .u32 (bxor .u32 (turnR (ix x18 0) 2) (turnR (ix x18 0) 13)) (turnR (ix x18 0) 22)) + (bor .u32 (bor .u32 (band .u32 (ix x18 0) (ix x18 1)) (band .u32 (ix x18 0) (ix x18 2))) (band .u32 (ix x18 1) (ix x18 2))))))), (.int .u32 (IntKind.u32.wrap ((IntKind.u32.wrap ((IntKind.u32.wrap ((IntKind.u32.wrap ((IntKind.u32.wrap ((ix x18 7) + (bxor .u32 (bxor .u32 (turnR (ix x18 4) 6) (turnR (ix x18 4) 11)) (turnR (ix x18 4) 25)))) + (bor .u32 (band .u32 (ix x18 4) (ix x18 5)) (band .u32 (bxor .u32 4294967295 (ix x18 4)) (ix x18 6))))) + (ix shaK i18))) + (ix (wordsN a1_b 64) i18))) + (IntKind.u32.wrap ((bxor .u32 (bxor .u32 (turnR (ix x18 0) 2) (turnR (ix x18 0) 13)) (turnR (ix x18 0) 22)) + (bor .u32 (bor .u32 (band .u32 (ix x18 0) (ix x18 1)) (band .u32 (ix x18 0) (ix x18 2))) (band .u32 (ix x18 1) (ix x18 2)))))))))]) hM90 rfl (by intro p hp; simp only [List.mem_cons, List.not_mem_nil, or_false] at hp; subst hp; exact (int_V (wrap_wf _ _))) rfl Try.underlying124 ty123 rfl rfl) ?_)
    rintro v97 w97 K97 (hO97 : Own (Kd.int .u32) 123 w97 K97 [(IntKind.u32.wrap ((IntKind.u32.wrap ((IntKind.u32.wrap ((IntKind.u32.wrap ((IntKind.u32.wrap ((ix x18 7) + (bxor .u32 (bxor .u32 (turnR (ix x18 4) 6) (turnR (ix x18 4) 11)) (turnR (ix x18 4) 25)))) + (bor .u32 (band .u32 (ix x18 4) (ix x18 5)) (band .u32 (bxor .u32 4294967295 (ix x18 4)) (ix x18 6))))) + (ix shaK i18))) + (ix (wordsN a1_b 64) i18))) + (IntKind.u32.wrap ((bxor .u32 (bxor .u32 (turnR (ix x18 0) 2) (turnR (ix x18 0) 13)) (turnR (ix x18 0) 22)) + (bor .u32 (bor .u32 (band .u32 (ix x18 0) (ix x18 1)) (band .u32 (ix x18 0) (ix x18 2))) (band .u32 (ix x18 1) (ix x18 2)))))))] v97) hS97 hM97 hg97
    obtain ⟨K97, hO97, hS97, hM97⟩ := Own.unkN hO97 hS97 hM97 hM90 hg97
    have hE97 := hE90.andN hS97
    refine WL_pure u5_18 (R_mv rfl) rfl rfl ?_
    obtain ⟨hp100, h⟩ := h
    have hR101 := (hO90.extN hS97)
    refine WL_Q (S_slHR rfl hR101 Try.underlying124 ty123 rfl hp100.1 hp100.2) rfl rfl ?_
    rintro v99 hC99
    obtain ⟨hp103, h⟩ := h
    refine WL_eff rfl rfl (St_SR (S_appR hM97 rfl hO97 rfl (RCut.cells hC99 (fun _ _ _ _ h => h) hM97) Try.underlying124 ty123 rfl hp103) ?_)
    rintro v102 w102 K102 hO102 hS102 hM102 hob102
    have hE102 := hE97.comp hS102 (fun c hx hlt => (fun g hg hlt => absurd hlt (Nat.not_lt.2 ((fun g hg => Nat.le_trans hE90.size (hg97 g hg)) g hg))) c hx hlt)
    have hR104 := (hR92.extN hS97)
    have hR105 := (hR104.ext hS102 (fun g hg hx => (fun g hg hx => (fun g hg hx => absurd (hR92.lt _ hx) (Nat.not_lt.2 (hg97 g hg))) g hx hg) g hg hx))
    have hR106 := (hR101.ext hS102 (fun g hg hx => (fun g hg hx => (fun g hg hx => absurd (hO90.lt _ hx) (Nat.not_lt.2 (hg97 g hg))) g hx hg) g hg hx))
    have hR107 := (hR94.extN hS97)
    have hR108 := (hR107.ext hS102 (fun g hg hx => (fun g hg hx => (fun g hg hx => absurd (hR94.lt _ hx) (Nat.not_lt.2 (hg97 g hg))) g hx hg) g hg hx))
    have hR109 := (hR96.extN hS97)
    have hR110 := (hR109.ext hS102 (fun g hg hx => (fun g hg hx => (fun g hg hx => absurd (hR96.lt _ hx) (Nat.not_lt.2 (hg97 g hg))) g hx hg) g hg hx))
    have hf102 : ∀ g, ob v102 = some g → w0.heap.size ≤ g := fun g hg => by rcases hob102 with hq | hq <;> rw [hq] at hg; exact (fun g hg => Nat.le_trans hE90.size (hg97 g hg)) g hg; cases hg; exact hE97.size
    have hs112 : ∀ g, ob v102 = some g → ¬ (ob u5_18 = some g) := fun g hg hx => by rcases hob102 with hq | hq <;> rw [hq] at hg; exact (fun g hg hx => absurd (hO90.lt _ hx) (Nat.not_lt.2 (hg97 g hg))) g hg hx; cases hg; exact absurd (hR101.lt _ hx) (Nat.not_lt.2 (Nat.le_refl _))
    have hR113 := (hR94.extN hS97)
    have hs114 : ∀ g, ob v102 = some g → ¬ (ob v11_0 = some g) := fun g hg hx => by rcases hob102 with hq | hq <;> rw [hq] at hg; exact (fun g hg hx => absurd (hR94.lt _ hx) (Nat.not_lt.2 (hg97 g hg))) g hg hx; cases hg; exact absurd (hR113.lt _ hx) (Nat.not_lt.2 (Nat.le_refl _))
    have hR115 := (hR96.extN hS97)
    have hs116 : ∀ g, ob v102 = some g → ¬ (ob v16_0 = some g) := fun g hg hx => by rcases hob102 with hq | hq <;> rw [hq] at hg; exact (fun g hg hx => absurd (hR96.lt _ hx) (Nat.not_lt.2 (hg97 g hg))) g hg hx; cases hg; exact absurd (hR115.lt _ hx) (Nat.not_lt.2 (Nat.le_refl _))
    refine WL_pure v102 (R_as rfl) rfl rfl ?_
    refine WL_nil ?_
    refine WP_region ?_
    refine WL_pure (.int .i64 i18) (R_mv rfl) rfl rfl ?_
    refine WL_pure (.int .i64 (IntKind.i64.wrap (i18 + 1))) (R_add rfl rfl) rfl rfl ?_
    refine WL_pure (.int .i64 (IntKind.i64.wrap (i18 + 1))) (R_as rfl) rfl rfl ?_
    refine WL_nil ?_
    refine BackQ.mk (([(IntKind.u32.wrap ((IntKind.u32.wrap ((IntKind.u32.wrap ((IntKind.u32.wrap ((IntKind.u32.wrap ((ix x18 7) + (bxor .u32 (bxor .u32 (turnR (ix x18 4) 6) (turnR (ix x18 4) 11)) (turnR (ix x18 4) 25)))) + (bor .u32 (band .u32 (ix x18 4) (ix x18 5)) (band .u32 (bxor .u32 4294967295 (ix x18 4)) (ix x18 6))))) + (ix shaK i18))) + (ix (wordsN a1_b 64) i18))) + (IntKind.u32.wrap ((bxor .u32 (bxor .u32 (turnR (ix x18 0) 2) (turnR (ix x18 0) 13)) (turnR (ix x18 0) 22)) + (bor .u32 (bor .u32 (band .u32 (ix x18 0) (ix x18 1)) (band .u32 (ix x18 0) (ix x18 2))) (band .u32 (ix x18 1) (ix x18 2)))))))] ++ ((x18.set (3 : Int).toNat (IntKind.u32.wrap ((ix x18 3) + (IntKind.u32.wrap ((IntKind.u32.wrap ((IntKind.u32.wrap ((IntKind.u32.wrap ((ix x18 7) + (bxor .u32 (bxor .u32 (turnR (ix x18 4) 6) (turnR (ix x18 4) 11)) (turnR (ix x18 4) 25)))) + (bor .u32 (band .u32 (ix x18 4) (ix x18 5)) (band .u32 (bxor .u32 4294967295 (ix x18 4)) (ix x18 6))))) + (ix shaK i18))) + (ix (wordsN a1_b 64) i18)))))).take (7 : Int).toNat)), (IntKind.i64.wrap (i18 + 1))) [(5, v102), (8, (.int .i64 (IntKind.i64.wrap (i18 + 1))))] ?_ ?_ ?_ ?_
    rotate_left
    · exact h.2
    · repeat (first | exact Off.lay0 rfl | refine Off.updO ?_ rfl _ | refine Off.updN ?_ _ | refine Off.lay ?_ rfl)
    · repeat (first | exact trivial | refine ⟨rfl, ?_⟩)
    exact ⟨K102, v102, h.1, rfl, ((((((((((((((((Ext.refl _ _ _).comp hX19 (fun c hx hlt => (hx))).andN hS29).andN hS37).andN hS56).andN hS58).andN hS60).andN hS62).andN hS63).andN hS77).andN hS79).andN hS81).andN hS83).comp hS90 (fun c hx hlt => ((((ho18_u5 c hx).elim (fun hz => (.inl hz)) (fun hz => .inr (Nat.le_trans (Nat.le_refl _) hz))) : ob v6 = some c ∨ w16.heap.size ≤ c).elim (fun hx => (hx)) (fun hz => absurd hlt (Nat.not_lt.2 hz))))).andN hS97).comp hS102 (fun c hx hlt => (absurd hlt (Nat.not_lt.2 (Nat.le_trans (Nat.le_trans hX19.size (Nat.le_trans hS29.size (Nat.le_trans hS37.size (Nat.le_trans hS56.size (Nat.le_trans hS58.size (Nat.le_trans hS60.size (Nat.le_trans hS62.size (Nat.le_trans hS63.size (Nat.le_trans hS77.size (Nat.le_trans hS79.size (Nat.le_trans hS81.size (Nat.le_trans hS83.size hS90.size)))))))))))) (hg97 c hx)))))), hM102, (wrap_wf _ _), hO102, (fun g hg => .inr (by have hg : ob v102 = some g := hg; rcases hob102 with hq | hq <;> rw [hq] at hg; exact (Nat.le_trans (Nat.le_trans hX19.size (Nat.le_trans hS29.size (Nat.le_trans hS37.size (Nat.le_trans hS56.size (Nat.le_trans hS58.size (Nat.le_trans hS60.size (Nat.le_trans hS62.size (Nat.le_trans hS63.size (Nat.le_trans hS77.size (Nat.le_trans hS79.size (Nat.le_trans hS81.size (Nat.le_trans hS83.size hS90.size)))))))))))) (hg97 g hg)); cases hg; exact (Nat.le_trans hX19.size (Nat.le_trans hS29.size (Nat.le_trans hS37.size (Nat.le_trans hS56.size (Nat.le_trans hS58.size (Nat.le_trans hS60.size (Nat.le_trans hS62.size (Nat.le_trans hS63.size (Nat.le_trans hS77.size (Nat.le_trans hS79.size (Nat.le_trans hS81.size (Nat.le_trans hS83.size (Nat.le_trans hS90.size hS97.size)))))))))))))))⟩
  · have hd28 : ¬ (i18 < 64) := dec_f hc28
    have h := h.2 hd28
    refine WP_exit ?_
    refine WP_seq ?_
    refine WP_seq ?_
    refine WP_region ?_
    refine WL_pure (.int .i64 0) (R_as rfl) rfl rfl ?_
    refine WL_nil ?_
    refine WP_block ?_
    obtain ⟨I117, μ117, h0, h⟩ := h
    refine WP_loopE (ι := Int × (List Int)) [14, 107, 108, 109, 110, 111, 112, 113, 114, 115, 116, 117, 118, 119, 120, 121, 122] (fun s l w => ∃ K, I117 s.1 s.2 ∧ l = [(14, (.int .i64 s.1))] ∧ Ext (fun c => ob u5_18 = some c) w19 K19 w K ∧ Models w K ∧ (Kd.int .i64).wf s.1 ∧ Rw (Kd.int .u32) 123 w K s.2 u5_18) (fun s => μ117 s.1 s.2) (0, x18) [(14, (.int .i64 0))]
      ⟨K19, h0, rfl, Ext.refl _ _ _, hM19, (show (Kd.int .i64).wf 0 from by constructor <;> decide), hL18_u5⟩ (by repeat (first | exact trivial | refine ⟨rfl, ?_⟩)) ?_
    rintro ⟨i117, b117⟩ l σ117 w118 ⟨K118, hI, rfl, hX118, hM118, hw117_14, hL117_10⟩
    dsimp only at hI hw117_14 hL117_10
    have hE118 := hE19.comp hX118 (fun c hx hlt => (fun g hg hlt => absurd hlt (Nat.not_lt.2 ((fun g hg => (ho18_u5 g hg).elim (fun hx => hf6 g hx) (fun hx => Nat.le_trans hE16.size hx)) g hg))) c hx hlt)
    have hR119 := (hR22.ext hX118 (fun g hg hx => (fun g hg hx => (fun g hg hy => (ho18_u5 g hg).elim (fun hz => (fun g _ hx => nilS hx) g hz hy) (fun hz => absurd (hR26.lt _ hy) (Nat.not_lt.2 hz))) g hx hg) g hg hx))
    have hR120 := (hR24.ext hX118 (fun g hg hx => (fun g hg hx => (fun g hg hy => (ho18_u5 g hg).elim (fun hz => (fun g hg hx => (fun g hg hx => absurd (hO6.lt _ hx) (Nat.not_lt.2 (hg11_0 g hg))) g hx hg) g hz hy) (fun hz => absurd (hR27.lt _ hy) (Nat.not_lt.2 hz))) g hx hg) g hg hx))
    have hR121 := (hR25.ext hX118 (fun g hg hx => (fun g hg hx => (fun g hg hy => (ho18_u5 g hg).elim (fun hz => (fun g hg hx => (fun g hg hx => absurd (hR15.lt _ hx) (Nat.not_lt.2 (hg16_0 g hg))) g hx hg) g hz hy) (fun hz => absurd (hO16_0.lt _ hy) (Nat.not_lt.2 hz))) g hx hg) g hg hx))
    have h := h i117 b117 hI hw117_14 hL117_10.wf
    refine WP_seq ?_
    refine WP_seq ?_
    refine WP_region ?_
    refine WL_pure (.int .i64 i117) (R_mv rfl) rfl rfl ?_
    refine WL_pure (.bool (decide (i117 < 8))) (R_lss rfl rfl) rfl rfl ?_
    refine WL_nil ?_
    refine WP_cond (decide (i117 < 8)) rfl (fun hc122 => ?_) (fun hc122 => ?_)
    · have hd122 : i117 < 8 := dec_t hc122
      have h := h.1 hd122
      refine WP_skip ?_
      refine WP_seq ?_
      refine WP_block ?_
      refine WP_ordD (K := K118) (fun c => ob u5_18 = some c ∨ w118.heap.size ≤ c) [.o 0 2, .o 1 2, .o 2 2, .o 3 2, .o 4 2, .o 5 2, .o 6 2, .o 7 2, .o 8 2, .o 9 2, .o 10 2, .o 11 2, .o 12 1] (by kernel_rfl) (by kernel_rfl) hM118 ?_
      rintro w123 hS123 hM123
      have hE123 := hE118.andN hS123
      refine WO_pure u5_18 rfl l0 hM123 (fun _ => R_mv rfl) rfl (gN rfl) rfl ?_
      refine WO_pure (.int .i64 i117) rfl l0 hM123 (fun _ => R_mv rfl) rfl (gN rfl) rfl ?_
      refine WO_pure u5_18 rfl l0 hM123 (fun _ => R_mv rfl) rfl (gN rfl) rfl ?_
      refine WO_pure (.int .i64 i117) rfl l0 hM123 (fun _ => R_mv rfl) rfl (gN rfl) rfl ?_
      obtain ⟨hp125, h⟩ := h
      have hR126 := (hL117_10.extN hS123)
      refine WO_PQ rfl l0 hM123 (S_ixR rfl hR126 rfl Try.underlying124 ty123 hp125.1 hp125.2) rfl (gN rfl) rfl ?_
      rintro b124 o124 hA124
      refine WO_L0 hM123 (S_ldR (fun _ _ _ _ h => h) hM123 rfl ty123 hR126 hA124 (fun _ _ h => h)) rfl (gN rfl) rfl ?_
      rintro v127 (hV127 : (Kd.int .u32).V _ (ix b117 i117) _)
      obtain rfl := int_form hV127
      refine WO_pure a0_old_v rfl l0 hM123 (fun _ => R_mv rfl) rfl (gN rfl) rfl ?_
      refine WO_pure (.int .i64 i117) rfl l0 hM123 (fun _ => R_mv rfl) rfl (gN rfl) rfl ?_
      obtain ⟨hp129, h⟩ := h
      refine WO_P rfl l0 hM123 (S_ixs rfl (h_a0_old.mono (hS4.le.trans (hS6.le.trans (hS11.le.trans (hS16.le.trans (hX19.le.trans (hX118.le.trans hS123.le))))))) rfl Try.underlying124 ty123 hp129.1 hp129.2) rfl (gN rfl) rfl ?_
      rintro b128 o128 hP128
      refine WO_L0 hM123 (S_ld rfl ty123 hP128) rfl (gN rfl) rfl ?_
      rintro v131 (hV131 : (Kd.int .u32).V _ (ix a0_old i117) _)
      obtain rfl := int_form hV131
      refine WO_pure (.int .u32 (IntKind.u32.wrap ((ix b117 i117) + (ix a0_old i117)))) rfl l0 hM123 (fun _ => R_add rfl rfl) rfl (gN rfl) rfl ?_
      obtain ⟨hp133, h⟩ := h
      refine WO_PQ rfl l0 hM123 (S_ixR rfl hR126 rfl Try.underlying124 ty123 hp133.1 hp133.2) rfl (gN rfl) rfl ?_
      rintro b132 o132 hA132
      refine WO_eff rfl (gN rfl) rfl (St_StR (S_stR (fun _ _ _ _ h => h) hM123 rfl rfl (int_V (wrap_wf _ _)) ty123 hR126 hA132) ?_)
      rintro w134 (hO134 : Rw (Kd.int .u32) 123 _ _ (b117.set i117.toNat (IntKind.u32.wrap ((ix b117 i117) + (ix a0_old i117)))) u5_18) hS134 hM134
      refine ⟨K118, (hS134.weak (fun c hlt hx => (.inl (hx)))), hM134, ?_⟩
      have hE134 := hE123.comp hS134 (fun c hx hlt => (fun g hg hlt => absurd hlt (Nat.not_lt.2 ((fun g hg => (ho18_u5 g hg).elim (fun hx => hf6 g hx) (fun hx => Nat.le_trans hE16.size hx)) g hg))) c hx hlt)
      have hR135 := (hR119.extN hS123)
      have hR136 := (hR135.ext hS134 (fun g hg hx => (fun g hg hx => (fun g hg hy => (ho18_u5 g hg).elim (fun hz => (fun g _ hx => nilS hx) g hz hy) (fun hz => absurd (hR26.lt _ hy) (Nat.not_lt.2 hz))) g hx hg) g hg hx))
      have hR137 := (hR120.extN hS123)
      have hR138 := (hR137.ext hS134 (fun g hg hx => (fun g hg hx => (fun g hg hy => (ho18_u5 g hg).elim (fun hz => (fun g hg hx => (fun g hg hx => absurd (hO6.lt _ hx) (Nat.not_lt.2 (hg11_0 g hg))) g hx hg) g hz hy) (fun hz => absurd (hR27.lt _ hy) (Nat.not_lt.2 hz))) g hx hg) g hg hx))
      have hR139 := (hR121.extN hS123)
      have hR140 := (hR139.ext hS134 (fun g hg hx => (fun g hg hx => (fun g hg hy => (ho18_u5 g hg).elim (fun hz => (fun g hg hx => (fun g hg hx => absurd (hR15.lt _ hx) (Nat.not_lt.2 (hg16_0 g hg))) g hx hg) g hz hy) (fun hz => absurd (hO16_0.lt _ hy) (Nat.not_lt.2 hz))) g hx hg) g hg hx))
      refine WO_nil ?_
      refine WP_region ?_
      refine WL_pure (.int .i64 i117) (R_mv rfl) rfl rfl ?_
      refine WL_pure (.int .i64 (IntKind.i64.wrap (i117 + 1))) (R_add rfl rfl) rfl rfl ?_
      refine WL_pure (.int .i64 (IntKind.i64.wrap (i117 + 1))) (R_as rfl) rfl rfl ?_
      refine WL_nil ?_
      refine BackQ.mk ((IntKind.i64.wrap (i117 + 1)), (b117.set i117.toNat (IntKind.u32.wrap ((ix b117 i117) + (ix a0_old i117))))) [(14, (.int .i64 (IntKind.i64.wrap (i117 + 1))))] ?_ ?_ ?_ ?_
      rotate_left
      · exact h.2
      · repeat (first | exact Off.lay0 rfl | refine Off.updO ?_ rfl _ | refine Off.updN ?_ _ | refine Off.lay ?_ rfl)
      · repeat (first | exact trivial | refine ⟨rfl, ?_⟩)
      exact ⟨K118, h.1, rfl, ((((Ext.refl _ _ _).comp hX118 (fun c hx hlt => (hx))).andN hS123).comp hS134 (fun c hx hlt => (hx))), hM134, (wrap_wf _ _), hO134⟩
    · have hd122 : ¬ (i117 < 8) := dec_f hc122
      have h := h.2 hd122
      refine WP_exit ?_
      refine WP_seq ?_
      refine WP_region ?_
      refine WL_pure u5_18 (R_mv rfl) rfl rfl ?_
      refine WL_pure u5_18 (R_as rfl) rfl rfl ?_
      refine WL_nil ?_
      refine WP_ret ?_
      obtain ⟨w141, hw141, K141, hO141, hS141, hM141⟩ := Rw.freeze0 hL117_10 hM118
      subst hw141
      have hE141 := hE118.comp hS141 (fun c hx hlt => (fun g hg hlt => absurd hlt (Nat.not_lt.2 ((fun g hg => (ho18_u5 g hg).elim (fun hx => hf6 g hx) (fun hx => Nat.le_trans hE16.size hx)) g hg))) c hx hlt)
      have hR142 := (hR119.ext hS141 (fun g hg hx => (fun g hg hx => (fun g hg hy => (ho18_u5 g hg).elim (fun hz => (fun g _ hx => nilS hx) g hz hy) (fun hz => absurd (hR26.lt _ hy) (Nat.not_lt.2 hz))) g hx hg) g hg hx))
      have hR143 := (hR120.ext hS141 (fun g hg hx => (fun g hg hx => (fun g hg hy => (ho18_u5 g hg).elim (fun hz => (fun g hg hx => (fun g hg hx => absurd (hO6.lt _ hx) (Nat.not_lt.2 (hg11_0 g hg))) g hx hg) g hz hy) (fun hz => absurd (hR27.lt _ hy) (Nat.not_lt.2 hz))) g hx hg) g hg hx))
      have hR144 := (hR121.ext hS141 (fun g hg hx => (fun g hg hx => (fun g hg hy => (ho18_u5 g hg).elim (fun hz => (fun g hg hx => (fun g hg hx => absurd (hR15.lt _ hx) (Nat.not_lt.2 (hg16_0 g hg))) g hx hg) g hz hy) (fun hz => absurd (hO16_0.lt _ hy) (Nat.not_lt.2 hz))) g hx hg) g hg hx))
      exact endR_ret hR (v := u5_18) (resE_1 rfl rfl) ⟨K141, u5_18, b117, rfl, h, hE141, hM141, hO141, (fun g hg => (ho18_u5 g hg).elim (fun hx => hf6 g hx) (fun hx => Nat.le_trans hE16.size hx))⟩
theorem Block_c {w0 : World} {K0 : Ghost} {a0_old_v : Value} {a0_old : (List Int)} {a1_b_v : Value} {a1_b : (List UInt8)} (hM0 : Models w0 K0) (h_a0_old : kd_l_u32.V K0 a0_old a0_old_v) (h_a1_b : kd_l_u8.V K0 a1_b a1_b_v) (hp : a0_old.length = 8 ∧ a1_b.length = 64) : Calls Try.prog 75 #[a0_old_v, a1_b_v] w0 (fun e w' => ∃ (K' : Ghost) (r0 : Value), e = .returned r0 ∧ Ext NX w0 K0 w' K' ∧ Models w' K' ∧ Own (Kd.int .u32) 123 w' K' (takeW a0_old a1_b) r0 ∧ (∀ g, ob r0 = some g → w0.heap.size ≤ g)) := by
  refine (Block_walk hM0 h_a0_old h_a1_b (Block_ok h_a0_old.wf h_a1_b.wf hp)).mono ?_
  rintro _ w' ⟨K', r0, o0, rfl, ho, hF⟩
  rw [ho] at hF
  exact ⟨K', r0, rfl, hF⟩
def RAll_VC (a0_parts : (List (List UInt8))) (Q : (List UInt8) → Prop) : Prop :=
  ∃ (I4 : (List UInt8) → Int → Prop) (μ4 : (List UInt8) → Int → Nat), I4 ([] : List UInt8) 0 ∧ ∀ (out4 : (List UInt8)) (i4 : Int), I4 out4 i4 → (kd_l_u8.wf out4) → ((Kd.int .i64).wf i4) → (((i4 < (a0_parts.length : Int)) → (0 ≤ i4 ∧ i4 < (a0_parts.length : Int)) ∧ (((out4.length + (ix a0_parts i4).length) * 1 ≤ 140737488355328) ∧ (I4 (out4 ++ (ix a0_parts i4)) (i4 + 1) ∧ μ4 (out4 ++ (ix a0_parts i4)) (i4 + 1) < μ4 out4 i4))) ∧ ((¬ (i4 < (a0_parts.length : Int))) → Q out4))
theorem RAll_ok {a0_parts : (List (List UInt8))} (w_0 : kd_l_l_u8.wf a0_parts) (hp : a0_parts.flatten.length ≤ 70368744177664) : RAll_VC a0_parts (fun o0 => o0 = a0_parts.flatten) := by
  unfold RAll_VC
  refine ⟨fun out i => ∃ j : Nat, i = (j : Int) ∧ j ≤ a0_parts.length ∧ out = (a0_parts.take j).flatten, fun _ i => a0_parts.length - i.toNat, ⟨0, rfl, by omega, by simp⟩, ?_⟩
  rintro out i ⟨j, rfl, hj, rfl⟩ _ _
  refine ⟨fun hlt => ⟨⟨by omega, hlt⟩, ?_, ⟨j + 1, by omega, by omega, (flat_step hlt).symm⟩, ?_⟩, fun hge => ?_⟩
  · have h1 := flat_take (l := a0_parts) (j + 1)
    rw [flat_step hlt, List.length_append] at h1
    omega
  · show a0_parts.length - ((j : Int) + 1).toNat < a0_parts.length - (j : Int).toNat
    omega
  · have : j = a0_parts.length := by omega
    subst this
    rw [List.take_length]

theorem RAll_walk {w0 : World} {K0 : Ghost} {a0_parts_v : Value} {a0_parts : (List (List UInt8))} {Q : (List UInt8) → Prop} (hM0 : Models w0 K0) (h_a0_parts : kd_l_l_u8.V K0 a0_parts a0_parts_v) (h : RAll_VC a0_parts Q) : Calls Try.prog 74 #[a0_parts_v] w0 (fun e w' => ∃ (K' : Ghost) (r0 : Value) (o0 : (List UInt8)), e = .returned r0 ∧ Q o0 ∧ Ext NX w0 K0 w' K' ∧ Models w' K' ∧ Own Kd.byte 5 w' K' o0 r0 ∧ (∀ g, ob r0 = some g → w0.heap.size ≤ g)) := by
  unfold RAll_VC at h
  have hE0 : Ext NX w0 K0 w0 K0 := Ext.refl _ _ _
  refine calls_gen fun R hR => ?_
  refine calls_env (args := [a0_parts_v]) Try.func74 rfl (Nat.le_of_ble_eq_true rfl) ?_
  refine WP_seq ?_
  refine WP_region ?_
  have hR2 : Own Kd.byte 5 w0 K0 ([] : List UInt8) (.slice none 0 0) := Own.nil
  refine WL_pure (.slice none 0 0) (R_as rfl) rfl rfl ?_
  refine WL_nil ?_
  refine WP_seq ?_
  refine WP_region ?_
  have hR3 : Own Kd.byte 5 w0 K0 ([] : List UInt8) (.slice none 0 0) := Own.nil
  refine WL_pure (.slice none 0 0) (R_as rfl) rfl rfl ?_
  refine WL_nil ?_
  refine WP_seq ?_
  refine WP_seq ?_
  refine WP_region ?_
  refine WL_pure (.int .i64 0) (R_as rfl) rfl rfl ?_
  refine WL_nil ?_
  refine WP_block ?_
  obtain ⟨I4, μ4, h0, h⟩ := h
  refine WP_loopE (ι := (List UInt8) × Int) [3, 4, 5, 6, 7, 8, 9, 10, 11, 12, 13, 14, 15, 16] (fun s l w => ∃ K u3, I4 s.1 s.2 ∧ l = [(3, u3), (4, (.int .i64 s.2))] ∧ Ext (fun c => ob (.slice none 0 0) = some c) w0 K0 w K ∧ Models w K ∧ (Kd.int .i64).wf s.2 ∧ Own Kd.byte 5 w K s.1 u3 ∧ (∀ g, ob u3 = some g → ob (.slice none 0 0) = some g ∨ w0.heap.size ≤ g)) (fun s => μ4 s.1 s.2) (([] : List UInt8), 0) [(3, (.slice none 0 0)), (4, (.int .i64 0))]
    ⟨K0, (.slice none 0 0), h0, rfl, Ext.refl _ _ _, hM0, (show (Kd.int .i64).wf 0 from by constructor <;> decide), hR3, (fun g hg => .inr (nilS hg))⟩ (by repeat (first | exact trivial | refine ⟨rfl, ?_⟩)) ?_
  rintro ⟨out4, i4⟩ l σ4 w5 ⟨K5, u3_4, hI, rfl, hX5, hM5, hw4_4, hL4_u3, ho4_u3⟩
  dsimp only at hI hw4_4 hL4_u3 ho4_u3
  have hE5 := hE0.comp hX5 (fun c hx hlt => (fun g hg _ => nilS hg) c hx hlt)
  have hR6 := (hR2.ext hX5 (fun g hg hx => (fun g hg hx => (fun g hg _ => nilS hg) g hx hg) g hg hx))
  have h := h out4 i4 hI hL4_u3.wf hw4_4
  refine WP_seq ?_
  refine WP_seq ?_
  refine WP_region ?_
  refine WL_pure (.int .i64 i4) (R_mv rfl) rfl rfl ?_
  refine WL_pure a0_parts_v (R_mv rfl) rfl rfl ?_
  refine WL_pure (.int .i64 (a0_parts.length : Int)) (R_len rfl (h_a0_parts.mono hX5.le) Try.underlying38) rfl rfl ?_
  refine WL_pure (.bool (decide (i4 < (a0_parts.length : Int)))) (R_lss rfl rfl) rfl rfl ?_
  refine WL_nil ?_
  refine WP_cond (decide (i4 < (a0_parts.length : Int))) rfl (fun hc7 => ?_) (fun hc7 => ?_)
  · have hd7 : i4 < (a0_parts.length : Int) := dec_t hc7
    have h := h.1 hd7
    refine WP_skip ?_
    refine WP_seq ?_
    refine WP_block ?_
    refine WP_region ?_
    refine WL_pure u3_4 (R_mv rfl) rfl rfl ?_
    refine WL_pure a0_parts_v (R_mv rfl) rfl rfl ?_
    refine WL_pure (.int .i64 i4) (R_mv rfl) rfl rfl ?_
    obtain ⟨hp9, h⟩ := h
    refine WL_P (S_ixs rfl (h_a0_parts.mono hX5.le) rfl Try.underlying38 ty39 hp9.1 hp9.2) rfl rfl ?_
    rintro b8 o8 hP8
    refine WL_L hM5 (S_ld rfl ty39 hP8) rfl rfl ?_
    rintro v11 (hV11 : kd_l_u8.V _ (ix a0_parts i4) _)
    obtain ⟨hp14, h⟩ := h
    refine WL_eff rfl rfl (St_S (S_app hM5 rfl hL4_u3 rfl hV11 Try.underlying39 ty5b rfl hp14) ?_)
    rintro v13 w13 K13 hO13 hS13 hM13 hob13
    have hE13 := hE5.comp hS13 (fun c hx hlt => (fun g hg hlt => absurd hlt (Nat.not_lt.2 ((fun g hg => (ho4_u3 g hg).elim (fun hx => (fun g hg => nilS hg) g hx) (fun hx => Nat.le_trans hE0.size hx)) g hg))) c hx hlt)
    have hR15 := (hR6.ext hS13 (fun g hg hx => (fun g hg hx => (fun g hg hy => (ho4_u3 g hg).elim (fun hz => (fun g hg _ => nilS hg) g hz hy) (fun hz => absurd (hR2.lt _ hy) (Nat.not_lt.2 hz))) g hx hg) g hg hx))
    have hf13 : ∀ g, ob v13 = some g → w0.heap.size ≤ g := fun g hg => by rcases hob13 with hq | hq <;> rw [hq] at hg; exact (fun g hg => (ho4_u3 g hg).elim (fun hx => (fun g hg => nilS hg) g hx) (fun hx => Nat.le_trans hE0.size hx)) g hg; cases hg; exact hE5.size
    refine WL_pure v13 (R_as rfl) rfl rfl ?_
    refine WL_nil ?_
    refine WP_region ?_
    refine WL_pure (.int .i64 i4) (R_mv rfl) rfl rfl ?_
    refine WL_pure (.int .i64 (i4 + 1)) (R_inc rfl rfl hw4_4 hd7 (len_wf (h_a0_parts).wf.1)) rfl rfl ?_
    refine WL_pure (.int .i64 (i4 + 1)) (R_as rfl) rfl rfl ?_
    refine WL_nil ?_
    refine BackQ.mk ((out4 ++ (ix a0_parts i4)), (i4 + 1)) [(3, v13), (4, (.int .i64 (i4 + 1)))] ?_ ?_ ?_ ?_
    rotate_left
    · exact h.2
    · repeat (first | exact Off.lay0 rfl | refine Off.updO ?_ rfl _ | refine Off.updN ?_ _ | refine Off.lay ?_ rfl)
    · repeat (first | exact trivial | refine ⟨rfl, ?_⟩)
    exact ⟨K13, v13, h.1, rfl, (((Ext.refl _ _ _).comp hX5 (fun c hx hlt => (absurd hlt (Nat.not_lt.2 (nilS hx))))).comp hS13 (fun c hx hlt => (absurd hlt (Nat.not_lt.2 ((ho4_u3 c hx).elim (fun hz => (nilS hz)) (fun hz => (Nat.le_trans (Nat.le_refl _) hz))))))), hM13, (inc_wf hw4_4 hd7 (len_wf (h_a0_parts).wf.1)), hO13, (fun g hg => .inr (by have hg : ob v13 = some g := hg; rcases hob13 with hq | hq <;> rw [hq] at hg; exact ((ho4_u3 g hg).elim (fun hz => (nilS hz)) (fun hz => (Nat.le_trans (Nat.le_refl _) hz))); cases hg; exact hE5.size))⟩
  · have hd7 : ¬ (i4 < (a0_parts.length : Int)) := dec_f hc7
    have h := h.2 hd7
    refine WP_exit ?_
    refine WP_seq ?_
    refine WP_region ?_
    refine WL_pure u3_4 (R_mv rfl) rfl rfl ?_
    refine WL_pure u3_4 (R_as rfl) rfl rfl ?_
    refine WL_nil ?_
    refine WP_ret ?_
    exact endR_ret hR (v := u3_4) (resE_1 rfl rfl) ⟨K5, u3_4, out4, rfl, h, hE5, hM5, hL4_u3, (fun g hg => (ho4_u3 g hg).elim (fun hx => (fun g hg => nilS hg) g hx) (fun hx => Nat.le_trans hE0.size hx))⟩
theorem RAll_c {w0 : World} {K0 : Ghost} {a0_parts_v : Value} {a0_parts : (List (List UInt8))} (hM0 : Models w0 K0) (h_a0_parts : kd_l_l_u8.V K0 a0_parts a0_parts_v) (hp : a0_parts.flatten.length ≤ 70368744177664) : Calls Try.prog 74 #[a0_parts_v] w0 (fun e w' => ∃ (K' : Ghost) (r0 : Value), e = .returned r0 ∧ Ext NX w0 K0 w' K' ∧ Models w' K' ∧ Own Kd.byte 5 w' K' a0_parts.flatten r0 ∧ (∀ g, ob r0 = some g → w0.heap.size ≤ g)) := by
  refine (RAll_walk hM0 h_a0_parts (RAll_ok h_a0_parts.wf hp)).mono ?_
  rintro _ w' ⟨K', r0, o0, rfl, rfl, hF⟩
  exact ⟨K', r0, rfl, hF⟩
end Go.Proofs.Ytfbhiilolpamaaa
