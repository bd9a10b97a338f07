/- Each function that stands here: what its call must answer for (_VC), that it does (_ok), the walk through its code (_walk), its contract (_c). -/
import Derived.Test.YtfbhiilolpamaaaS9
import Derived.Test.YtfbhiilolpamaaaChecked
set_option linter.unusedVariables false
set_option maxRecDepth 100000
set_option maxHeartbeats 2000000
namespace Go.Proofs.Ytfbhiilolpamaaa
open Go Go.RowKit Go.Inc
def awake3_VC  (Q : Bool → Prop) : Prop :=
  (1 + blobRoom [[(toB 97)]] ≤ 140737488355328 ∧ bookRoom (some ([], 0))) ∧ ((kd_a32_u8.wf (sealOf 1 [[(toB 97)]])) → ((1 + blobRoom [[(toB 97)]] ≤ 140737488355328 ∧ bookRoom (bookOf (some ([], 0)) 1 [[(toB 97)]])) ∧ ((kd_a32_u8.wf (sealOf 1 [[(toB 97)]])) → (([(toB 97)].length ≤ 140737488355328 ∧ bookRoom (some ([], 0))) ∧ (([(toB 98)].length ≤ 140737488355328 ∧ bookRoom (bookNote (some ([], 0)) (sealOf 1 [[(toB 97)]]) [(toB 97)])) ∧ (([(toB 97)].length ≤ 140737488355328 ∧ bookRoom (bookNote (bookNote (some ([], 0)) (sealOf 1 [[(toB 97)]]) [(toB 97)]) (sealOf 1 [[(toB 97)]]) [(toB 98)])) ∧ ((bookFits (bookNote (bookNote (bookNote (some ([], 0)) (sealOf 1 [[(toB 97)]]) [(toB 97)]) (sealOf 1 [[(toB 97)]]) [(toB 98)]) (sealOf 1 [[(toB 97)]]) [(toB 97)])) ∧ ((kd_l_u8.wf (bookFind (bookNote (bookNote (bookNote (some ([], 0)) (sealOf 1 [[(toB 97)]]) [(toB 97)]) (sealOf 1 [[(toB 97)]]) [(toB 98)]) (sealOf 1 [[(toB 97)]]) [(toB 97)]) (sealOf 1 [[(toB 97)]]))) → ((clashPre [(frzB (bookNote (bookNote (bookNote (some ([], 0)) (sealOf 1 [[(toB 97)]]) [(toB 97)]) (sealOf 1 [[(toB 97)]]) [(toB 98)]) (sealOf 1 [[(toB 97)]]) [(toB 97)]))]) ∧ ((kd_l_u8.wf ((clashA [(frzB (bookNote (bookNote (bookNote (some ([], 0)) (sealOf 1 [[(toB 97)]]) [(toB 97)]) (sealOf 1 [[(toB 97)]]) [(toB 98)]) (sealOf 1 [[(toB 97)]]) [(toB 97)]))]).1)) → ((kd_l_u8.wf ((clashA [(frzB (bookNote (bookNote (bookNote (some ([], 0)) (sealOf 1 [[(toB 97)]]) [(toB 97)]) (sealOf 1 [[(toB 97)]]) [(toB 98)]) (sealOf 1 [[(toB 97)]]) [(toB 97)]))]).2.1)) → ((1 + blobRoom [([] : List UInt8), [(toB 97), (toB 98)]] ≤ 140737488355328) ∧ ((kd_l_u8.wf (preimage 2 [([] : List UInt8), [(toB 97), (toB 98)]])) → ((((((preimage 2 [([] : List UInt8), [(toB 97), (toB 98)]]) = [2, 0, 1, 2, 97, 98]) ∧ ((sealOf 1 [[(toB 97)]]) = (sealOf 1 [[(toB 97)]]))) ∧ ((bookCalls (bookOf (bookOf (some ([], 0)) 1 [[(toB 97)]]) 1 [[(toB 97)]])) = 2)) → ((bookFits (bookOf (bookOf (some ([], 0)) 1 [[(toB 97)]]) 1 [[(toB 97)]])) ∧ ((kd_l_l_u8.wf (bookAll (bookOf (bookOf (some ([], 0)) 1 [[(toB 97)]]) 1 [[(toB 97)]]))) → (True)))) ∧ (Q (decide ((((((((((preimage 2 [([] : List UInt8), [(toB 97), (toB 98)]]) = [2, 0, 1, 2, 97, 98]) ∧ ((sealOf 1 [[(toB 97)]]) = (sealOf 1 [[(toB 97)]]))) ∧ ((bookCalls (bookOf (bookOf (some ([], 0)) 1 [[(toB 97)]]) 1 [[(toB 97)]])) = 2)) ∧ (((bookAll (bookOf (bookOf (some ([], 0)) 1 [[(toB 97)]]) 1 [[(toB 97)]])).length : Int) = 1)) ∧ ((bookFind (bookNote (bookNote (bookNote (some ([], 0)) (sealOf 1 [[(toB 97)]]) [(toB 97)]) (sealOf 1 [[(toB 97)]]) [(toB 98)]) (sealOf 1 [[(toB 97)]]) [(toB 97)]) (sealOf 1 [[(toB 97)]])) = [97])) ∧ ((bookHas (bookNote (bookNote (bookNote (some ([], 0)) (sealOf 1 [[(toB 97)]]) [(toB 97)]) (sealOf 1 [[(toB 97)]]) [(toB 98)]) (sealOf 1 [[(toB 97)]]) [(toB 97)]) (sealOf 1 [[(toB 97)]])) = true)) ∧ (((clashA [(frzB (bookNote (bookNote (bookNote (some ([], 0)) (sealOf 1 [[(toB 97)]]) [(toB 97)]) (sealOf 1 [[(toB 97)]]) [(toB 98)]) (sealOf 1 [[(toB 97)]]) [(toB 97)]))]).1) = [97])) ∧ (((clashA [(frzB (bookNote (bookNote (bookNote (some ([], 0)) (sealOf 1 [[(toB 97)]]) [(toB 97)]) (sealOf 1 [[(toB 97)]]) [(toB 98)]) (sealOf 1 [[(toB 97)]]) [(toB 97)]))]).2.1) = [98])) ∧ (((clashA [(frzB (bookNote (bookNote (bookNote (some ([], 0)) (sealOf 1 [[(toB 97)]]) [(toB 97)]) (sealOf 1 [[(toB 97)]]) [(toB 98)]) (sealOf 1 [[(toB 97)]]) [(toB 97)]))]).2.2) = true))))))))))))))))))
theorem awake3_ok  : awake3_VC  (fun o0 => o0 = true) := by
  have e1 : preimage 2 [([] : List UInt8), [toB 97, toB 98]] = [2, 0, 1, 2, 97, 98] := by rw [preimageF_eq _ (by decide)]; decide
  have e2 : (preimage 1 [[toB 97]]).length ≤ 10 := by rw [preimageF_eq _ (by decide)]; decide
  have t97 : toB 97 = 97 := by decide
  have t98 : toB 98 = 98 := by decide
  unfold awake3_VC
  rw [e1]
  simp only [t97, t98] at e2 ⊢
  generalize hS : sealOf 1 [[97]] = S
  generalize hP : preimage 1 [[97]] = P at e2
  have b1 : bookNote (some ([], 0)) S [97] = some ([(S, [97])], 0) := rfl
  have b2 : bookNote (some ([(S, [97])], 0)) S [98] = some ([(S, [97]), (S, [98])], 0) := by simp [bookNote, addL]
  have b3 : bookNote (some ([(S, [97]), (S, [98])], 0)) S [97] = some ([(S, [97]), (S, [98])], 0) := by simp [bookNote, addL]
  have b4 : bookOf (some ([], 0)) 1 [[97]] = some ([(S, P)], 1) := by simp only [bookOf, hS, hP]; rfl
  have b5 : bookOf (some ([(S, P)], 1)) 1 [[97]] = some ([(S, P)], 2) := by simp only [bookOf, hS, hP]; simp [addL]; decide
  simp only [b1, b2, b3, b4, b5]
  refine ⟨⟨by decide, ?_⟩, fun _ => ⟨⟨by decide, ?_⟩, fun _ => ⟨⟨by decide, ?_⟩, ⟨by decide, ?_⟩, ⟨by decide, ?_⟩, ?_, fun _ => ⟨?_, fun _ _ => ⟨by decide, fun _ => ⟨fun _ => ?_, ?_⟩⟩⟩⟩⟩⟩
  · rintro y h; cases h; simp
  · rintro y h; cases h; simp
  · rintro y h; cases h; simp
  · rintro y h; cases h; simp
  · rintro y h; cases h; simp
  · rintro y h; cases h; exact ⟨by simp, by simp⟩
  · exact ⟨by simp [notesF, frzB], by simp [notesF, frzB]⟩
  · exact ⟨by rintro y h; cases h; exact ⟨by simp, by simp; omega⟩, fun _ => trivial⟩
  · simp [bookCalls, bookAll, bookFind, bookHas, noteAt, firstOf, clashA, notesF, frzB, clashL, addL, ix]

theorem awake3_walk {w0 : World} {K0 : Ghost}  {Q : Bool → Prop} (hM0 : Models w0 K0)  (h : awake3_VC  Q) : Calls Try.prog 14 #[] w0 (fun e w' => ∃ (K' : Ghost) (r0 : Value) (o0 : Bool), e = .returned r0 ∧ Q o0 ∧ Ext NX w0 K0 w' K' ∧ Models w' K' ∧ Kd.bool.V K' o0 r0) := by
  unfold awake3_VC at h
  have hE0 : Ext NX w0 K0 w0 K0 := Ext.refl _ _ _
  refine calls_gen fun R hR => ?_
  refine calls_env (args := []) Try.func14 rfl (Nat.le_of_ble_eq_true rfl) ?_
  refine WP_seq ?_
  refine WP_region ?_
  refine WL_pure (.bool false) (R_as rfl) rfl rfl ?_
  refine WL_nil ?_
  refine WP_seq ?_
  refine WP_region ?_
  refine WL_V (S_bld (K := K0) (vs := []) (Z := (((.slice none 0 0), (.map none)), 0)) ty32 rfl Try.underlying32 (fs32 Try.underlying32) rfl Parts.nil) rfl rfl ?_
  rintro v1 (hV1 : kd_Sseal_Book.V _ (((.slice none 0 0), (.map none)), 0) _)
  refine WL_eff rfl rfl (St_B (S_box hM0 rfl hV1) ?_)
  rintro b3 w3 (hB3 : Bx kd_Sseal_Book _ _ _ _ _ (((.slice none 0 0), (.map none)), 0)) hS3 hM3 hge3
  have hE3 := hE0.andN hS3
  have hR5 : Own kd_Sseal_note 90 w3 K0 ([] : List ((List UInt8) × (List UInt8))) (.slice none 0 0) := Own.nil
  have hR6 : Mp kd_a32_u8 (Kd.int .i64) w3 K0 ([] : List ((List UInt8) × Int)) (.map none) := Or.inl ⟨rfl, rfl⟩
  obtain ⟨F7, hR7, hn7⟩ : ∃ F, BookR w3 K0 (.pointer (some ⟨b3, 0, none⟩)) F (some ([], 0)) ∧ ∀ g, F g → w0.heap.size ≤ g := ⟨_, BookE.new hB3, fun g hg => (show g = b3 from hg) ▸ hge3⟩
  refine WL_pure (.pointer (some ⟨b3, 0, none⟩)) (R_as rfl) rfl rfl ?_
  refine WL_nil ?_
  refine WP_seq ?_
  refine WP_region ?_
  refine WL_pure (.pointer (some ⟨b3, 0, none⟩)) (R_mv rfl) rfl rfl ?_
  refine WL_eff rfl rfl (St_S0 (S_bsl (k := Kd.byte) (l := [((toB 97), (.int .u8 97))]) hM3 rfl (by intro p hp; simp only [List.mem_cons, List.not_mem_nil, or_false] at hp; subst hp; exact (byte_V (show (Kd.int .u8).wf 97 from by constructor <;> decide))) rfl Try.underlying39 ty5b rfl rfl) ?_)
  rintro v8 w8 K8 (hO8 : Own Kd.byte 5 w8 K8 [(toB 97)] v8) hS8 hM8 hg8
  have hE8 := hE3.andN hS8
  refine WL_eff rfl rfl (St_Mk (S_mark hM8 rfl hO8 Try.underlying39 Try.underlying5 (by simp)) ?_)
  rintro w10 hV10 hS10 hM10
  have hE10 := hE8.comp hS10 (fun c hx hlt => (fun g hg hlt => absurd hlt (Nat.not_lt.2 ((fun g hg => Nat.le_trans hE3.size (hg8 g hg)) g hg))) c hx hlt)
  have hR11 := (hR7.extN hS8)
  have hR12 := (hR11.ext hS10 (fun g hg hx => (fun g hg hx => (fun g hg hx => absurd (hR7.lt _ hx) (Nat.not_lt.2 (hg8 g hg))) g hx hg) g hg hx))
  refine WL_eff rfl rfl (St_S0 (S_bsl (k := kd_l_u8) (l := [([(toB 97)], v8)]) hM10 rfl (by intro p hp; simp only [List.mem_cons, List.not_mem_nil, or_false] at hp; subst hp; exact hV10) rfl Try.underlying38 ty39 rfl rfl) ?_)
  rintro v14 w14 K14 (hO14 : Own kd_l_u8 39 w14 K14 [[(toB 97)]] v14) hS14 hM14 hg14
  have hE14 := hE10.andN hS14
  have hR16 := (hR12.extN hS14)
  obtain ⟨hp18, h⟩ := h
  refine WL_eff rfl rfl (St_call (R_call Try.call21 rfl) ((Of_c hM14 hR16 (int_V (show (Kd.int .i64).wf 1 from by constructor <;> decide)) hO14.V hp18).mono ?_))
  rintro _ w17 ⟨K17, v17_0, u17_0, rfl, hS17, hM17, hV17_0, hu17_0, hxu17_0⟩
  refine ⟨v17_0, rfl, ?_⟩
  have hE17 := hE14.comp hS17 (fun c hx hlt => (fun g hg hlt => absurd hlt (Nat.not_lt.2 ((fun g hg => Nat.le_trans hE0.size (hn7 g hg)) g hg))) c hx hlt)
  have hR19 := (hO14.ext hS17 (fun g hg hx => (fun g hg hx => absurd (hR12.lt _ hx) (Nat.not_lt.2 (hg14 g hg))) g hg hx))
  have hs20 : ∀ g, u17_0 g → ¬ (ob v14 = some g) := fun g hg hy => (hxu17_0 g hg).elim (fun hx => (fun g hg hx => (fun g hg hx => absurd (hR12.lt _ hx) (Nat.not_lt.2 (hg14 g hg))) g hx hg) g hx hy) (fun hx => absurd (hO14.lt _ hy) (Nat.not_lt.2 hx))
  have h := h hV17_0.wf
  refine WL_pure (.pointer (some ⟨b3, 0, none⟩)) (R_mv rfl) rfl rfl ?_
  refine WL_eff rfl rfl (St_S0 (S_bsl (k := Kd.byte) (l := [((toB 97), (.int .u8 97))]) hM17 rfl (by intro p hp; simp only [List.mem_cons, List.not_mem_nil, or_false] at hp; subst hp; exact (byte_V (show (Kd.int .u8).wf 97 from by constructor <;> decide))) rfl Try.underlying39 ty5b rfl rfl) ?_)
  rintro v22 w22 K22 (hO22 : Own Kd.byte 5 w22 K22 [(toB 97)] v22) hS22 hM22 hg22
  have hE22 := hE17.andN hS22
  refine WL_eff rfl rfl (St_Mk (S_mark hM22 rfl hO22 Try.underlying39 Try.underlying5 (by simp)) ?_)
  rintro w24 hV24 hS24 hM24
  have hE24 := hE22.comp hS24 (fun c hx hlt => (fun g hg hlt => absurd hlt (Nat.not_lt.2 ((fun g hg => Nat.le_trans hE17.size (hg22 g hg)) g hg))) c hx hlt)
  have hR25 := (hu17_0.extN hS22)
  have hR26 := (hR25.ext hS24 (fun g hg hx => (fun g hg hx => (fun g hg hx => absurd (hu17_0.lt _ hx) (Nat.not_lt.2 (hg22 g hg))) g hx hg) g hg hx))
  refine WL_eff rfl rfl (St_S0 (S_bsl (k := kd_l_u8) (l := [([(toB 97)], v22)]) hM24 rfl (by intro p hp; simp only [List.mem_cons, List.not_mem_nil, or_false] at hp; subst hp; exact hV24) rfl Try.underlying38 ty39 rfl rfl) ?_)
  rintro v28 w28 K28 (hO28 : Own kd_l_u8 39 w28 K28 [[(toB 97)]] v28) hS28 hM28 hg28
  have hE28 := hE24.andN hS28
  have hR30 := (hR19.extN hS22)
  have hR31 := (hR30.ext hS24 (fun g hg hx => (Own.ne_type hR30 hO22 (by decide)) g hg hx))
  have hR32 := (hR26.extN hS28)
  have hR33 := (hR19.extN hS22)
  have hR34 := ((hR33.ext hS24 (fun g hg hx => (Own.ne_type hR33 hO22 (by decide)) g hg hx)).extN hS28)
  obtain ⟨hp36, h⟩ := h
  refine WL_eff rfl rfl (St_call (R_call Try.call21 rfl) ((Of_c hM28 hR32 (int_V (show (Kd.int .i64).wf 1 from by constructor <;> decide)) hO28.V hp36).mono ?_))
  rintro _ w35 ⟨K35, v35_0, u35_0, rfl, hS35, hM35, hV35_0, hu35_0, hxu35_0⟩
  refine ⟨v35_0, rfl, ?_⟩
  have hE35 := hE28.comp hS35 (fun c hx hlt => (fun g hg hlt => absurd hlt (Nat.not_lt.2 ((fun g hg => (hxu17_0 g hg).elim (fun hx => (fun g hg => Nat.le_trans hE0.size (hn7 g hg)) g hx) (fun hx => Nat.le_trans hE14.size hx)) g hg))) c hx hlt)
  have hR37 := (hR34.ext hS35 (fun g hg hx => (fun g hg hx => hs20 g hx hg) g hg hx))
  have hR38 := (hO28.ext hS35 (fun g hg hx => (fun g hg hx => absurd (hR26.lt _ hx) (Nat.not_lt.2 (hg28 g hg))) g hg hx))
  have hs39 : ∀ g, u35_0 g → ¬ (ob v14 = some g) := fun g hg hy => (hxu35_0 g hg).elim (fun hx => hs20 g hx hy) (fun hx => absurd (hR34.lt _ hy) (Nat.not_lt.2 hx))
  have hs40 : ∀ g, u35_0 g → ¬ (ob v28 = some g) := fun g hg hy => (hxu35_0 g hg).elim (fun hx => (fun g hg hx => (fun g hg hx => absurd (hR26.lt _ hx) (Nat.not_lt.2 (hg28 g hg))) g hx hg) g hx hy) (fun hx => absurd (hO28.lt _ hy) (Nat.not_lt.2 hx))
  have h := h hV35_0.wf
  refine WL_eff rfl rfl (St_B (S_alloc hM35 ty23) ?_)
  rintro b42 w42 (hB42 : Bx kd_a32_u8 _ _ _ _ _ (List.replicate 32 0)) hS42 hM42 hge42
  have hE42 := hE35.andN hS42
  refine WL_eff rfl rfl (St_B (S_alloc hM42 ty23) ?_)
  rintro b44 w44 (hB44 : Bx kd_a32_u8 _ _ _ _ _ (List.replicate 32 0)) hS44 hM44 hge44
  have hE44 := hE42.andN hS44
  have hR46 := (hu35_0.extN hS42)
  have hR48 := (hB42.extN hS44)
  refine WL_eff rfl rfl (St_St (S_stB (Foc.id _) hM44 rfl rfl (hV17_0.mono (hS22.le.trans (hS24.le.trans (hS28.le.trans (hS35.le.trans (hS42.le.trans hS44.le)))))) ty23 hR48 (by first | rfl | simp | omega)) ?_)
  rintro w47 (hB47 : Bx kd_a32_u8 _ _ b42 [] [] (sealOf 1 [[(toB 97)]])) hS47 hM47
  have hE47 := hE44.comp hS47 (fun c hx hlt => (by subst hx; exact (fun hlt => absurd hlt (Nat.not_lt.2 (Nat.le_trans hE35.size hge42))) hlt))
  have hR50 := (hB44.ext hS47 (fun hx => (ne_new hge44 hB42.lt) hx))
  refine WL_eff rfl rfl (St_St (S_stB (Foc.id _) hM47 rfl rfl (hV35_0.mono (hS42.le.trans (hS44.le.trans hS47.le))) ty23 hR50 (by first | rfl | simp | omega)) ?_)
  rintro w49 (hB49 : Bx kd_a32_u8 _ _ b44 [] [] (sealOf 1 [[(toB 97)]])) hS49 hM49
  have hE49 := hE47.comp hS49 (fun c hx hlt => (by subst hx; exact (fun hlt => absurd hlt (Nat.not_lt.2 (Nat.le_trans hE42.size hge44))) hlt))
  refine WL_nil ?_
  refine WP_seq ?_
  refine WP_region ?_
  refine WL_V (S_bld (K := K35) (vs := []) (Z := (((.slice none 0 0), (.map none)), 0)) ty32 rfl Try.underlying32 (fs32 Try.underlying32) rfl Parts.nil) rfl rfl ?_
  rintro v51 (hV51 : kd_Sseal_Book.V _ (((.slice none 0 0), (.map none)), 0) _)
  refine WL_eff rfl rfl (St_B (S_box hM49 rfl hV51) ?_)
  rintro b53 w53 (hB53 : Bx kd_Sseal_Book _ _ _ _ _ (((.slice none 0 0), (.map none)), 0)) hS53 hM53 hge53
  have hE53 := hE49.andN hS53
  have hR55 := ((hu35_0.extN hS42).extN hS44)
  have hR56 := (hR55.ext hS47 (fun g hg hx => (fun g hg hx => (fun g hg hx => lt_eq' (hu35_0.lt _ hx) hg hge42) g hx hg) g hg hx))
  have hR57 := (hR56.ext hS49 (fun g hg hx => (fun g hg hx => (fun g hg hx => lt_eq' (hR46.lt _ hx) hg hge44) g hx hg) g hg hx))
  have hR58 := (hB47.ext hS49 (fun hx => (fun he => (ne_new hge44 hB42.lt) he.symm) hx))
  have hR59 : Own kd_Sseal_note 90 w53 K35 ([] : List ((List UInt8) × (List UInt8))) (.slice none 0 0) := Own.nil
  have hR60 : Mp kd_a32_u8 (Kd.int .i64) w53 K35 ([] : List ((List UInt8) × Int)) (.map none) := Or.inl ⟨rfl, rfl⟩
  obtain ⟨F61, hR61, hn61⟩ : ∃ F, BookR w53 K35 (.pointer (some ⟨b53, 0, none⟩)) F (some ([], 0)) ∧ ∀ g, F g → w49.heap.size ≤ g := ⟨_, BookE.new hB53, fun g hg => (show g = b53 from hg) ▸ hge53⟩
  have hR62 := ((hu35_0.extN hS42).extN hS44)
  have hR63 := (hR62.ext hS47 (fun g hg hx => (fun g hg hx => (fun g hg hx => lt_eq' (hu35_0.lt _ hx) hg hge42) g hx hg) g hg hx))
  have hR64 := (hR63.ext hS49 (fun g hg hx => (fun g hg hx => (fun g hg hx => lt_eq' (hR46.lt _ hx) hg hge44) g hx hg) g hg hx))
  have hR65 := ((hR37.extN hS42).extN hS44)
  have hR66 := (hR65.ext hS47 (fun g hg hx => (fun g hg hx => hR65.box hR48 (hg.trans (congrArg some hx))) g hg hx))
  have hR67 := (hR66.ext hS49 (fun g hg hx => (fun g hg hx => hR66.box hR50 (hg.trans (congrArg some hx))) g hg hx))
  have hR68 := ((hR38.extN hS42).extN hS44)
  have hR69 := (hR68.ext hS47 (fun g hg hx => (fun g hg hx => hR68.box hR48 (hg.trans (congrArg some hx))) g hg hx))
  have hR70 := (hR69.ext hS49 (fun g hg hx => (fun g hg hx => hR69.box hR50 (hg.trans (congrArg some hx))) g hg hx))
  have hR71 := (hB47.ext hS49 (fun hx => (fun he => (ne_new hge44 hB42.lt) he.symm) hx))
  refine WL_pure (.pointer (some ⟨b53, 0, none⟩)) (R_as rfl) rfl rfl ?_
  refine WL_nil ?_
  refine WP_seq ?_
  refine WP_region ?_
  refine WL_pure (.pointer (some ⟨b53, 0, none⟩)) (R_mv rfl) rfl rfl ?_
  have hR73 := ((hB47.ext hS49 (fun hx => (fun he => (ne_new hge44 hB42.lt) he.symm) hx)).extN hS53)
  refine WL_L hM53 (S_ldB (Foc.id _) rfl ty23 hR73 (by first | rfl | simp | omega) (fun h => h)) rfl rfl ?_
  rintro v72 (hV72 : kd_a32_u8.V _ (sealOf 1 [[(toB 97)]]) _)
  refine WL_eff rfl rfl (St_S0 (S_bsl (k := Kd.byte) (l := [((toB 97), (.int .u8 97))]) hM53 rfl (by intro p hp; simp only [List.mem_cons, List.not_mem_nil, or_false] at hp; subst hp; exact (byte_V (show (Kd.int .u8).wf 97 from by constructor <;> decide))) rfl Try.underlying39 ty5b rfl rfl) ?_)
  rintro v75 w75 K75 (hO75 : Own Kd.byte 5 w75 K75 [(toB 97)] v75) hS75 hM75 hg75
  have hE75 := hE53.andN hS75
  have hR77 := ((hu35_0.extN hS42).extN hS44)
  have hR78 := (hR77.ext hS47 (fun g hg hx => (fun g hg hx => (fun g hg hx => lt_eq' (hu35_0.lt _ hx) hg hge42) g hx hg) g hg hx))
  have hR79 := ((hR78.ext hS49 (fun g hg hx => (fun g hg hx => (fun g hg hx => lt_eq' (hR46.lt _ hx) hg hge44) g hx hg) g hg hx)).extN hS53)
  refine WL_eff rfl rfl (St_Mk (S_mark hM75 rfl hO75 Try.underlying39 Try.underlying5 (by simp)) ?_)
  rintro w80 hV80 hS80 hM80
  have hE80 := hE75.comp hS80 (fun c hx hlt => (fun g hg hlt => absurd hlt (Nat.not_lt.2 ((fun g hg => Nat.le_trans hE53.size (hg75 g hg)) g hg))) c hx hlt)
  have hR81 := ((hu35_0.extN hS42).extN hS44)
  have hR82 := (hR81.ext hS47 (fun g hg hx => (fun g hg hx => (fun g hg hx => lt_eq' (hu35_0.lt _ hx) hg hge42) g hx hg) g hg hx))
  have hR83 := (((hR82.ext hS49 (fun g hg hx => (fun g hg hx => (fun g hg hx => lt_eq' (hR46.lt _ hx) hg hge44) g hx hg) g hg hx)).extN hS53).extN hS75)
  have hR84 := (hR83.ext hS80 (fun g hg hx => (fun g hg hx => (fun g hg hx => absurd (hR79.lt _ hx) (Nat.not_lt.2 (hg75 g hg))) g hx hg) g hg hx))
  have hR85 := (hR61.extN hS75)
  have hR86 := (hR85.ext hS80 (fun g hg hx => (fun g hg hx => (fun g hg hx => absurd (hR61.lt _ hx) (Nat.not_lt.2 (hg75 g hg))) g hx hg) g hg hx))
  have hR88 := ((hR37.extN hS42).extN hS44)
  have hR89 := (hR88.ext hS47 (fun g hg hx => (fun g hg hx => hR88.box hR48 (hg.trans (congrArg some hx))) g hg hx))
  have hR90 := (((hR89.ext hS49 (fun g hg hx => (fun g hg hx => hR89.box hR50 (hg.trans (congrArg some hx))) g hg hx)).extN hS53).extN hS75)
  have hR91 := (hR90.ext hS80 (fun g hg hx => (Own.ne_type hR90 hO75 (by decide)) g hg hx))
  have hR92 := ((hR38.extN hS42).extN hS44)
  have hR93 := (hR92.ext hS47 (fun g hg hx => (fun g hg hx => hR92.box hR48 (hg.trans (congrArg some hx))) g hg hx))
  have hR94 := (((hR93.ext hS49 (fun g hg hx => (fun g hg hx => hR93.box hR50 (hg.trans (congrArg some hx))) g hg hx)).extN hS53).extN hS75)
  have hR95 := (hR94.ext hS80 (fun g hg hx => (Own.ne_type hR94 hO75 (by decide)) g hg hx))
  have hR96 := (hR73.extN hS75)
  have hR97 := (hR96.ext hS80 (fun hx => (hO75.box hR96) hx))
  have hR98 := ((hB49.extN hS53).extN hS75)
  have hR99 := (hR98.ext hS80 (fun hx => (hO75.box hR98) hx))
  obtain ⟨hp101, h⟩ := h
  refine WL_eff rfl rfl (St_call (R_call Try.call19 rfl) ((NoteO_c hM80 hR86 (hV72.mono (hS75.le.trans hS80.le)) hV80 hp101).mono ?_))
  rintro _ w100 ⟨K100, u100_0, rfl, hS100, hM100, hu100_0, hxu100_0⟩
  refine ⟨(.tuple #[]), rfl, ?_⟩
  have hE100 := hE80.comp hS100 (fun c hx hlt => (fun g hg hlt => absurd hlt (Nat.not_lt.2 ((fun g hg => Nat.le_trans hE49.size (hn61 g hg)) g hg))) c hx hlt)
  have hR102 := (hR84.ext hS100 (fun g hg hx => (fun g hg hx => (fun g hg hx => absurd (hR64.lt _ hx) (Nat.not_lt.2 (hn61 g hg))) g hx hg) g hg hx))
  have hR103 := (hR91.ext hS100 (fun g hg hx => (fun g hg hx => (fun g hg hx => absurd (hR67.lt _ hx) (Nat.not_lt.2 (hn61 g hg))) g hx hg) g hg hx))
  have hR104 := (hR95.ext hS100 (fun g hg hx => (fun g hg hx => (fun g hg hx => absurd (hR70.lt _ hx) (Nat.not_lt.2 (hn61 g hg))) g hx hg) g hg hx))
  have hR105 := (hR97.ext hS100 (fun hx => (fun g hg hx => (fun g hg hx => lt_eq hR71.lt hx (hn61 g hg)) g hx hg) b42 rfl hx))
  have hR106 := (hR99.ext hS100 (fun hx => (fun g hg hx => (fun g hg hx => lt_eq hB49.lt hx (hn61 g hg)) g hx hg) b44 rfl hx))
  have hs107 : ∀ g, u100_0 g → ¬ (u35_0 g) := fun g hg hy => (hxu100_0 g hg).elim (fun hx => (fun g hg hx => absurd (hR64.lt _ hx) (Nat.not_lt.2 (hn61 g hg))) g hx hy) (fun hx => absurd (hR84.lt _ hy) (Nat.not_lt.2 hx))
  have hs108 : ∀ g, u100_0 g → ¬ (ob v14 = some g) := fun g hg hy => (hxu100_0 g hg).elim (fun hx => (fun g hg hx => absurd (hR67.lt _ hx) (Nat.not_lt.2 (hn61 g hg))) g hx hy) (fun hx => absurd (hR91.lt _ hy) (Nat.not_lt.2 hx))
  have hs109 : ∀ g, u100_0 g → ¬ (ob v28 = some g) := fun g hg hy => (hxu100_0 g hg).elim (fun hx => (fun g hg hx => absurd (hR70.lt _ hx) (Nat.not_lt.2 (hn61 g hg))) g hx hy) (fun hx => absurd (hR95.lt _ hy) (Nat.not_lt.2 hx))
  have hs110 : ∀ g, u100_0 g → ¬ (g = b42) := fun g hg hy => (hxu100_0 g hg).elim (fun hx => (fun g hg hx => lt_eq hR71.lt hx (hn61 g hg)) g hx hy) (fun hx => lt_eq hR97.lt hy hx)
  have hs111 : ∀ g, u100_0 g → ¬ (g = b44) := fun g hg hy => (hxu100_0 g hg).elim (fun hx => (fun g hg hx => lt_eq hB49.lt hx (hn61 g hg)) g hx hy) (fun hx => lt_eq hR99.lt hy hx)
  refine WL_nil ?_
  refine WP_seq ?_
  refine WP_region ?_
  refine WL_pure (.pointer (some ⟨b53, 0, none⟩)) (R_mv rfl) rfl rfl ?_
  refine WL_L hM100 (S_ldB (Foc.id _) rfl ty23 hR105 (by first | rfl | simp | omega) (fun h => h)) rfl rfl ?_
  rintro v112 (hV112 : kd_a32_u8.V _ (sealOf 1 [[(toB 97)]]) _)
  refine WL_eff rfl rfl (St_S0 (S_bsl (k := Kd.byte) (l := [((toB 98), (.int .u8 98))]) hM100 rfl (by intro p hp; simp only [List.mem_cons, List.not_mem_nil, or_false] at hp; subst hp; exact (byte_V (show (Kd.int .u8).wf 98 from by constructor <;> decide))) rfl Try.underlying39 ty5b rfl rfl) ?_)
  rintro v114 w114 K114 (hO114 : Own Kd.byte 5 w114 K114 [(toB 98)] v114) hS114 hM114 hg114
  have hE114 := hE100.andN hS114
  refine WL_eff rfl rfl (St_Mk (S_mark hM114 rfl hO114 Try.underlying39 Try.underlying5 (by simp)) ?_)
  rintro w116 hV116 hS116 hM116
  have hE116 := hE114.comp hS116 (fun c hx hlt => (fun g hg hlt => absurd hlt (Nat.not_lt.2 ((fun g hg => Nat.le_trans hE100.size (hg114 g hg)) g hg))) c hx hlt)
  have hR117 := (hR102.extN hS114)
  have hR118 := (hR117.ext hS116 (fun g hg hx => (fun g hg hx => (fun g hg hx => absurd (hR102.lt _ hx) (Nat.not_lt.2 (hg114 g hg))) g hx hg) g hg hx))
  have hR119 := (hu100_0.extN hS114)
  have hR120 := (hR119.ext hS116 (fun g hg hx => (fun g hg hx => (fun g hg hx => absurd (hu100_0.lt _ hx) (Nat.not_lt.2 (hg114 g hg))) g hx hg) g hg hx))
  have hR122 := (hR103.extN hS114)
  have hR123 := (hR122.ext hS116 (fun g hg hx => (Own.ne_type hR122 hO114 (by decide)) g hg hx))
  have hR124 := (hR104.extN hS114)
  have hR125 := (hR124.ext hS116 (fun g hg hx => (Own.ne_type hR124 hO114 (by decide)) g hg hx))
  have hR126 := (hR105.extN hS114)
  have hR127 := (hR126.ext hS116 (fun hx => (hO114.box hR126) hx))
  have hR128 := (hR106.extN hS114)
  have hR129 := (hR128.ext hS116 (fun hx => (hO114.box hR128) hx))
  obtain ⟨hp131, h⟩ := h
  refine WL_eff rfl rfl (St_call (R_call Try.call19 rfl) ((NoteO_c hM116 hR120 (hV112.mono (hS114.le.trans hS116.le)) hV116 hp131).mono ?_))
  rintro _ w130 ⟨K130, u130_0, rfl, hS130, hM130, hu130_0, hxu130_0⟩
  refine ⟨(.tuple #[]), rfl, ?_⟩
  have hE130 := hE116.comp hS130 (fun c hx hlt => (fun g hg hlt => absurd hlt (Nat.not_lt.2 ((fun g hg => (hxu100_0 g hg).elim (fun hx => (fun g hg => Nat.le_trans hE49.size (hn61 g hg)) g hx) (fun hx => Nat.le_trans hE80.size hx)) g hg))) c hx hlt)
  have hR132 := (hR118.ext hS130 (fun g hg hx => (fun g hg hx => hs107 g hx hg) g hg hx))
  have hR133 := (hR123.ext hS130 (fun g hg hx => (fun g hg hx => hs108 g hx hg) g hg hx))
  have hR134 := (hR125.ext hS130 (fun g hg hx => (fun g hg hx => hs109 g hx hg) g hg hx))
  have hR135 := (hR127.ext hS130 (fun hx => (fun g hg hx => hs110 g hx hg) b42 rfl hx))
  have hR136 := (hR129.ext hS130 (fun hx => (fun g hg hx => hs111 g hx hg) b44 rfl hx))
  have hs137 : ∀ g, u130_0 g → ¬ (u35_0 g) := fun g hg hy => (hxu130_0 g hg).elim (fun hx => hs107 g hx hy) (fun hx => absurd (hR118.lt _ hy) (Nat.not_lt.2 hx))
  have hs138 : ∀ g, u130_0 g → ¬ (ob v14 = some g) := fun g hg hy => (hxu130_0 g hg).elim (fun hx => hs108 g hx hy) (fun hx => absurd (hR123.lt _ hy) (Nat.not_lt.2 hx))
  have hs139 : ∀ g, u130_0 g → ¬ (ob v28 = some g) := fun g hg hy => (hxu130_0 g hg).elim (fun hx => hs109 g hx hy) (fun hx => absurd (hR125.lt _ hy) (Nat.not_lt.2 hx))
  have hs140 : ∀ g, u130_0 g → ¬ (g = b42) := fun g hg hy => (hxu130_0 g hg).elim (fun hx => hs110 g hx hy) (fun hx => lt_eq hR127.lt hy hx)
  have hs141 : ∀ g, u130_0 g → ¬ (g = b44) := fun g hg hy => (hxu130_0 g hg).elim (fun hx => hs111 g hx hy) (fun hx => lt_eq hR129.lt hy hx)
  refine WL_nil ?_
  refine WP_seq ?_
  refine WP_region ?_
  refine WL_pure (.pointer (some ⟨b53, 0, none⟩)) (R_mv rfl) rfl rfl ?_
  refine WL_L hM130 (S_ldB (Foc.id _) rfl ty23 hR135 (by first | rfl | simp | omega) (fun h => h)) rfl rfl ?_
  rintro v142 (hV142 : kd_a32_u8.V _ (sealOf 1 [[(toB 97)]]) _)
  refine WL_eff rfl rfl (St_S0 (S_bsl (k := Kd.byte) (l := [((toB 97), (.int .u8 97))]) hM130 rfl (by intro p hp; simp only [List.mem_cons, List.not_mem_nil, or_false] at hp; subst hp; exact (byte_V (show (Kd.int .u8).wf 97 from by constructor <;> decide))) rfl Try.underlying39 ty5b rfl rfl) ?_)
  rintro v144 w144 K144 (hO144 : Own Kd.byte 5 w144 K144 [(toB 97)] v144) hS144 hM144 hg144
  have hE144 := hE130.andN hS144
  refine WL_eff rfl rfl (St_Mk (S_mark hM144 rfl hO144 Try.underlying39 Try.underlying5 (by simp)) ?_)
  rintro w146 hV146 hS146 hM146
  have hE146 := hE144.comp hS146 (fun c hx hlt => (fun g hg hlt => absurd hlt (Nat.not_lt.2 ((fun g hg => Nat.le_trans hE130.size (hg144 g hg)) g hg))) c hx hlt)
  have hR147 := (hR132.extN hS144)
  have hR148 := (hR147.ext hS146 (fun g hg hx => (fun g hg hx => (fun g hg hx => absurd (hR132.lt _ hx) (Nat.not_lt.2 (hg144 g hg))) g hx hg) g hg hx))
  have hR149 := (hu130_0.extN hS144)
  have hR150 := (hR149.ext hS146 (fun g hg hx => (fun g hg hx => (fun g hg hx => absurd (hu130_0.lt _ hx) (Nat.not_lt.2 (hg144 g hg))) g hx hg) g hg hx))
  have hR152 := (hR133.extN hS144)
  have hR153 := (hR152.ext hS146 (fun g hg hx => (Own.ne_type hR152 hO144 (by decide)) g hg hx))
  have hR154 := (hR134.extN hS144)
  have hR155 := (hR154.ext hS146 (fun g hg hx => (Own.ne_type hR154 hO144 (by decide)) g hg hx))
  have hR156 := (hR135.extN hS144)
  have hR157 := (hR156.ext hS146 (fun hx => (hO144.box hR156) hx))
  have hR158 := (hR136.extN hS144)
  have hR159 := (hR158.ext hS146 (fun hx => (hO144.box hR158) hx))
  obtain ⟨hp161, h⟩ := h
  refine WL_eff rfl rfl (St_call (R_call Try.call19 rfl) ((NoteO_c hM146 hR150 (hV142.mono (hS144.le.trans hS146.le)) hV146 hp161).mono ?_))
  rintro _ w160 ⟨K160, u160_0, rfl, hS160, hM160, hu160_0, hxu160_0⟩
  refine ⟨(.tuple #[]), rfl, ?_⟩
  have hE160 := hE146.comp hS160 (fun c hx hlt => (fun g hg hlt => absurd hlt (Nat.not_lt.2 ((fun g hg => (hxu130_0 g hg).elim (fun hx => (fun g hg => (hxu100_0 g hg).elim (fun hx => (fun g hg => Nat.le_trans hE49.size (hn61 g hg)) g hx) (fun hx => Nat.le_trans hE80.size hx)) g hx) (fun hx => Nat.le_trans hE116.size hx)) g hg))) c hx hlt)
  have hR162 := (hR148.ext hS160 (fun g hg hx => (fun g hg hx => hs137 g hx hg) g hg hx))
  have hR163 := (hR153.ext hS160 (fun g hg hx => (fun g hg hx => hs138 g hx hg) g hg hx))
  have hR164 := (hR155.ext hS160 (fun g hg hx => (fun g hg hx => hs139 g hx hg) g hg hx))
  have hR165 := (hR157.ext hS160 (fun hx => (fun g hg hx => hs140 g hx hg) b42 rfl hx))
  have hR166 := (hR159.ext hS160 (fun hx => (fun g hg hx => hs141 g hx hg) b44 rfl hx))
  have hs167 : ∀ g, u160_0 g → ¬ (u35_0 g) := fun g hg hy => (hxu160_0 g hg).elim (fun hx => hs137 g hx hy) (fun hx => absurd (hR148.lt _ hy) (Nat.not_lt.2 hx))
  have hs168 : ∀ g, u160_0 g → ¬ (ob v14 = some g) := fun g hg hy => (hxu160_0 g hg).elim (fun hx => hs138 g hx hy) (fun hx => absurd (hR153.lt _ hy) (Nat.not_lt.2 hx))
  have hs169 : ∀ g, u160_0 g → ¬ (ob v28 = some g) := fun g hg hy => (hxu160_0 g hg).elim (fun hx => hs139 g hx hy) (fun hx => absurd (hR155.lt _ hy) (Nat.not_lt.2 hx))
  have hs170 : ∀ g, u160_0 g → ¬ (g = b42) := fun g hg hy => (hxu160_0 g hg).elim (fun hx => hs140 g hx hy) (fun hx => lt_eq hR157.lt hy hx)
  have hs171 : ∀ g, u160_0 g → ¬ (g = b44) := fun g hg hy => (hxu160_0 g hg).elim (fun hx => hs141 g hx hy) (fun hx => lt_eq hR159.lt hy hx)
  refine WL_nil ?_
  refine WP_seq ?_
  refine WP_region ?_
  refine WL_pure (.pointer (some ⟨b53, 0, none⟩)) (R_mv rfl) rfl rfl ?_
  refine WL_L hM160 (S_ldB (Foc.id _) rfl ty23 hR165 (by first | rfl | simp | omega) (fun h => h)) rfl rfl ?_
  rintro v172 (hV172 : kd_a32_u8.V _ (sealOf 1 [[(toB 97)]]) _)
  obtain ⟨hp175, h⟩ := h
  refine WL_eff rfl rfl (St_call (R_call Try.call16 rfl) ((FindO_c hM160 hu160_0 hV172 hp175).mono ?_))
  rintro _ w174 ⟨K174, v174_0, v174_1, rfl, hS174, hM174, hO174_0, hg174_0, hV174_1⟩
  refine ⟨(.tuple #[v174_0, v174_1]), rfl, ?_⟩
  have hE174 := hE160.andN hS174
  have h := h hO174_0.wf
  obtain rfl := bool_form hV174_1
  refine WL_pure (.tuple #[v174_0, (.bool (bookHas (bookNote (bookNote (bookNote (some ([], 0)) (sealOf 1 [[(toB 97)]]) [(toB 97)]) (sealOf 1 [[(toB 97)]]) [(toB 98)]) (sealOf 1 [[(toB 97)]]) [(toB 97)]) (sealOf 1 [[(toB 97)]])))]) (R_mv rfl) rfl rfl ?_
  refine WL_pure v174_0 (R_ext rfl rfl) rfl rfl ?_
  refine WL_pure (.bool (bookHas (bookNote (bookNote (bookNote (some ([], 0)) (sealOf 1 [[(toB 97)]]) [(toB 97)]) (sealOf 1 [[(toB 97)]]) [(toB 98)]) (sealOf 1 [[(toB 97)]]) [(toB 97)]) (sealOf 1 [[(toB 97)]]))) (R_ext rfl rfl) rfl rfl ?_
  refine WL_pure v174_0 (R_as rfl) rfl rfl ?_
  refine WL_pure (.bool (bookHas (bookNote (bookNote (bookNote (some ([], 0)) (sealOf 1 [[(toB 97)]]) [(toB 97)]) (sealOf 1 [[(toB 97)]]) [(toB 98)]) (sealOf 1 [[(toB 97)]]) [(toB 97)]) (sealOf 1 [[(toB 97)]]))) (R_as rfl) rfl rfl ?_
  refine WL_nil ?_
  refine WP_seq ?_
  refine WP_region ?_
  refine WL_pure (.pointer (some ⟨b53, 0, none⟩)) (R_mv rfl) rfl rfl ?_
  have hR178 := (hu160_0.extN hS174)
  obtain ⟨K179, hF179, hM179, hV179⟩ := BookE.freeze hM174 hR178
  refine WL_eff rfl rfl (St_S0 (S_bsl (k := kd_p_Sseal_BookF) (l := [((frzB (bookNote (bookNote (bookNote (some ([], 0)) (sealOf 1 [[(toB 97)]]) [(toB 97)]) (sealOf 1 [[(toB 97)]]) [(toB 98)]) (sealOf 1 [[(toB 97)]]) [(toB 97)])), (.pointer (some ⟨b53, 0, none⟩)))]) hM179 rfl (by intro p hp; simp only [List.mem_cons, List.not_mem_nil, or_false] at hp; subst hp; exact hV179) rfl Try.underlying61 ty26b rfl rfl) ?_)
  rintro v177 w177 K177 (hO177 : Own kd_p_Sseal_BookF 26 w177 K177 [(frzB (bookNote (bookNote (bookNote (some ([], 0)) (sealOf 1 [[(toB 97)]]) [(toB 97)]) (sealOf 1 [[(toB 97)]]) [(toB 98)]) (sealOf 1 [[(toB 97)]]) [(toB 97)]))] v177) hT177 hM177 hg177
  have hS177 : Ext (fun c => u160_0 c) w174 K174 w177 K177 := (hF179.weak (fun c _ hx => (hx))).andN hT177
  have hE177 := hE174.comp hS177 (fun c hx hlt => (fun g hg hlt => absurd hlt (Nat.not_lt.2 ((fun g hg => (hxu160_0 g hg).elim (fun hx => (fun g hg => (hxu130_0 g hg).elim (fun hx => (fun g hg => (hxu100_0 g hg).elim (fun hx => (fun g hg => Nat.le_trans hE49.size (hn61 g hg)) g hx) (fun hx => Nat.le_trans hE80.size hx)) g hx) (fun hx => Nat.le_trans hE116.size hx)) g hx) (fun hx => Nat.le_trans hE146.size hx)) g hg))) c hx hlt)
  have hR180 := (hR162.extN hS174)
  have hR181 := (hR180.ext hS177 (fun g hg hx => (fun g hg hx => hs167 g hx hg) g hg hx))
  have hR182 := (hR163.extN hS174)
  have hR183 := (hR182.ext hS177 (fun g hg hx => (fun g hg hx => hs168 g hx hg) g hg hx))
  have hR184 := (hR164.extN hS174)
  have hR185 := (hR184.ext hS177 (fun g hg hx => (fun g hg hx => hs169 g hx hg) g hg hx))
  have hR186 := (hR165.extN hS174)
  have hR187 := (hR186.ext hS177 (fun hx => (fun g hg hx => hs170 g hx hg) b42 rfl hx))
  have hR188 := (hR166.extN hS174)
  have hR189 := (hR188.ext hS177 (fun hx => (fun g hg hx => hs171 g hx hg) b44 rfl hx))
  have hR190 := (hO174_0.ext hS177 (fun g hg hx => (fun g hg hx => absurd (hu160_0.lt _ hx) (Nat.not_lt.2 (hg174_0 g hg))) g hg hx))
  have hR192 := (hR162.extN hS174)
  obtain ⟨hp194, h⟩ := h
  refine WL_eff rfl rfl (St_call (R_call Try.call20 rfl) ((Clash_c hM177 hO177.V hp194).mono ?_))
  rintro _ w193 ⟨K193, v193_0, v193_1, v193_2, rfl, hS193, hM193, hV193_0, hV193_1, hV193_2⟩
  refine ⟨(.tuple #[v193_0, v193_1, v193_2]), rfl, ?_⟩
  have hE193 := hE177.andN hS193
  have h := h hV193_0.wf
  have h := h hV193_1.wf
  obtain rfl := bool_form hV193_2
  refine WL_pure (.tuple #[v193_0, v193_1, (.bool ((clashA [(frzB (bookNote (bookNote (bookNote (some ([], 0)) (sealOf 1 [[(toB 97)]]) [(toB 97)]) (sealOf 1 [[(toB 97)]]) [(toB 98)]) (sealOf 1 [[(toB 97)]]) [(toB 97)]))]).2.2))]) (R_mv rfl) rfl rfl ?_
  refine WL_pure v193_0 (R_ext rfl rfl) rfl rfl ?_
  refine WL_pure v193_1 (R_ext rfl rfl) rfl rfl ?_
  refine WL_pure (.bool ((clashA [(frzB (bookNote (bookNote (bookNote (some ([], 0)) (sealOf 1 [[(toB 97)]]) [(toB 97)]) (sealOf 1 [[(toB 97)]]) [(toB 98)]) (sealOf 1 [[(toB 97)]]) [(toB 97)]))]).2.2)) (R_ext rfl rfl) rfl rfl ?_
  refine WL_pure v193_0 (R_as rfl) rfl rfl ?_
  refine WL_pure v193_1 (R_as rfl) rfl rfl ?_
  refine WL_pure (.bool ((clashA [(frzB (bookNote (bookNote (bookNote (some ([], 0)) (sealOf 1 [[(toB 97)]]) [(toB 97)]) (sealOf 1 [[(toB 97)]]) [(toB 98)]) (sealOf 1 [[(toB 97)]]) [(toB 97)]))]).2.2)) (R_as rfl) rfl rfl ?_
  refine WL_nil ?_
  refine WP_seq ?_
  have hR197 := (hR187.extN hS193)
  have hR198 := (hR189.extN hS193)
  refine WP_own (K := K193) (fun c => w193.heap.size ≤ c) [.o 0 0, .o 1 1, .o 2 1, .o 3 1, .o 4 3, .o 5 3, .o 6 3, .o 7 3, .o 8 3, .o 9 3, .o 10 3, .o 11 3, .o 12 3, .o 13 1, .o 14 3, .o 15 3, .o 16 3, .o 17 3, .o 18 1, .o 19 3, .o 20 3, .o 21 3, .o 22 3, .o 23 3, .o 24 3, .o 25 3, .o 26 3, .o 27 3, .o 28 3, .o 29 3, .o 30 3, .o 31 3, .o 32 3, .o 33 3, .o 34 3, .o 35 3, .o 36 3, .o 37 3, .o 38 3, .o 39 3, .o 40 3, .o 41 3, .o 42 3, .o 43 3] (by kernel_rfl) hM193 ?_
  refine WO_eff0 rfl (gN rfl) rfl (St_S0 (S_bsl (k := Kd.byte) (l := [((toB 97), (.int .u8 97)), ((toB 98), (.int .u8 98))]) hM193 rfl (by intro p hp; simp only [List.mem_cons, List.not_mem_nil, or_false] at hp; rcases hp with rfl | rfl; exact (byte_V (show (Kd.int .u8).wf 97 from by constructor <;> decide)); exact (byte_V (show (Kd.int .u8).wf 98 from by constructor <;> decide))) rfl Try.underlying39 ty5b rfl rfl) ?_)
  rintro v199 w199 K199 (hO199 : Own Kd.byte 5 w199 K199 [(toB 97), (toB 98)] v199) hS199 hM199 hg199
  refine ⟨K199, hS199, hM199, ?_⟩
  have hE199 := hE193.andN hS199
  have hR201 := (hR181.extN hS193)
  have hR202 := (hR190.extN hS193)
  refine WO_eff rfl (gN rfl) rfl (St_Mk (S_mark hM199 rfl hO199 Try.underlying39 Try.underlying5 (by simp)) ?_)
  rintro w203 hV203 hS203 hM203
  refine ⟨K199, (hS203.weak (fun c hlt hx => ((hg199 c hx)))), hM203, ?_⟩
  have hE203 := hE199.comp hS203 (fun c hx hlt => (fun g hg hlt => absurd hlt (Nat.not_lt.2 ((fun g hg => Nat.le_trans hE193.size (hg199 g hg)) g hg))) c hx hlt)
  have hR204 := ((hR181.extN hS193).extN hS199)
  have hR205 := (hR204.ext hS203 (fun g hg hx => (fun g hg hx => (fun g hg hx => absurd (hR201.lt _ hx) (Nat.not_lt.2 (hg199 g hg))) g hx hg) g hg hx))
  have hR206 := ((hR190.extN hS193).extN hS199)
  have hR207 := (hR206.ext hS203 (fun g hg hx => (fun g hg hx => (fun g hg hx => absurd (hR202.lt _ hx) (Nat.not_lt.2 (hg199 g hg))) g hx hg) g hg hx))
  have hR210 : Own Kd.byte 5 w203 K199 ([] : List UInt8) (.slice none 0 0) := Own.nil
  have hR211 : Own Kd.byte 5 w203 K199 ([] : List UInt8) (.slice none 0 0) := Own.nil
  refine WO_eff rfl (gN rfl) rfl (St_S0 (S_bsl (k := kd_l_u8) (l := [(([] : List UInt8), (.slice none 0 0)), ([(toB 97), (toB 98)], v199)]) hM203 rfl (by intro p hp; simp only [List.mem_cons, List.not_mem_nil, or_false] at hp; rcases hp with rfl | rfl; exact hR210.V; exact hV203) rfl Try.underlying38 ty39 rfl rfl) ?_)
  rintro v209 w209 K209 (hO209 : Own kd_l_u8 39 w209 K209 [([] : List UInt8), [(toB 97), (toB 98)]] v209) hS209 hM209 hg209
  refine ⟨K209, hS209.ofN, hM209, ?_⟩
  have hE209 := hE203.andN hS209
  have hR213 := ((hR183.extN hS193).extN hS199)
  have hR214 := (hR213.ext hS203 (fun g hg hx => (Own.ne_type hR213 hO199 (by decide)) g hg hx))
  have hR215 := ((hR185.extN hS193).extN hS199)
  have hR216 := (hR215.ext hS203 (fun g hg hx => (Own.ne_type hR215 hO199 (by decide)) g hg hx))
  have hR217 := (hR205.extN hS209)
  have hR218 := ((hR183.extN hS193).extN hS199)
  have hR219 := ((hR218.ext hS203 (fun g hg hx => (Own.ne_type hR218 hO199 (by decide)) g hg hx)).extN hS209)
  have hR220 := ((hR185.extN hS193).extN hS199)
  have hR221 := ((hR220.ext hS203 (fun g hg hx => (Own.ne_type hR220 hO199 (by decide)) g hg hx)).extN hS209)
  have hR222 := (hR197.extN hS199)
  have hR223 := ((hR222.ext hS203 (fun hx => (hO199.box hR222) hx)).extN hS209)
  have hR224 := (hR198.extN hS199)
  have hR225 := ((hR224.ext hS203 (fun hx => (hO199.box hR224) hx)).extN hS209)
  have hR226 := (hR207.extN hS209)
  have hR227 := ((hO177.extN hS193).extN hS199)
  have hR228 := ((hR227.ext hS203 (fun g hg hx => (Own.ne_type hR227 hO199 (by decide)) g hg hx)).extN hS209)
  have hR229 := (hR210.extN hS209)
  have hR230 := (hR211.extN hS209)
  obtain ⟨hp232, h⟩ := h
  refine WO_eff rfl (gN rfl) rfl (St_call (R_call Try.call26 rfl) ((Preimage_c hM209 (int_V (show (Kd.int .i64).wf 2 from by constructor <;> decide)) hO209.V hp232).mono ?_))
  rintro _ w231 ⟨K231, v231_0, rfl, hS231, hM231, hO231_0, hg231_0⟩
  refine ⟨v231_0, rfl, ?_⟩
  refine ⟨K231, hS231.ofN, hM231, ?_⟩
  have hE231 := hE209.andN hS231
  have h := h hO231_0.wf
  refine WO_held hM231 (S_b2s rfl hO231_0.V Try.underlying39 Try.underlying9 Try.underlying5) rfl (gN rfl) rfl ?_
  refine WO_pure (.bool (decide ((preimage 2 [([] : List UInt8), [(toB 97), (toB 98)]]) = [2, 0, 1, 2, 97, 98]))) rfl l3 hM231 (fun _ => R_seql rfl rfl Try.underlying9) rfl (gN rfl) rfl ?_
  refine WO_pure (.bool (decide ((preimage 2 [([] : List UInt8), [(toB 97), (toB 98)]]) = [2, 0, 1, 2, 97, 98]))) rfl l3 hM231 (fun _ => R_mv rfl) rfl (gN rfl) rfl ?_
  refine WO_meet (al := false) (l1 := [.o 7 3, .o 8 3, .o 9 3, .o 10 3]) [59, 60, 61, 62] (fun c => w193.heap.size ≤ c) (fun l w K => l = [(62, (.bool (decide (((preimage 2 [([] : List UInt8), [(toB 97), (toB 98)]]) = [2, 0, 1, 2, 97, 98]) ∧ ((sealOf 1 [[(toB 97)]]) = (sealOf 1 [[(toB 97)]]))))))] ∧ Ext NX w231 K231 w K ∧ Models w K) ?_ ?_
  · rcases Classical.em ((preimage 2 [([] : List UInt8), [(toB 97), (toB 98)]]) = [2, 0, 1, 2, 97, 98]) with hp234 | hp234
    · skip
      have hR236 := (hR223.extN hS231)
      refine WO_L hM231 (S_ldB (Foc.id _) rfl ty23 hR236 (by first | rfl | simp | omega) (fun hx => absurd hR197.lt (Nat.not_lt.2 hx))) rfl (gY rfl rfl rfl (decide_eq_true hp234)) rfl ?_
      rintro v235 (hV235 : kd_a32_u8.V _ (sealOf 1 [[(toB 97)]]) _)
      have hR239 := (hR225.extN hS231)
      refine WO_L hM231 (S_ldB (Foc.id _) rfl ty23 hR239 (by first | rfl | simp | omega) (fun hx => absurd hR198.lt (Nat.not_lt.2 hx))) rfl (gY rfl rfl rfl (decide_eq_true hp234)) rfl ?_
      rintro v238 (hV238 : kd_a32_u8.V _ (sealOf 1 [[(toB 97)]]) _)
      refine WO_pure (.bool (decide ((sealOf 1 [[(toB 97)]]) = (sealOf 1 [[(toB 97)]])))) rfl l3 hM231 (fun _ => R_aeql rfl rfl hV235 hV238 Try.underlying23 Try.underlying5 ty5b (by kernel_rfl)) rfl (gY rfl rfl rfl (decide_eq_true hp234)) rfl ?_
      refine WO_pure (.bool (decide (((preimage 2 [([] : List UInt8), [(toB 97), (toB 98)]]) = [2, 0, 1, 2, 97, 98]) ∧ ((sealOf 1 [[(toB 97)]]) = (sealOf 1 [[(toB 97)]]))))) rfl l3 hM231 (fun _ => R_pick1 rfl (decide_eq_true hp234) rfl (and_T hp234)) rfl (gN rfl) rfl ?_
      exact WO_end [(62, (.bool (decide (((preimage 2 [([] : List UInt8), [(toB 97), (toB 98)]]) = [2, 0, 1, 2, 97, 98]) ∧ ((sealOf 1 [[(toB 97)]]) = (sealOf 1 [[(toB 97)]]))))))] K231 rfl ⟨rfl, (Ext.refl _ _ _), hM231⟩ (by repeat (first | exact Off.refl _ _ | refine Off.updO ?_ rfl _ | refine Off.updN ?_ _ | refine Off.lay ?_ rfl)) ⟨rfl, trivial⟩
    · skip
      refine WO_skip _ hM231 l3 rfl (gF rfl rfl rfl (decide_eq_false hp234)) rfl ?_
      refine WO_skip _ hM231 l3 rfl (gF rfl rfl rfl (decide_eq_false hp234)) rfl ?_
      refine WO_skip _ hM231 l3 rfl (gF rfl rfl rfl (decide_eq_false hp234)) rfl ?_
      refine WO_pure (.bool (decide (((preimage 2 [([] : List UInt8), [(toB 97), (toB 98)]]) = [2, 0, 1, 2, 97, 98]) ∧ ((sealOf 1 [[(toB 97)]]) = (sealOf 1 [[(toB 97)]]))))) rfl l3 hM231 (fun _ => R_pick2 rfl (decide_eq_false hp234) rfl (and_F hp234)) rfl (gN rfl) rfl ?_
      exact WO_end [(62, (.bool (decide (((preimage 2 [([] : List UInt8), [(toB 97), (toB 98)]]) = [2, 0, 1, 2, 97, 98]) ∧ ((sealOf 1 [[(toB 97)]]) = (sealOf 1 [[(toB 97)]]))))))] K231 rfl ⟨rfl, (Ext.refl _ _ _), hM231⟩ (by repeat (first | exact Off.refl _ _ | refine Off.updO ?_ rfl _ | refine Off.updN ?_ _ | refine Off.lay ?_ rfl)) ⟨rfl, trivial⟩
  rintro l σ241 w241 K241 ⟨rfl, hS241, hM241⟩
  have hE241 := hE231.andN hS241
  refine WO_pure (.bool (decide (((preimage 2 [([] : List UInt8), [(toB 97), (toB 98)]]) = [2, 0, 1, 2, 97, 98]) ∧ ((sealOf 1 [[(toB 97)]]) = (sealOf 1 [[(toB 97)]]))))) rfl l3 hM241 (fun _ => R_mv rfl) rfl (gN rfl) rfl ?_
  refine WO_meet (al := false) (l1 := [.o 12 3, .o 13 1, .o 14 3, .o 15 3]) [64, 65, 66, 67] (fun c => w193.heap.size ≤ c) (fun l w K => l = [(67, (.bool (decide ((((preimage 2 [([] : List UInt8), [(toB 97), (toB 98)]]) = [2, 0, 1, 2, 97, 98]) ∧ ((sealOf 1 [[(toB 97)]]) = (sealOf 1 [[(toB 97)]]))) ∧ ((bookCalls (bookOf (bookOf (some ([], 0)) 1 [[(toB 97)]]) 1 [[(toB 97)]])) = 2)))))] ∧ Ext NX w241 K241 w K ∧ Models w K) ?_ ?_
  · rcases Classical.em (((preimage 2 [([] : List UInt8), [(toB 97), (toB 98)]]) = [2, 0, 1, 2, 97, 98]) ∧ ((sealOf 1 [[(toB 97)]]) = (sealOf 1 [[(toB 97)]]))) with hp242 | hp242
    · skip
      refine WO_pure (.pointer (some ⟨b3, 0, none⟩)) rfl l3 hM241 (fun _ => R_mv rfl) rfl (gY rfl rfl rfl (decide_eq_true hp242)) rfl ?_
      have hR243 := ((hR217.extN hS231).extN hS241)
      have hR244 := ((hR219.extN hS231).extN hS241)
      have hR245 := ((hR221.extN hS231).extN hS241)
      have hR246 := ((hR223.extN hS231).extN hS241)
      have hR247 := ((hR225.extN hS231).extN hS241)
      have hR248 := ((hR226.extN hS231).extN hS241)
      have hR249 := ((hR228.extN hS231).extN hS241)
      have hR250 := ((hR229.extN hS231).extN hS241)
      have hR251 := ((hR230.extN hS231).extN hS241)
      have hR252 := ((hO209.extN hS231).extN hS241)
      have hR253 := (hO231_0.extN hS241)
      refine WO_eff rfl (gY rfl rfl rfl (decide_eq_true hp242)) rfl (St_call (R_call Try.call23 rfl) ((CallsO_c hM241 hR243).mono ?_))
      rintro _ w254 ⟨K254, v254_0, rfl, hS254, hM254, hV254_0⟩
      refine ⟨v254_0, rfl, ?_⟩
      refine ⟨K254, hS254.ofN, hM254, ?_⟩
      have hE254 := hE241.andN hS254
      obtain rfl := int_form hV254_0
      refine WO_pure (.bool (decide ((bookCalls (bookOf (bookOf (some ([], 0)) 1 [[(toB 97)]]) 1 [[(toB 97)]])) = 2))) rfl l3 hM254 (fun _ => R_eql rfl rfl) rfl (gY rfl rfl rfl (decide_eq_true hp242)) rfl ?_
      refine WO_pure (.bool (decide ((((preimage 2 [([] : List UInt8), [(toB 97), (toB 98)]]) = [2, 0, 1, 2, 97, 98]) ∧ ((sealOf 1 [[(toB 97)]]) = (sealOf 1 [[(toB 97)]]))) ∧ ((bookCalls (bookOf (bookOf (some ([], 0)) 1 [[(toB 97)]]) 1 [[(toB 97)]])) = 2)))) rfl l3 hM254 (fun _ => R_pick1 rfl (decide_eq_true hp242) rfl (and_T hp242)) rfl (gN rfl) rfl ?_
      exact WO_end [(67, (.bool (decide ((((preimage 2 [([] : List UInt8), [(toB 97), (toB 98)]]) = [2, 0, 1, 2, 97, 98]) ∧ ((sealOf 1 [[(toB 97)]]) = (sealOf 1 [[(toB 97)]]))) ∧ ((bookCalls (bookOf (bookOf (some ([], 0)) 1 [[(toB 97)]]) 1 [[(toB 97)]])) = 2)))))] K254 rfl ⟨rfl, ((Ext.refl _ _ _).andN hS254), hM254⟩ (by repeat (first | exact Off.refl _ _ | refine Off.updO ?_ rfl _ | refine Off.updN ?_ _ | refine Off.lay ?_ rfl)) ⟨rfl, trivial⟩
    · skip
      refine WO_skip _ hM241 l3 rfl (gF rfl rfl rfl (decide_eq_false hp242)) rfl ?_
      refine WO_skip _ hM241 l1 rfl (gF rfl rfl rfl (decide_eq_false hp242)) rfl ?_
      refine WO_skip _ hM241 l3 rfl (gF rfl rfl rfl (decide_eq_false hp242)) rfl ?_
      refine WO_pure (.bool (decide ((((preimage 2 [([] : List UInt8), [(toB 97), (toB 98)]]) = [2, 0, 1, 2, 97, 98]) ∧ ((sealOf 1 [[(toB 97)]]) = (sealOf 1 [[(toB 97)]]))) ∧ ((bookCalls (bookOf (bookOf (some ([], 0)) 1 [[(toB 97)]]) 1 [[(toB 97)]])) = 2)))) rfl l3 hM241 (fun _ => R_pick2 rfl (decide_eq_false hp242) rfl (and_F hp242)) rfl (gN rfl) rfl ?_
      exact WO_end [(67, (.bool (decide ((((preimage 2 [([] : List UInt8), [(toB 97), (toB 98)]]) = [2, 0, 1, 2, 97, 98]) ∧ ((sealOf 1 [[(toB 97)]]) = (sealOf 1 [[(toB 97)]]))) ∧ ((bookCalls (bookOf (bookOf (some ([], 0)) 1 [[(toB 97)]]) 1 [[(toB 97)]])) = 2)))))] K241 rfl ⟨rfl, (Ext.refl _ _ _), hM241⟩ (by repeat (first | exact Off.refl _ _ | refine Off.updO ?_ rfl _ | refine Off.updN ?_ _ | refine Off.lay ?_ rfl)) ⟨rfl, trivial⟩
  rintro l σ255 w255 K255 ⟨rfl, hS255, hM255⟩
  have hE255 := hE241.andN hS255
  refine WO_pure (.bool (decide ((((preimage 2 [([] : List UInt8), [(toB 97), (toB 98)]]) = [2, 0, 1, 2, 97, 98]) ∧ ((sealOf 1 [[(toB 97)]]) = (sealOf 1 [[(toB 97)]]))) ∧ ((bookCalls (bookOf (bookOf (some ([], 0)) 1 [[(toB 97)]]) 1 [[(toB 97)]])) = 2)))) rfl l3 hM255 (fun _ => R_mv rfl) rfl (gN rfl) rfl ?_
  obtain ⟨hq256, h⟩ := h
  refine WO_meet (al := false) (l1 := [.o 17 3, .o 18 1, .o 19 3, .o 20 3, .o 21 3]) [69, 70, 71, 72, 73] (fun c => w193.heap.size ≤ c) (fun l w K => l = [(73, (.bool (decide (((((preimage 2 [([] : List UInt8), [(toB 97), (toB 98)]]) = [2, 0, 1, 2, 97, 98]) ∧ ((sealOf 1 [[(toB 97)]]) = (sealOf 1 [[(toB 97)]]))) ∧ ((bookCalls (bookOf (bookOf (some ([], 0)) 1 [[(toB 97)]]) 1 [[(toB 97)]])) = 2)) ∧ (((bookAll (bookOf (bookOf (some ([], 0)) 1 [[(toB 97)]]) 1 [[(toB 97)]])).length : Int) = 1)))))] ∧ Ext NX w255 K255 w K ∧ Models w K) ?_ ?_
  · rcases Classical.em ((((preimage 2 [([] : List UInt8), [(toB 97), (toB 98)]]) = [2, 0, 1, 2, 97, 98]) ∧ ((sealOf 1 [[(toB 97)]]) = (sealOf 1 [[(toB 97)]]))) ∧ ((bookCalls (bookOf (bookOf (some ([], 0)) 1 [[(toB 97)]]) 1 [[(toB 97)]])) = 2)) with hp256 | hp256
    · skip
      have h := hq256 hp256
      refine WO_pure (.pointer (some ⟨b3, 0, none⟩)) rfl l3 hM255 (fun _ => R_mv rfl) rfl (gY rfl rfl rfl (decide_eq_true hp256)) rfl ?_
      have hR257 := (((hR217.extN hS231).extN hS241).extN hS255)
      have hR258 := (((hR219.extN hS231).extN hS241).extN hS255)
      have hR259 := (((hR221.extN hS231).extN hS241).extN hS255)
      have hR260 := (((hR223.extN hS231).extN hS241).extN hS255)
      have hR261 := (((hR225.extN hS231).extN hS241).extN hS255)
      have hR262 := (((hR226.extN hS231).extN hS241).extN hS255)
      have hR263 := (((hR228.extN hS231).extN hS241).extN hS255)
      have hR264 := (((hR229.extN hS231).extN hS241).extN hS255)
      have hR265 := (((hR230.extN hS231).extN hS241).extN hS255)
      have hR266 := (((hO209.extN hS231).extN hS241).extN hS255)
      have hR267 := ((hO231_0.extN hS241).extN hS255)
      obtain ⟨hp269, h⟩ := h
      refine WO_eff rfl (gY rfl rfl rfl (decide_eq_true hp256)) rfl (St_call (R_call Try.call24 rfl) ((AllO_c hM255 hR257 hp269).mono ?_))
      rintro _ w268 ⟨K268, v268_0, rfl, hS268, hM268, hO268_0, hg268_0⟩
      refine ⟨v268_0, rfl, ?_⟩
      refine ⟨K268, hS268.ofN, hM268, ?_⟩
      have hE268 := hE255.andN hS268
      have h := h hO268_0.wf
      refine WO_pure (.int .i64 ((bookAll (bookOf (bookOf (some ([], 0)) 1 [[(toB 97)]]) 1 [[(toB 97)]])).length : Int)) rfl l3 hM268 (fun _ => R_len rfl hO268_0.V Try.underlying38) rfl (gY rfl rfl rfl (decide_eq_true hp256)) rfl ?_
      refine WO_pure (.bool (decide (((bookAll (bookOf (bookOf (some ([], 0)) 1 [[(toB 97)]]) 1 [[(toB 97)]])).length : Int) = 1))) rfl l3 hM268 (fun _ => R_eql rfl rfl) rfl (gY rfl rfl rfl (decide_eq_true hp256)) rfl ?_
      refine WO_pure (.bool (decide (((((preimage 2 [([] : List UInt8), [(toB 97), (toB 98)]]) = [2, 0, 1, 2, 97, 98]) ∧ ((sealOf 1 [[(toB 97)]]) = (sealOf 1 [[(toB 97)]]))) ∧ ((bookCalls (bookOf (bookOf (some ([], 0)) 1 [[(toB 97)]]) 1 [[(toB 97)]])) = 2)) ∧ (((bookAll (bookOf (bookOf (some ([], 0)) 1 [[(toB 97)]]) 1 [[(toB 97)]])).length : Int) = 1)))) rfl l3 hM268 (fun _ => R_pick1 rfl (decide_eq_true hp256) rfl (and_T hp256)) rfl (gN rfl) rfl ?_
      exact WO_end [(73, (.bool (decide (((((preimage 2 [([] : List UInt8), [(toB 97), (toB 98)]]) = [2, 0, 1, 2, 97, 98]) ∧ ((sealOf 1 [[(toB 97)]]) = (sealOf 1 [[(toB 97)]]))) ∧ ((bookCalls (bookOf (bookOf (some ([], 0)) 1 [[(toB 97)]]) 1 [[(toB 97)]])) = 2)) ∧ (((bookAll (bookOf (bookOf (some ([], 0)) 1 [[(toB 97)]]) 1 [[(toB 97)]])).length : Int) = 1)))))] K268 rfl ⟨rfl, ((Ext.refl _ _ _).andN hS268), hM268⟩ (by repeat (first | exact Off.refl _ _ | refine Off.updO ?_ rfl _ | refine Off.updN ?_ _ | refine Off.lay ?_ rfl)) ⟨rfl, trivial⟩
    · skip
      refine WO_skip _ hM255 l3 rfl (gF rfl rfl rfl (decide_eq_false hp256)) rfl ?_
      refine WO_skip _ hM255 l1 rfl (gF rfl rfl rfl (decide_eq_false hp256)) rfl ?_
      refine WO_skip _ hM255 l3 rfl (gF rfl rfl rfl (decide_eq_false hp256)) rfl ?_
      refine WO_skip _ hM255 l3 rfl (gF rfl rfl rfl (decide_eq_false hp256)) rfl ?_
      refine WO_pure (.bool (decide (((((preimage 2 [([] : List UInt8), [(toB 97), (toB 98)]]) = [2, 0, 1, 2, 97, 98]) ∧ ((sealOf 1 [[(toB 97)]]) = (sealOf 1 [[(toB 97)]]))) ∧ ((bookCalls (bookOf (bookOf (some ([], 0)) 1 [[(toB 97)]]) 1 [[(toB 97)]])) = 2)) ∧ (((bookAll (bookOf (bookOf (some ([], 0)) 1 [[(toB 97)]]) 1 [[(toB 97)]])).length : Int) = 1)))) rfl l3 hM255 (fun _ => R_pick2 rfl (decide_eq_false hp256) rfl (and_F hp256)) rfl (gN rfl) rfl ?_
      exact WO_end [(73, (.bool (decide (((((preimage 2 [([] : List UInt8), [(toB 97), (toB 98)]]) = [2, 0, 1, 2, 97, 98]) ∧ ((sealOf 1 [[(toB 97)]]) = (sealOf 1 [[(toB 97)]]))) ∧ ((bookCalls (bookOf (bookOf (some ([], 0)) 1 [[(toB 97)]]) 1 [[(toB 97)]])) = 2)) ∧ (((bookAll (bookOf (bookOf (some ([], 0)) 1 [[(toB 97)]]) 1 [[(toB 97)]])).length : Int) = 1)))))] K255 rfl ⟨rfl, (Ext.refl _ _ _), hM255⟩ (by repeat (first | exact Off.refl _ _ | refine Off.updO ?_ rfl _ | refine Off.updN ?_ _ | refine Off.lay ?_ rfl)) ⟨rfl, trivial⟩
  rintro l σ271 w271 K271 ⟨rfl, hS271, hM271⟩
  have hE271 := hE255.andN hS271
  refine WO_pure (.bool (decide (((((preimage 2 [([] : List UInt8), [(toB 97), (toB 98)]]) = [2, 0, 1, 2, 97, 98]) ∧ ((sealOf 1 [[(toB 97)]]) = (sealOf 1 [[(toB 97)]]))) ∧ ((bookCalls (bookOf (bookOf (some ([], 0)) 1 [[(toB 97)]]) 1 [[(toB 97)]])) = 2)) ∧ (((bookAll (bookOf (bookOf (some ([], 0)) 1 [[(toB 97)]]) 1 [[(toB 97)]])).length : Int) = 1)))) rfl l3 hM271 (fun _ => R_mv rfl) rfl (gN rfl) rfl ?_
  refine WO_meet (al := false) (l1 := [.o 23 3, .o 24 3, .o 25 3, .o 26 3]) [75, 76, 77, 78] (fun c => w193.heap.size ≤ c) (fun l w K => l = [(78, (.bool (decide ((((((preimage 2 [([] : List UInt8), [(toB 97), (toB 98)]]) = [2, 0, 1, 2, 97, 98]) ∧ ((sealOf 1 [[(toB 97)]]) = (sealOf 1 [[(toB 97)]]))) ∧ ((bookCalls (bookOf (bookOf (some ([], 0)) 1 [[(toB 97)]]) 1 [[(toB 97)]])) = 2)) ∧ (((bookAll (bookOf (bookOf (some ([], 0)) 1 [[(toB 97)]]) 1 [[(toB 97)]])).length : Int) = 1)) ∧ ((bookFind (bookNote (bookNote (bookNote (some ([], 0)) (sealOf 1 [[(toB 97)]]) [(toB 97)]) (sealOf 1 [[(toB 97)]]) [(toB 98)]) (sealOf 1 [[(toB 97)]]) [(toB 97)]) (sealOf 1 [[(toB 97)]])) = [97])))))] ∧ Ext NX w271 K271 w K ∧ Models w K) ?_ ?_
  · rcases Classical.em (((((preimage 2 [([] : List UInt8), [(toB 97), (toB 98)]]) = [2, 0, 1, 2, 97, 98]) ∧ ((sealOf 1 [[(toB 97)]]) = (sealOf 1 [[(toB 97)]]))) ∧ ((bookCalls (bookOf (bookOf (some ([], 0)) 1 [[(toB 97)]]) 1 [[(toB 97)]])) = 2)) ∧ (((bookAll (bookOf (bookOf (some ([], 0)) 1 [[(toB 97)]]) 1 [[(toB 97)]])).length : Int) = 1)) with hp272 | hp272
    · skip
      refine WO_pure v174_0 rfl l3 hM271 (fun _ => R_mv rfl) rfl (gY rfl rfl rfl (decide_eq_true hp272)) rfl ?_
      refine WO_held hM271 (S_b2s rfl (hR226.V.mono (hS231.le.trans (hS241.le.trans (hS255.le.trans hS271.le)))) Try.underlying39 Try.underlying9 Try.underlying5) rfl (gY rfl rfl rfl (decide_eq_true hp272)) rfl ?_
      refine WO_pure (.bool (decide ((bookFind (bookNote (bookNote (bookNote (some ([], 0)) (sealOf 1 [[(toB 97)]]) [(toB 97)]) (sealOf 1 [[(toB 97)]]) [(toB 98)]) (sealOf 1 [[(toB 97)]]) [(toB 97)]) (sealOf 1 [[(toB 97)]])) = [97]))) rfl l3 hM271 (fun _ => R_seql rfl rfl Try.underlying9) rfl (gY rfl rfl rfl (decide_eq_true hp272)) rfl ?_
      refine WO_pure (.bool (decide ((((((preimage 2 [([] : List UInt8), [(toB 97), (toB 98)]]) = [2, 0, 1, 2, 97, 98]) ∧ ((sealOf 1 [[(toB 97)]]) = (sealOf 1 [[(toB 97)]]))) ∧ ((bookCalls (bookOf (bookOf (some ([], 0)) 1 [[(toB 97)]]) 1 [[(toB 97)]])) = 2)) ∧ (((bookAll (bookOf (bookOf (some ([], 0)) 1 [[(toB 97)]]) 1 [[(toB 97)]])).length : Int) = 1)) ∧ ((bookFind (bookNote (bookNote (bookNote (some ([], 0)) (sealOf 1 [[(toB 97)]]) [(toB 97)]) (sealOf 1 [[(toB 97)]]) [(toB 98)]) (sealOf 1 [[(toB 97)]]) [(toB 97)]) (sealOf 1 [[(toB 97)]])) = [97])))) rfl l3 hM271 (fun _ => R_pick1 rfl (decide_eq_true hp272) rfl (and_T hp272)) rfl (gN rfl) rfl ?_
      exact WO_end [(78, (.bool (decide ((((((preimage 2 [([] : List UInt8), [(toB 97), (toB 98)]]) = [2, 0, 1, 2, 97, 98]) ∧ ((sealOf 1 [[(toB 97)]]) = (sealOf 1 [[(toB 97)]]))) ∧ ((bookCalls (bookOf (bookOf (some ([], 0)) 1 [[(toB 97)]]) 1 [[(toB 97)]])) = 2)) ∧ (((bookAll (bookOf (bookOf (some ([], 0)) 1 [[(toB 97)]]) 1 [[(toB 97)]])).length : Int) = 1)) ∧ ((bookFind (bookNote (bookNote (bookNote (some ([], 0)) (sealOf 1 [[(toB 97)]]) [(toB 97)]) (sealOf 1 [[(toB 97)]]) [(toB 98)]) (sealOf 1 [[(toB 97)]]) [(toB 97)]) (sealOf 1 [[(toB 97)]])) = [97])))))] K271 rfl ⟨rfl, (Ext.refl _ _ _), hM271⟩ (by repeat (first | exact Off.refl _ _ | refine Off.updO ?_ rfl _ | refine Off.updN ?_ _ | refine Off.lay ?_ rfl)) ⟨rfl, trivial⟩
    · skip
      refine WO_skip _ hM271 l3 rfl (gF rfl rfl rfl (decide_eq_false hp272)) rfl ?_
      refine WO_skip _ hM271 l3 rfl (gF rfl rfl rfl (decide_eq_false hp272)) rfl ?_
      refine WO_skip _ hM271 l3 rfl (gF rfl rfl rfl (decide_eq_false hp272)) rfl ?_
      refine WO_pure (.bool (decide ((((((preimage 2 [([] : List UInt8), [(toB 97), (toB 98)]]) = [2, 0, 1, 2, 97, 98]) ∧ ((sealOf 1 [[(toB 97)]]) = (sealOf 1 [[(toB 97)]]))) ∧ ((bookCalls (bookOf (bookOf (some ([], 0)) 1 [[(toB 97)]]) 1 [[(toB 97)]])) = 2)) ∧ (((bookAll (bookOf (bookOf (some ([], 0)) 1 [[(toB 97)]]) 1 [[(toB 97)]])).length : Int) = 1)) ∧ ((bookFind (bookNote (bookNote (bookNote (some ([], 0)) (sealOf 1 [[(toB 97)]]) [(toB 97)]) (sealOf 1 [[(toB 97)]]) [(toB 98)]) (sealOf 1 [[(toB 97)]]) [(toB 97)]) (sealOf 1 [[(toB 97)]])) = [97])))) rfl l3 hM271 (fun _ => R_pick2 rfl (decide_eq_false hp272) rfl (and_F hp272)) rfl (gN rfl) rfl ?_
      exact WO_end [(78, (.bool (decide ((((((preimage 2 [([] : List UInt8), [(toB 97), (toB 98)]]) = [2, 0, 1, 2, 97, 98]) ∧ ((sealOf 1 [[(toB 97)]]) = (sealOf 1 [[(toB 97)]]))) ∧ ((bookCalls (bookOf (bookOf (some ([], 0)) 1 [[(toB 97)]]) 1 [[(toB 97)]])) = 2)) ∧ (((bookAll (bookOf (bookOf (some ([], 0)) 1 [[(toB 97)]]) 1 [[(toB 97)]])).length : Int) = 1)) ∧ ((bookFind (bookNote (bookNote (bookNote (some ([], 0)) (sealOf 1 [[(toB 97)]]) [(toB 97)]) (sealOf 1 [[(toB 97)]]) [(toB 98)]) (sealOf 1 [[(toB 97)]]) [(toB 97)]) (sealOf 1 [[(toB 97)]])) = [97])))))] K271 rfl ⟨rfl, (Ext.refl _ _ _), hM271⟩ (by repeat (first | exact Off.refl _ _ | refine Off.updO ?_ rfl _ | refine Off.updN ?_ _ | refine Off.lay ?_ rfl)) ⟨rfl, trivial⟩
  rintro l σ273 w273 K273 ⟨rfl, hS273, hM273⟩
  have hE273 := hE271.andN hS273
  refine WO_pure (.bool (decide ((((((preimage 2 [([] : List UInt8), [(toB 97), (toB 98)]]) = [2, 0, 1, 2, 97, 98]) ∧ ((sealOf 1 [[(toB 97)]]) = (sealOf 1 [[(toB 97)]]))) ∧ ((bookCalls (bookOf (bookOf (some ([], 0)) 1 [[(toB 97)]]) 1 [[(toB 97)]])) = 2)) ∧ (((bookAll (bookOf (bookOf (some ([], 0)) 1 [[(toB 97)]]) 1 [[(toB 97)]])).length : Int) = 1)) ∧ ((bookFind (bookNote (bookNote (bookNote (some ([], 0)) (sealOf 1 [[(toB 97)]]) [(toB 97)]) (sealOf 1 [[(toB 97)]]) [(toB 98)]) (sealOf 1 [[(toB 97)]]) [(toB 97)]) (sealOf 1 [[(toB 97)]])) = [97])))) rfl l3 hM273 (fun _ => R_mv rfl) rfl (gN rfl) rfl ?_
  refine WO_meet (al := false) (l1 := [.o 28 3, .o 29 3]) [80, 81] (fun c => w193.heap.size ≤ c) (fun l w K => l = [(81, (.bool (decide (((((((preimage 2 [([] : List UInt8), [(toB 97), (toB 98)]]) = [2, 0, 1, 2, 97, 98]) ∧ ((sealOf 1 [[(toB 97)]]) = (sealOf 1 [[(toB 97)]]))) ∧ ((bookCalls (bookOf (bookOf (some ([], 0)) 1 [[(toB 97)]]) 1 [[(toB 97)]])) = 2)) ∧ (((bookAll (bookOf (bookOf (some ([], 0)) 1 [[(toB 97)]]) 1 [[(toB 97)]])).length : Int) = 1)) ∧ ((bookFind (bookNote (bookNote (bookNote (some ([], 0)) (sealOf 1 [[(toB 97)]]) [(toB 97)]) (sealOf 1 [[(toB 97)]]) [(toB 98)]) (sealOf 1 [[(toB 97)]]) [(toB 97)]) (sealOf 1 [[(toB 97)]])) = [97])) ∧ ((bookHas (bookNote (bookNote (bookNote (some ([], 0)) (sealOf 1 [[(toB 97)]]) [(toB 97)]) (sealOf 1 [[(toB 97)]]) [(toB 98)]) (sealOf 1 [[(toB 97)]]) [(toB 97)]) (sealOf 1 [[(toB 97)]])) = true)))))] ∧ Ext NX w273 K273 w K ∧ Models w K) ?_ ?_
  · rcases Classical.em ((((((preimage 2 [([] : List UInt8), [(toB 97), (toB 98)]]) = [2, 0, 1, 2, 97, 98]) ∧ ((sealOf 1 [[(toB 97)]]) = (sealOf 1 [[(toB 97)]]))) ∧ ((bookCalls (bookOf (bookOf (some ([], 0)) 1 [[(toB 97)]]) 1 [[(toB 97)]])) = 2)) ∧ (((bookAll (bookOf (bookOf (some ([], 0)) 1 [[(toB 97)]]) 1 [[(toB 97)]])).length : Int) = 1)) ∧ ((bookFind (bookNote (bookNote (bookNote (some ([], 0)) (sealOf 1 [[(toB 97)]]) [(toB 97)]) (sealOf 1 [[(toB 97)]]) [(toB 98)]) (sealOf 1 [[(toB 97)]]) [(toB 97)]) (sealOf 1 [[(toB 97)]])) = [97])) with hp274 | hp274
    · skip
      refine WO_pure (.bool (bookHas (bookNote (bookNote (bookNote (some ([], 0)) (sealOf 1 [[(toB 97)]]) [(toB 97)]) (sealOf 1 [[(toB 97)]]) [(toB 98)]) (sealOf 1 [[(toB 97)]]) [(toB 97)]) (sealOf 1 [[(toB 97)]]))) rfl l3 hM273 (fun _ => R_mv rfl) rfl (gY rfl rfl rfl (decide_eq_true hp274)) rfl ?_
      refine WO_pure (.bool (decide (((((((preimage 2 [([] : List UInt8), [(toB 97), (toB 98)]]) = [2, 0, 1, 2, 97, 98]) ∧ ((sealOf 1 [[(toB 97)]]) = (sealOf 1 [[(toB 97)]]))) ∧ ((bookCalls (bookOf (bookOf (some ([], 0)) 1 [[(toB 97)]]) 1 [[(toB 97)]])) = 2)) ∧ (((bookAll (bookOf (bookOf (some ([], 0)) 1 [[(toB 97)]]) 1 [[(toB 97)]])).length : Int) = 1)) ∧ ((bookFind (bookNote (bookNote (bookNote (some ([], 0)) (sealOf 1 [[(toB 97)]]) [(toB 97)]) (sealOf 1 [[(toB 97)]]) [(toB 98)]) (sealOf 1 [[(toB 97)]]) [(toB 97)]) (sealOf 1 [[(toB 97)]])) = [97])) ∧ ((bookHas (bookNote (bookNote (bookNote (some ([], 0)) (sealOf 1 [[(toB 97)]]) [(toB 97)]) (sealOf 1 [[(toB 97)]]) [(toB 98)]) (sealOf 1 [[(toB 97)]]) [(toB 97)]) (sealOf 1 [[(toB 97)]])) = true)))) rfl l3 hM273 (fun _ => R_pick1 rfl (decide_eq_true hp274) rfl (and_T' hp274)) rfl (gN rfl) rfl ?_
      exact WO_end [(81, (.bool (decide (((((((preimage 2 [([] : List UInt8), [(toB 97), (toB 98)]]) = [2, 0, 1, 2, 97, 98]) ∧ ((sealOf 1 [[(toB 97)]]) = (sealOf 1 [[(toB 97)]]))) ∧ ((bookCalls (bookOf (bookOf (some ([], 0)) 1 [[(toB 97)]]) 1 [[(toB 97)]])) = 2)) ∧ (((bookAll (bookOf (bookOf (some ([], 0)) 1 [[(toB 97)]]) 1 [[(toB 97)]])).length : Int) = 1)) ∧ ((bookFind (bookNote (bookNote (bookNote (some ([], 0)) (sealOf 1 [[(toB 97)]]) [(toB 97)]) (sealOf 1 [[(toB 97)]]) [(toB 98)]) (sealOf 1 [[(toB 97)]]) [(toB 97)]) (sealOf 1 [[(toB 97)]])) = [97])) ∧ ((bookHas (bookNote (bookNote (bookNote (some ([], 0)) (sealOf 1 [[(toB 97)]]) [(toB 97)]) (sealOf 1 [[(toB 97)]]) [(toB 98)]) (sealOf 1 [[(toB 97)]]) [(toB 97)]) (sealOf 1 [[(toB 97)]])) = true)))))] K273 rfl ⟨rfl, (Ext.refl _ _ _), hM273⟩ (by repeat (first | exact Off.refl _ _ | refine Off.updO ?_ rfl _ | refine Off.updN ?_ _ | refine Off.lay ?_ rfl)) ⟨rfl, trivial⟩
    · skip
      refine WO_skip _ hM273 l3 rfl (gF rfl rfl rfl (decide_eq_false hp274)) rfl ?_
      refine WO_pure (.bool (decide (((((((preimage 2 [([] : List UInt8), [(toB 97), (toB 98)]]) = [2, 0, 1, 2, 97, 98]) ∧ ((sealOf 1 [[(toB 97)]]) = (sealOf 1 [[(toB 97)]]))) ∧ ((bookCalls (bookOf (bookOf (some ([], 0)) 1 [[(toB 97)]]) 1 [[(toB 97)]])) = 2)) ∧ (((bookAll (bookOf (bookOf (some ([], 0)) 1 [[(toB 97)]]) 1 [[(toB 97)]])).length : Int) = 1)) ∧ ((bookFind (bookNote (bookNote (bookNote (some ([], 0)) (sealOf 1 [[(toB 97)]]) [(toB 97)]) (sealOf 1 [[(toB 97)]]) [(toB 98)]) (sealOf 1 [[(toB 97)]]) [(toB 97)]) (sealOf 1 [[(toB 97)]])) = [97])) ∧ ((bookHas (bookNote (bookNote (bookNote (some ([], 0)) (sealOf 1 [[(toB 97)]]) [(toB 97)]) (sealOf 1 [[(toB 97)]]) [(toB 98)]) (sealOf 1 [[(toB 97)]]) [(toB 97)]) (sealOf 1 [[(toB 97)]])) = true)))) rfl l3 hM273 (fun _ => R_pick2 rfl (decide_eq_false hp274) rfl (and_F hp274)) rfl (gN rfl) rfl ?_
      exact WO_end [(81, (.bool (decide (((((((preimage 2 [([] : List UInt8), [(toB 97), (toB 98)]]) = [2, 0, 1, 2, 97, 98]) ∧ ((sealOf 1 [[(toB 97)]]) = (sealOf 1 [[(toB 97)]]))) ∧ ((bookCalls (bookOf (bookOf (some ([], 0)) 1 [[(toB 97)]]) 1 [[(toB 97)]])) = 2)) ∧ (((bookAll (bookOf (bookOf (some ([], 0)) 1 [[(toB 97)]]) 1 [[(toB 97)]])).length : Int) = 1)) ∧ ((bookFind (bookNote (bookNote (bookNote (some ([], 0)) (sealOf 1 [[(toB 97)]]) [(toB 97)]) (sealOf 1 [[(toB 97)]]) [(toB 98)]) (sealOf 1 [[(toB 97)]]) [(toB 97)]) (sealOf 1 [[(toB 97)]])) = [97])) ∧ ((bookHas (bookNote (bookNote (bookNote (some ([], 0)) (sealOf 1 [[(toB 97)]]) [(toB 97)]) (sealOf 1 [[(toB 97)]]) [(toB 98)]) (sealOf 1 [[(toB 97)]]) [(toB 97)]) (sealOf 1 [[(toB 97)]])) = true)))))] K273 rfl ⟨rfl, (Ext.refl _ _ _), hM273⟩ (by repeat (first | exact Off.refl _ _ | refine Off.updO ?_ rfl _ | refine Off.updN ?_ _ | refine Off.lay ?_ rfl)) ⟨rfl, trivial⟩
  rintro l σ275 w275 K275 ⟨rfl, hS275, hM275⟩
  have hE275 := hE273.andN hS275
  refine WO_pure (.bool (decide (((((((preimage 2 [([] : List UInt8), [(toB 97), (toB 98)]]) = [2, 0, 1, 2, 97, 98]) ∧ ((sealOf 1 [[(toB 97)]]) = (sealOf 1 [[(toB 97)]]))) ∧ ((bookCalls (bookOf (bookOf (some ([], 0)) 1 [[(toB 97)]]) 1 [[(toB 97)]])) = 2)) ∧ (((bookAll (bookOf (bookOf (some ([], 0)) 1 [[(toB 97)]]) 1 [[(toB 97)]])).length : Int) = 1)) ∧ ((bookFind (bookNote (bookNote (bookNote (some ([], 0)) (sealOf 1 [[(toB 97)]]) [(toB 97)]) (sealOf 1 [[(toB 97)]]) [(toB 98)]) (sealOf 1 [[(toB 97)]]) [(toB 97)]) (sealOf 1 [[(toB 97)]])) = [97])) ∧ ((bookHas (bookNote (bookNote (bookNote (some ([], 0)) (sealOf 1 [[(toB 97)]]) [(toB 97)]) (sealOf 1 [[(toB 97)]]) [(toB 98)]) (sealOf 1 [[(toB 97)]]) [(toB 97)]) (sealOf 1 [[(toB 97)]])) = true)))) rfl l3 hM275 (fun _ => R_mv rfl) rfl (gN rfl) rfl ?_
  refine WO_meet (al := false) (l1 := [.o 31 3, .o 32 3, .o 33 3, .o 34 3]) [83, 84, 85, 86] (fun c => w193.heap.size ≤ c) (fun l w K => l = [(86, (.bool (decide ((((((((preimage 2 [([] : List UInt8), [(toB 97), (toB 98)]]) = [2, 0, 1, 2, 97, 98]) ∧ ((sealOf 1 [[(toB 97)]]) = (sealOf 1 [[(toB 97)]]))) ∧ ((bookCalls (bookOf (bookOf (some ([], 0)) 1 [[(toB 97)]]) 1 [[(toB 97)]])) = 2)) ∧ (((bookAll (bookOf (bookOf (some ([], 0)) 1 [[(toB 97)]]) 1 [[(toB 97)]])).length : Int) = 1)) ∧ ((bookFind (bookNote (bookNote (bookNote (some ([], 0)) (sealOf 1 [[(toB 97)]]) [(toB 97)]) (sealOf 1 [[(toB 97)]]) [(toB 98)]) (sealOf 1 [[(toB 97)]]) [(toB 97)]) (sealOf 1 [[(toB 97)]])) = [97])) ∧ ((bookHas (bookNote (bookNote (bookNote (some ([], 0)) (sealOf 1 [[(toB 97)]]) [(toB 97)]) (sealOf 1 [[(toB 97)]]) [(toB 98)]) (sealOf 1 [[(toB 97)]]) [(toB 97)]) (sealOf 1 [[(toB 97)]])) = true)) ∧ (((clashA [(frzB (bookNote (bookNote (bookNote (some ([], 0)) (sealOf 1 [[(toB 97)]]) [(toB 97)]) (sealOf 1 [[(toB 97)]]) [(toB 98)]) (sealOf 1 [[(toB 97)]]) [(toB 97)]))]).1) = [97])))))] ∧ Ext NX w275 K275 w K ∧ Models w K) ?_ ?_
  · rcases Classical.em (((((((preimage 2 [([] : List UInt8), [(toB 97), (toB 98)]]) = [2, 0, 1, 2, 97, 98]) ∧ ((sealOf 1 [[(toB 97)]]) = (sealOf 1 [[(toB 97)]]))) ∧ ((bookCalls (bookOf (bookOf (some ([], 0)) 1 [[(toB 97)]]) 1 [[(toB 97)]])) = 2)) ∧ (((bookAll (bookOf (bookOf (some ([], 0)) 1 [[(toB 97)]]) 1 [[(toB 97)]])).length : Int) = 1)) ∧ ((bookFind (bookNote (bookNote (bookNote (some ([], 0)) (sealOf 1 [[(toB 97)]]) [(toB 97)]) (sealOf 1 [[(toB 97)]]) [(toB 98)]) (sealOf 1 [[(toB 97)]]) [(toB 97)]) (sealOf 1 [[(toB 97)]])) = [97])) ∧ ((bookHas (bookNote (bookNote (bookNote (some ([], 0)) (sealOf 1 [[(toB 97)]]) [(toB 97)]) (sealOf 1 [[(toB 97)]]) [(toB 98)]) (sealOf 1 [[(toB 97)]]) [(toB 97)]) (sealOf 1 [[(toB 97)]])) = true)) with hp276 | hp276
    · skip
      refine WO_pure v193_0 rfl l3 hM275 (fun _ => R_mv rfl) rfl (gY rfl rfl rfl (decide_eq_true hp276)) rfl ?_
      refine WO_held hM275 (S_b2s rfl (hV193_0.mono (hS199.le.trans (hS203.le.trans (hS209.le.trans (hS231.le.trans (hS241.le.trans (hS255.le.trans (hS271.le.trans (hS273.le.trans hS275.le))))))))) Try.underlying39 Try.underlying9 Try.underlying5) rfl (gY rfl rfl rfl (decide_eq_true hp276)) rfl ?_
      refine WO_pure (.bool (decide (((clashA [(frzB (bookNote (bookNote (bookNote (some ([], 0)) (sealOf 1 [[(toB 97)]]) [(toB 97)]) (sealOf 1 [[(toB 97)]]) [(toB 98)]) (sealOf 1 [[(toB 97)]]) [(toB 97)]))]).1) = [97]))) rfl l3 hM275 (fun _ => R_seql rfl rfl Try.underlying9) rfl (gY rfl rfl rfl (decide_eq_true hp276)) rfl ?_
      refine WO_pure (.bool (decide ((((((((preimage 2 [([] : List UInt8), [(toB 97), (toB 98)]]) = [2, 0, 1, 2, 97, 98]) ∧ ((sealOf 1 [[(toB 97)]]) = (sealOf 1 [[(toB 97)]]))) ∧ ((bookCalls (bookOf (bookOf (some ([], 0)) 1 [[(toB 97)]]) 1 [[(toB 97)]])) = 2)) ∧ (((bookAll (bookOf (bookOf (some ([], 0)) 1 [[(toB 97)]]) 1 [[(toB 97)]])).length : Int) = 1)) ∧ ((bookFind (bookNote (bookNote (bookNote (some ([], 0)) (sealOf 1 [[(toB 97)]]) [(toB 97)]) (sealOf 1 [[(toB 97)]]) [(toB 98)]) (sealOf 1 [[(toB 97)]]) [(toB 97)]) (sealOf 1 [[(toB 97)]])) = [97])) ∧ ((bookHas (bookNote (bookNote (bookNote (some ([], 0)) (sealOf 1 [[(toB 97)]]) [(toB 97)]) (sealOf 1 [[(toB 97)]]) [(toB 98)]) (sealOf 1 [[(toB 97)]]) [(toB 97)]) (sealOf 1 [[(toB 97)]])) = true)) ∧ (((clashA [(frzB (bookNote (bookNote (bookNote (some ([], 0)) (sealOf 1 [[(toB 97)]]) [(toB 97)]) (sealOf 1 [[(toB 97)]]) [(toB 98)]) (sealOf 1 [[(toB 97)]]) [(toB 97)]))]).1) = [97])))) rfl l3 hM275 (fun _ => R_pick1 rfl (decide_eq_true hp276) rfl (and_T hp276)) rfl (gN rfl) rfl ?_
      exact WO_end [(86, (.bool (decide ((((((((preimage 2 [([] : List UInt8), [(toB 97), (toB 98)]]) = [2, 0, 1, 2, 97, 98]) ∧ ((sealOf 1 [[(toB 97)]]) = (sealOf 1 [[(toB 97)]]))) ∧ ((bookCalls (bookOf (bookOf (some ([], 0)) 1 [[(toB 97)]]) 1 [[(toB 97)]])) = 2)) ∧ (((bookAll (bookOf (bookOf (some ([], 0)) 1 [[(toB 97)]]) 1 [[(toB 97)]])).length : Int) = 1)) ∧ ((bookFind (bookNote (bookNote (bookNote (some ([], 0)) (sealOf 1 [[(toB 97)]]) [(toB 97)]) (sealOf 1 [[(toB 97)]]) [(toB 98)]) (sealOf 1 [[(toB 97)]]) [(toB 97)]) (sealOf 1 [[(toB 97)]])) = [97])) ∧ ((bookHas (bookNote (bookNote (bookNote (some ([], 0)) (sealOf 1 [[(toB 97)]]) [(toB 97)]) (sealOf 1 [[(toB 97)]]) [(toB 98)]) (sealOf 1 [[(toB 97)]]) [(toB 97)]) (sealOf 1 [[(toB 97)]])) = true)) ∧ (((clashA [(frzB (bookNote (bookNote (bookNote (some ([], 0)) (sealOf 1 [[(toB 97)]]) [(toB 97)]) (sealOf 1 [[(toB 97)]]) [(toB 98)]) (sealOf 1 [[(toB 97)]]) [(toB 97)]))]).1) = [97])))))] K275 rfl ⟨rfl, (Ext.refl _ _ _), hM275⟩ (by repeat (first | exact Off.refl _ _ | refine Off.updO ?_ rfl _ | refine Off.updN ?_ _ | refine Off.lay ?_ rfl)) ⟨rfl, trivial⟩
    · skip
      refine WO_skip _ hM275 l3 rfl (gF rfl rfl rfl (decide_eq_false hp276)) rfl ?_
      refine WO_skip _ hM275 l3 rfl (gF rfl rfl rfl (decide_eq_false hp276)) rfl ?_
      refine WO_skip _ hM275 l3 rfl (gF rfl rfl rfl (decide_eq_false hp276)) rfl ?_
      refine WO_pure (.bool (decide ((((((((preimage 2 [([] : List UInt8), [(toB 97), (toB 98)]]) = [2, 0, 1, 2, 97, 98]) ∧ ((sealOf 1 [[(toB 97)]]) = (sealOf 1 [[(toB 97)]]))) ∧ ((bookCalls (bookOf (bookOf (some ([], 0)) 1 [[(toB 97)]]) 1 [[(toB 97)]])) = 2)) ∧ (((bookAll (bookOf (bookOf (some ([], 0)) 1 [[(toB 97)]]) 1 [[(toB 97)]])).length : Int) = 1)) ∧ ((bookFind (bookNote (bookNote (bookNote (some ([], 0)) (sealOf 1 [[(toB 97)]]) [(toB 97)]) (sealOf 1 [[(toB 97)]]) [(toB 98)]) (sealOf 1 [[(toB 97)]]) [(toB 97)]) (sealOf 1 [[(toB 97)]])) = [97])) ∧ ((bookHas (bookNote (bookNote (bookNote (some ([], 0)) (sealOf 1 [[(toB 97)]]) [(toB 97)]) (sealOf 1 [[(toB 97)]]) [(toB 98)]) (sealOf 1 [[(toB 97)]]) [(toB 97)]) (sealOf 1 [[(toB 97)]])) = true)) ∧ (((clashA [(frzB (bookNote (bookNote (bookNote (some ([], 0)) (sealOf 1 [[(toB 97)]]) [(toB 97)]) (sealOf 1 [[(toB 97)]]) [(toB 98)]) (sealOf 1 [[(toB 97)]]) [(toB 97)]))]).1) = [97])))) rfl l3 hM275 (fun _ => R_pick2 rfl (decide_eq_false hp276) rfl (and_F hp276)) rfl (gN rfl) rfl ?_
      exact WO_end [(86, (.bool (decide ((((((((preimage 2 [([] : List UInt8), [(toB 97), (toB 98)]]) = [2, 0, 1, 2, 97, 98]) ∧ ((sealOf 1 [[(toB 97)]]) = (sealOf 1 [[(toB 97)]]))) ∧ ((bookCalls (bookOf (bookOf (some ([], 0)) 1 [[(toB 97)]]) 1 [[(toB 97)]])) = 2)) ∧ (((bookAll (bookOf (bookOf (some ([], 0)) 1 [[(toB 97)]]) 1 [[(toB 97)]])).length : Int) = 1)) ∧ ((bookFind (bookNote (bookNote (bookNote (some ([], 0)) (sealOf 1 [[(toB 97)]]) [(toB 97)]) (sealOf 1 [[(toB 97)]]) [(toB 98)]) (sealOf 1 [[(toB 97)]]) [(toB 97)]) (sealOf 1 [[(toB 97)]])) = [97])) ∧ ((bookHas (bookNote (bookNote (bookNote (some ([], 0)) (sealOf 1 [[(toB 97)]]) [(toB 97)]) (sealOf 1 [[(toB 97)]]) [(toB 98)]) (sealOf 1 [[(toB 97)]]) [(toB 97)]) (sealOf 1 [[(toB 97)]])) = true)) ∧ (((clashA [(frzB (bookNote (bookNote (bookNote (some ([], 0)) (sealOf 1 [[(toB 97)]]) [(toB 97)]) (sealOf 1 [[(toB 97)]]) [(toB 98)]) (sealOf 1 [[(toB 97)]]) [(toB 97)]))]).1) = [97])))))] K275 rfl ⟨rfl, (Ext.refl _ _ _), hM275⟩ (by repeat (first | exact Off.refl _ _ | refine Off.updO ?_ rfl _ | refine Off.updN ?_ _ | refine Off.lay ?_ rfl)) ⟨rfl, trivial⟩
  rintro l σ277 w277 K277 ⟨rfl, hS277, hM277⟩
  have hE277 := hE275.andN hS277
  refine WO_pure (.bool (decide ((((((((preimage 2 [([] : List UInt8), [(toB 97), (toB 98)]]) = [2, 0, 1, 2, 97, 98]) ∧ ((sealOf 1 [[(toB 97)]]) = (sealOf 1 [[(toB 97)]]))) ∧ ((bookCalls (bookOf (bookOf (some ([], 0)) 1 [[(toB 97)]]) 1 [[(toB 97)]])) = 2)) ∧ (((bookAll (bookOf (bookOf (some ([], 0)) 1 [[(toB 97)]]) 1 [[(toB 97)]])).length : Int) = 1)) ∧ ((bookFind (bookNote (bookNote (bookNote (some ([], 0)) (sealOf 1 [[(toB 97)]]) [(toB 97)]) (sealOf 1 [[(toB 97)]]) [(toB 98)]) (sealOf 1 [[(toB 97)]]) [(toB 97)]) (sealOf 1 [[(toB 97)]])) = [97])) ∧ ((bookHas (bookNote (bookNote (bookNote (some ([], 0)) (sealOf 1 [[(toB 97)]]) [(toB 97)]) (sealOf 1 [[(toB 97)]]) [(toB 98)]) (sealOf 1 [[(toB 97)]]) [(toB 97)]) (sealOf 1 [[(toB 97)]])) = true)) ∧ (((clashA [(frzB (bookNote (bookNote (bookNote (some ([], 0)) (sealOf 1 [[(toB 97)]]) [(toB 97)]) (sealOf 1 [[(toB 97)]]) [(toB 98)]) (sealOf 1 [[(toB 97)]]) [(toB 97)]))]).1) = [97])))) rfl l3 hM277 (fun _ => R_mv rfl) rfl (gN rfl) rfl ?_
  refine WO_meet (al := false) (l1 := [.o 36 3, .o 37 3, .o 38 3, .o 39 3]) [88, 89, 90, 91] (fun c => w193.heap.size ≤ c) (fun l w K => l = [(91, (.bool (decide (((((((((preimage 2 [([] : List UInt8), [(toB 97), (toB 98)]]) = [2, 0, 1, 2, 97, 98]) ∧ ((sealOf 1 [[(toB 97)]]) = (sealOf 1 [[(toB 97)]]))) ∧ ((bookCalls (bookOf (bookOf (some ([], 0)) 1 [[(toB 97)]]) 1 [[(toB 97)]])) = 2)) ∧ (((bookAll (bookOf (bookOf (some ([], 0)) 1 [[(toB 97)]]) 1 [[(toB 97)]])).length : Int) = 1)) ∧ ((bookFind (bookNote (bookNote (bookNote (some ([], 0)) (sealOf 1 [[(toB 97)]]) [(toB 97)]) (sealOf 1 [[(toB 97)]]) [(toB 98)]) (sealOf 1 [[(toB 97)]]) [(toB 97)]) (sealOf 1 [[(toB 97)]])) = [97])) ∧ ((bookHas (bookNote (bookNote (bookNote (some ([], 0)) (sealOf 1 [[(toB 97)]]) [(toB 97)]) (sealOf 1 [[(toB 97)]]) [(toB 98)]) (sealOf 1 [[(toB 97)]]) [(toB 97)]) (sealOf 1 [[(toB 97)]])) = true)) ∧ (((clashA [(frzB (bookNote (bookNote (bookNote (some ([], 0)) (sealOf 1 [[(toB 97)]]) [(toB 97)]) (sealOf 1 [[(toB 97)]]) [(toB 98)]) (sealOf 1 [[(toB 97)]]) [(toB 97)]))]).1) = [97])) ∧ (((clashA [(frzB (bookNote (bookNote (bookNote (some ([], 0)) (sealOf 1 [[(toB 97)]]) [(toB 97)]) (sealOf 1 [[(toB 97)]]) [(toB 98)]) (sealOf 1 [[(toB 97)]]) [(toB 97)]))]).2.1) = [98])))))] ∧ Ext NX w277 K277 w K ∧ Models w K) ?_ ?_
  · rcases Classical.em ((((((((preimage 2 [([] : List UInt8), [(toB 97), (toB 98)]]) = [2, 0, 1, 2, 97, 98]) ∧ ((sealOf 1 [[(toB 97)]]) = (sealOf 1 [[(toB 97)]]))) ∧ ((bookCalls (bookOf (bookOf (some ([], 0)) 1 [[(toB 97)]]) 1 [[(toB 97)]])) = 2)) ∧ (((bookAll (bookOf (bookOf (some ([], 0)) 1 [[(toB 97)]]) 1 [[(toB 97)]])).length : Int) = 1)) ∧ ((bookFind (bookNote (bookNote (bookNote (some ([], 0)) (sealOf 1 [[(toB 97)]]) [(toB 97)]) (sealOf 1 [[(toB 97)]]) [(toB 98)]) (sealOf 1 [[(toB 97)]]) [(toB 97)]) (sealOf 1 [[(toB 97)]])) = [97])) ∧ ((bookHas (bookNote (bookNote (bookNote (some ([], 0)) (sealOf 1 [[(toB 97)]]) [(toB 97)]) (sealOf 1 [[(toB 97)]]) [(toB 98)]) (sealOf 1 [[(toB 97)]]) [(toB 97)]) (sealOf 1 [[(toB 97)]])) = true)) ∧ (((clashA [(frzB (bookNote (bookNote (bookNote (some ([], 0)) (sealOf 1 [[(toB 97)]]) [(toB 97)]) (sealOf 1 [[(toB 97)]]) [(toB 98)]) (sealOf 1 [[(toB 97)]]) [(toB 97)]))]).1) = [97])) with hp278 | hp278
    · skip
      refine WO_pure v193_1 rfl l3 hM277 (fun _ => R_mv rfl) rfl (gY rfl rfl rfl (decide_eq_true hp278)) rfl ?_
      refine WO_held hM277 (S_b2s rfl (hV193_1.mono (hS199.le.trans (hS203.le.trans (hS209.le.trans (hS231.le.trans (hS241.le.trans (hS255.le.trans (hS271.le.trans (hS273.le.trans (hS275.le.trans hS277.le)))))))))) Try.underlying39 Try.underlying9 Try.underlying5) rfl (gY rfl rfl rfl (decide_eq_true hp278)) rfl ?_
      refine WO_pure (.bool (decide (((clashA [(frzB (bookNote (bookNote (bookNote (some ([], 0)) (sealOf 1 [[(toB 97)]]) [(toB 97)]) (sealOf 1 [[(toB 97)]]) [(toB 98)]) (sealOf 1 [[(toB 97)]]) [(toB 97)]))]).2.1) = [98]))) rfl l3 hM277 (fun _ => R_seql rfl rfl Try.underlying9) rfl (gY rfl rfl rfl (decide_eq_true hp278)) rfl ?_
      refine WO_pure (.bool (decide (((((((((preimage 2 [([] : List UInt8), [(toB 97), (toB 98)]]) = [2, 0, 1, 2, 97, 98]) ∧ ((sealOf 1 [[(toB 97)]]) = (sealOf 1 [[(toB 97)]]))) ∧ ((bookCalls (bookOf (bookOf (some ([], 0)) 1 [[(toB 97)]]) 1 [[(toB 97)]])) = 2)) ∧ (((bookAll (bookOf (bookOf (some ([], 0)) 1 [[(toB 97)]]) 1 [[(toB 97)]])).length : Int) = 1)) ∧ ((bookFind (bookNote (bookNote (bookNote (some ([], 0)) (sealOf 1 [[(toB 97)]]) [(toB 97)]) (sealOf 1 [[(toB 97)]]) [(toB 98)]) (sealOf 1 [[(toB 97)]]) [(toB 97)]) (sealOf 1 [[(toB 97)]])) = [97])) ∧ ((bookHas (bookNote (bookNote (bookNote (some ([], 0)) (sealOf 1 [[(toB 97)]]) [(toB 97)]) (sealOf 1 [[(toB 97)]]) [(toB 98)]) (sealOf 1 [[(toB 97)]]) [(toB 97)]) (sealOf 1 [[(toB 97)]])) = true)) ∧ (((clashA [(frzB (bookNote (bookNote (bookNote (some ([], 0)) (sealOf 1 [[(toB 97)]]) [(toB 97)]) (sealOf 1 [[(toB 97)]]) [(toB 98)]) (sealOf 1 [[(toB 97)]]) [(toB 97)]))]).1) = [97])) ∧ (((clashA [(frzB (bookNote (bookNote (bookNote (some ([], 0)) (sealOf 1 [[(toB 97)]]) [(toB 97)]) (sealOf 1 [[(toB 97)]]) [(toB 98)]) (sealOf 1 [[(toB 97)]]) [(toB 97)]))]).2.1) = [98])))) rfl l3 hM277 (fun _ => R_pick1 rfl (decide_eq_true hp278) rfl (and_T hp278)) rfl (gN rfl) rfl ?_
      exact WO_end [(91, (.bool (decide (((((((((preimage 2 [([] : List UInt8), [(toB 97), (toB 98)]]) = [2, 0, 1, 2, 97, 98]) ∧ ((sealOf 1 [[(toB 97)]]) = (sealOf 1 [[(toB 97)]]))) ∧ ((bookCalls (bookOf (bookOf (some ([], 0)) 1 [[(toB 97)]]) 1 [[(toB 97)]])) = 2)) ∧ (((bookAll (bookOf (bookOf (some ([], 0)) 1 [[(toB 97)]]) 1 [[(toB 97)]])).length : Int) = 1)) ∧ ((bookFind (bookNote (bookNote (bookNote (some ([], 0)) (sealOf 1 [[(toB 97)]]) [(toB 97)]) (sealOf 1 [[(toB 97)]]) [(toB 98)]) (sealOf 1 [[(toB 97)]]) [(toB 97)]) (sealOf 1 [[(toB 97)]])) = [97])) ∧ ((bookHas (bookNote (bookNote (bookNote (some ([], 0)) (sealOf 1 [[(toB 97)]]) [(toB 97)]) (sealOf 1 [[(toB 97)]]) [(toB 98)]) (sealOf 1 [[(toB 97)]]) [(toB 97)]) (sealOf 1 [[(toB 97)]])) = true)) ∧ (((clashA [(frzB (bookNote (bookNote (bookNote (some ([], 0)) (sealOf 1 [[(toB 97)]]) [(toB 97)]) (sealOf 1 [[(toB 97)]]) [(toB 98)]) (sealOf 1 [[(toB 97)]]) [(toB 97)]))]).1) = [97])) ∧ (((clashA [(frzB (bookNote (bookNote (bookNote (some ([], 0)) (sealOf 1 [[(toB 97)]]) [(toB 97)]) (sealOf 1 [[(toB 97)]]) [(toB 98)]) (sealOf 1 [[(toB 97)]]) [(toB 97)]))]).2.1) = [98])))))] K277 rfl ⟨rfl, (Ext.refl _ _ _), hM277⟩ (by repeat (first | exact Off.refl _ _ | refine Off.updO ?_ rfl _ | refine Off.updN ?_ _ | refine Off.lay ?_ rfl)) ⟨rfl, trivial⟩
    · skip
      refine WO_skip _ hM277 l3 rfl (gF rfl rfl rfl (decide_eq_false hp278)) rfl ?_
      refine WO_skip _ hM277 l3 rfl (gF rfl rfl rfl (decide_eq_false hp278)) rfl ?_
      refine WO_skip _ hM277 l3 rfl (gF rfl rfl rfl (decide_eq_false hp278)) rfl ?_
      refine WO_pure (.bool (decide (((((((((preimage 2 [([] : List UInt8), [(toB 97), (toB 98)]]) = [2, 0, 1, 2, 97, 98]) ∧ ((sealOf 1 [[(toB 97)]]) = (sealOf 1 [[(toB 97)]]))) ∧ ((bookCalls (bookOf (bookOf (some ([], 0)) 1 [[(toB 97)]]) 1 [[(toB 97)]])) = 2)) ∧ (((bookAll (bookOf (bookOf (some ([], 0)) 1 [[(toB 97)]]) 1 [[(toB 97)]])).length : Int) = 1)) ∧ ((bookFind (bookNote (bookNote (bookNote (some ([], 0)) (sealOf 1 [[(toB 97)]]) [(toB 97)]) (sealOf 1 [[(toB 97)]]) [(toB 98)]) (sealOf 1 [[(toB 97)]]) [(toB 97)]) (sealOf 1 [[(toB 97)]])) = [97])) ∧ ((bookHas (bookNote (bookNote (bookNote (some ([], 0)) (sealOf 1 [[(toB 97)]]) [(toB 97)]) (sealOf 1 [[(toB 97)]]) [(toB 98)]) (sealOf 1 [[(toB 97)]]) [(toB 97)]) (sealOf 1 [[(toB 97)]])) = true)) ∧ (((clashA [(frzB (bookNote (bookNote (bookNote (some ([], 0)) (sealOf 1 [[(toB 97)]]) [(toB 97)]) (sealOf 1 [[(toB 97)]]) [(toB 98)]) (sealOf 1 [[(toB 97)]]) [(toB 97)]))]).1) = [97])) ∧ (((clashA [(frzB (bookNote (bookNote (bookNote (some ([], 0)) (sealOf 1 [[(toB 97)]]) [(toB 97)]) (sealOf 1 [[(toB 97)]]) [(toB 98)]) (sealOf 1 [[(toB 97)]]) [(toB 97)]))]).2.1) = [98])))) rfl l3 hM277 (fun _ => R_pick2 rfl (decide_eq_false hp278) rfl (and_F hp278)) rfl (gN rfl) rfl ?_
      exact WO_end [(91, (.bool (decide (((((((((preimage 2 [([] : List UInt8), [(toB 97), (toB 98)]]) = [2, 0, 1, 2, 97, 98]) ∧ ((sealOf 1 [[(toB 97)]]) = (sealOf 1 [[(toB 97)]]))) ∧ ((bookCalls (bookOf (bookOf (some ([], 0)) 1 [[(toB 97)]]) 1 [[(toB 97)]])) = 2)) ∧ (((bookAll (bookOf (bookOf (some ([], 0)) 1 [[(toB 97)]]) 1 [[(toB 97)]])).length : Int) = 1)) ∧ ((bookFind (bookNote (bookNote (bookNote (some ([], 0)) (sealOf 1 [[(toB 97)]]) [(toB 97)]) (sealOf 1 [[(toB 97)]]) [(toB 98)]) (sealOf 1 [[(toB 97)]]) [(toB 97)]) (sealOf 1 [[(toB 97)]])) = [97])) ∧ ((bookHas (bookNote (bookNote (bookNote (some ([], 0)) (sealOf 1 [[(toB 97)]]) [(toB 97)]) (sealOf 1 [[(toB 97)]]) [(toB 98)]) (sealOf 1 [[(toB 97)]]) [(toB 97)]) (sealOf 1 [[(toB 97)]])) = true)) ∧ (((clashA [(frzB (bookNote (bookNote (bookNote (some ([], 0)) (sealOf 1 [[(toB 97)]]) [(toB 97)]) (sealOf 1 [[(toB 97)]]) [(toB 98)]) (sealOf 1 [[(toB 97)]]) [(toB 97)]))]).1) = [97])) ∧ (((clashA [(frzB (bookNote (bookNote (bookNote (some ([], 0)) (sealOf 1 [[(toB 97)]]) [(toB 97)]) (sealOf 1 [[(toB 97)]]) [(toB 98)]) (sealOf 1 [[(toB 97)]]) [(toB 97)]))]).2.1) = [98])))))] K277 rfl ⟨rfl, (Ext.refl _ _ _), hM277⟩ (by repeat (first | exact Off.refl _ _ | refine Off.updO ?_ rfl _ | refine Off.updN ?_ _ | refine Off.lay ?_ rfl)) ⟨rfl, trivial⟩
  rintro l σ279 w279 K279 ⟨rfl, hS279, hM279⟩
  have hE279 := hE277.andN hS279
  refine WO_pure (.bool (decide (((((((((preimage 2 [([] : List UInt8), [(toB 97), (toB 98)]]) = [2, 0, 1, 2, 97, 98]) ∧ ((sealOf 1 [[(toB 97)]]) = (sealOf 1 [[(toB 97)]]))) ∧ ((bookCalls (bookOf (bookOf (some ([], 0)) 1 [[(toB 97)]]) 1 [[(toB 97)]])) = 2)) ∧ (((bookAll (bookOf (bookOf (some ([], 0)) 1 [[(toB 97)]]) 1 [[(toB 97)]])).length : Int) = 1)) ∧ ((bookFind (bookNote (bookNote (bookNote (some ([], 0)) (sealOf 1 [[(toB 97)]]) [(toB 97)]) (sealOf 1 [[(toB 97)]]) [(toB 98)]) (sealOf 1 [[(toB 97)]]) [(toB 97)]) (sealOf 1 [[(toB 97)]])) = [97])) ∧ ((bookHas (bookNote (bookNote (bookNote (some ([], 0)) (sealOf 1 [[(toB 97)]]) [(toB 97)]) (sealOf 1 [[(toB 97)]]) [(toB 98)]) (sealOf 1 [[(toB 97)]]) [(toB 97)]) (sealOf 1 [[(toB 97)]])) = true)) ∧ (((clashA [(frzB (bookNote (bookNote (bookNote (some ([], 0)) (sealOf 1 [[(toB 97)]]) [(toB 97)]) (sealOf 1 [[(toB 97)]]) [(toB 98)]) (sealOf 1 [[(toB 97)]]) [(toB 97)]))]).1) = [97])) ∧ (((clashA [(frzB (bookNote (bookNote (bookNote (some ([], 0)) (sealOf 1 [[(toB 97)]]) [(toB 97)]) (sealOf 1 [[(toB 97)]]) [(toB 98)]) (sealOf 1 [[(toB 97)]]) [(toB 97)]))]).2.1) = [98])))) rfl l3 hM279 (fun _ => R_mv rfl) rfl (gN rfl) rfl ?_
  refine WO_meet (al := false) (l1 := [.o 41 3, .o 42 3]) [93, 94] (fun c => w193.heap.size ≤ c) (fun l w K => l = [(94, (.bool (decide ((((((((((preimage 2 [([] : List UInt8), [(toB 97), (toB 98)]]) = [2, 0, 1, 2, 97, 98]) ∧ ((sealOf 1 [[(toB 97)]]) = (sealOf 1 [[(toB 97)]]))) ∧ ((bookCalls (bookOf (bookOf (some ([], 0)) 1 [[(toB 97)]]) 1 [[(toB 97)]])) = 2)) ∧ (((bookAll (bookOf (bookOf (some ([], 0)) 1 [[(toB 97)]]) 1 [[(toB 97)]])).length : Int) = 1)) ∧ ((bookFind (bookNote (bookNote (bookNote (some ([], 0)) (sealOf 1 [[(toB 97)]]) [(toB 97)]) (sealOf 1 [[(toB 97)]]) [(toB 98)]) (sealOf 1 [[(toB 97)]]) [(toB 97)]) (sealOf 1 [[(toB 97)]])) = [97])) ∧ ((bookHas (bookNote (bookNote (bookNote (some ([], 0)) (sealOf 1 [[(toB 97)]]) [(toB 97)]) (sealOf 1 [[(toB 97)]]) [(toB 98)]) (sealOf 1 [[(toB 97)]]) [(toB 97)]) (sealOf 1 [[(toB 97)]])) = true)) ∧ (((clashA [(frzB (bookNote (bookNote (bookNote (some ([], 0)) (sealOf 1 [[(toB 97)]]) [(toB 97)]) (sealOf 1 [[(toB 97)]]) [(toB 98)]) (sealOf 1 [[(toB 97)]]) [(toB 97)]))]).1) = [97])) ∧ (((clashA [(frzB (bookNote (bookNote (bookNote (some ([], 0)) (sealOf 1 [[(toB 97)]]) [(toB 97)]) (sealOf 1 [[(toB 97)]]) [(toB 98)]) (sealOf 1 [[(toB 97)]]) [(toB 97)]))]).2.1) = [98])) ∧ (((clashA [(frzB (bookNote (bookNote (bookNote (some ([], 0)) (sealOf 1 [[(toB 97)]]) [(toB 97)]) (sealOf 1 [[(toB 97)]]) [(toB 98)]) (sealOf 1 [[(toB 97)]]) [(toB 97)]))]).2.2) = true)))))] ∧ Ext NX w279 K279 w K ∧ Models w K) ?_ ?_
  · rcases Classical.em (((((((((preimage 2 [([] : List UInt8), [(toB 97), (toB 98)]]) = [2, 0, 1, 2, 97, 98]) ∧ ((sealOf 1 [[(toB 97)]]) = (sealOf 1 [[(toB 97)]]))) ∧ ((bookCalls (bookOf (bookOf (some ([], 0)) 1 [[(toB 97)]]) 1 [[(toB 97)]])) = 2)) ∧ (((bookAll (bookOf (bookOf (some ([], 0)) 1 [[(toB 97)]]) 1 [[(toB 97)]])).length : Int) = 1)) ∧ ((bookFind (bookNote (bookNote (bookNote (some ([], 0)) (sealOf 1 [[(toB 97)]]) [(toB 97)]) (sealOf 1 [[(toB 97)]]) [(toB 98)]) (sealOf 1 [[(toB 97)]]) [(toB 97)]) (sealOf 1 [[(toB 97)]])) = [97])) ∧ ((bookHas (bookNote (bookNote (bookNote (some ([], 0)) (sealOf 1 [[(toB 97)]]) [(toB 97)]) (sealOf 1 [[(toB 97)]]) [(toB 98)]) (sealOf 1 [[(toB 97)]]) [(toB 97)]) (sealOf 1 [[(toB 97)]])) = true)) ∧ (((clashA [(frzB (bookNote (bookNote (bookNote (some ([], 0)) (sealOf 1 [[(toB 97)]]) [(toB 97)]) (sealOf 1 [[(toB 97)]]) [(toB 98)]) (sealOf 1 [[(toB 97)]]) [(toB 97)]))]).1) = [97])) ∧ (((clashA [(frzB (bookNote (bookNote (bookNote (some ([], 0)) (sealOf 1 [[(toB 97)]]) [(toB 97)]) (sealOf 1 [[(toB 97)]]) [(toB 98)]) (sealOf 1 [[(toB 97)]]) [(toB 97)]))]).2.1) = [98])) with hp280 | hp280
    · skip
      refine WO_pure (.bool ((clashA [(frzB (bookNote (bookNote (bookNote (some ([], 0)) (sealOf 1 [[(toB 97)]]) [(toB 97)]) (sealOf 1 [[(toB 97)]]) [(toB 98)]) (sealOf 1 [[(toB 97)]]) [(toB 97)]))]).2.2)) rfl l3 hM279 (fun _ => R_mv rfl) rfl (gY rfl rfl rfl (decide_eq_true hp280)) rfl ?_
      refine WO_pure (.bool (decide ((((((((((preimage 2 [([] : List UInt8), [(toB 97), (toB 98)]]) = [2, 0, 1, 2, 97, 98]) ∧ ((sealOf 1 [[(toB 97)]]) = (sealOf 1 [[(toB 97)]]))) ∧ ((bookCalls (bookOf (bookOf (some ([], 0)) 1 [[(toB 97)]]) 1 [[(toB 97)]])) = 2)) ∧ (((bookAll (bookOf (bookOf (some ([], 0)) 1 [[(toB 97)]]) 1 [[(toB 97)]])).length : Int) = 1)) ∧ ((bookFind (bookNote (bookNote (bookNote (some ([], 0)) (sealOf 1 [[(toB 97)]]) [(toB 97)]) (sealOf 1 [[(toB 97)]]) [(toB 98)]) (sealOf 1 [[(toB 97)]]) [(toB 97)]) (sealOf 1 [[(toB 97)]])) = [97])) ∧ ((bookHas (bookNote (bookNote (bookNote (some ([], 0)) (sealOf 1 [[(toB 97)]]) [(toB 97)]) (sealOf 1 [[(toB 97)]]) [(toB 98)]) (sealOf 1 [[(toB 97)]]) [(toB 97)]) (sealOf 1 [[(toB 97)]])) = true)) ∧ (((clashA [(frzB (bookNote (bookNote (bookNote (some ([], 0)) (sealOf 1 [[(toB 97)]]) [(toB 97)]) (sealOf 1 [[(toB 97)]]) [(toB 98)]) (sealOf 1 [[(toB 97)]]) [(toB 97)]))]).1) = [97])) ∧ (((clashA [(frzB (bookNote (bookNote (bookNote (some ([], 0)) (sealOf 1 [[(toB 97)]]) [(toB 97)]) (sealOf 1 [[(toB 97)]]) [(toB 98)]) (sealOf 1 [[(toB 97)]]) [(toB 97)]))]).2.1) = [98])) ∧ (((clashA [(frzB (bookNote (bookNote (bookNote (some ([], 0)) (sealOf 1 [[(toB 97)]]) [(toB 97)]) (sealOf 1 [[(toB 97)]]) [(toB 98)]) (sealOf 1 [[(toB 97)]]) [(toB 97)]))]).2.2) = true)))) rfl l3 hM279 (fun _ => R_pick1 rfl (decide_eq_true hp280) rfl (and_T' hp280)) rfl (gN rfl) rfl ?_
      exact WO_end [(94, (.bool (decide ((((((((((preimage 2 [([] : List UInt8), [(toB 97), (toB 98)]]) = [2, 0, 1, 2, 97, 98]) ∧ ((sealOf 1 [[(toB 97)]]) = (sealOf 1 [[(toB 97)]]))) ∧ ((bookCalls (bookOf (bookOf (some ([], 0)) 1 [[(toB 97)]]) 1 [[(toB 97)]])) = 2)) ∧ (((bookAll (bookOf (bookOf (some ([], 0)) 1 [[(toB 97)]]) 1 [[(toB 97)]])).length : Int) = 1)) ∧ ((bookFind (bookNote (bookNote (bookNote (some ([], 0)) (sealOf 1 [[(toB 97)]]) [(toB 97)]) (sealOf 1 [[(toB 97)]]) [(toB 98)]) (sealOf 1 [[(toB 97)]]) [(toB 97)]) (sealOf 1 [[(toB 97)]])) = [97])) ∧ ((bookHas (bookNote (bookNote (bookNote (some ([], 0)) (sealOf 1 [[(toB 97)]]) [(toB 97)]) (sealOf 1 [[(toB 97)]]) [(toB 98)]) (sealOf 1 [[(toB 97)]]) [(toB 97)]) (sealOf 1 [[(toB 97)]])) = true)) ∧ (((clashA [(frzB (bookNote (bookNote (bookNote (some ([], 0)) (sealOf 1 [[(toB 97)]]) [(toB 97)]) (sealOf 1 [[(toB 97)]]) [(toB 98)]) (sealOf 1 [[(toB 97)]]) [(toB 97)]))]).1) = [97])) ∧ (((clashA [(frzB (bookNote (bookNote (bookNote (some ([], 0)) (sealOf 1 [[(toB 97)]]) [(toB 97)]) (sealOf 1 [[(toB 97)]]) [(toB 98)]) (sealOf 1 [[(toB 97)]]) [(toB 97)]))]).2.1) = [98])) ∧ (((clashA [(frzB (bookNote (bookNote (bookNote (some ([], 0)) (sealOf 1 [[(toB 97)]]) [(toB 97)]) (sealOf 1 [[(toB 97)]]) [(toB 98)]) (sealOf 1 [[(toB 97)]]) [(toB 97)]))]).2.2) = true)))))] K279 rfl ⟨rfl, (Ext.refl _ _ _), hM279⟩ (by repeat (first | exact Off.refl _ _ | refine Off.updO ?_ rfl _ | refine Off.updN ?_ _ | refine Off.lay ?_ rfl)) ⟨rfl, trivial⟩
    · skip
      refine WO_skip _ hM279 l3 rfl (gF rfl rfl rfl (decide_eq_false hp280)) rfl ?_
      refine WO_pure (.bool (decide ((((((((((preimage 2 [([] : List UInt8), [(toB 97), (toB 98)]]) = [2, 0, 1, 2, 97, 98]) ∧ ((sealOf 1 [[(toB 97)]]) = (sealOf 1 [[(toB 97)]]))) ∧ ((bookCalls (bookOf (bookOf (some ([], 0)) 1 [[(toB 97)]]) 1 [[(toB 97)]])) = 2)) ∧ (((bookAll (bookOf (bookOf (some ([], 0)) 1 [[(toB 97)]]) 1 [[(toB 97)]])).length : Int) = 1)) ∧ ((bookFind (bookNote (bookNote (bookNote (some ([], 0)) (sealOf 1 [[(toB 97)]]) [(toB 97)]) (sealOf 1 [[(toB 97)]]) [(toB 98)]) (sealOf 1 [[(toB 97)]]) [(toB 97)]) (sealOf 1 [[(toB 97)]])) = [97])) ∧ ((bookHas (bookNote (bookNote (bookNote (some ([], 0)) (sealOf 1 [[(toB 97)]]) [(toB 97)]) (sealOf 1 [[(toB 97)]]) [(toB 98)]) (sealOf 1 [[(toB 97)]]) [(toB 97)]) (sealOf 1 [[(toB 97)]])) = true)) ∧ (((clashA [(frzB (bookNote (bookNote (bookNote (some ([], 0)) (sealOf 1 [[(toB 97)]]) [(toB 97)]) (sealOf 1 [[(toB 97)]]) [(toB 98)]) (sealOf 1 [[(toB 97)]]) [(toB 97)]))]).1) = [97])) ∧ (((clashA [(frzB (bookNote (bookNote (bookNote (some ([], 0)) (sealOf 1 [[(toB 97)]]) [(toB 97)]) (sealOf 1 [[(toB 97)]]) [(toB 98)]) (sealOf 1 [[(toB 97)]]) [(toB 97)]))]).2.1) = [98])) ∧ (((clashA [(frzB (bookNote (bookNote (bookNote (some ([], 0)) (sealOf 1 [[(toB 97)]]) [(toB 97)]) (sealOf 1 [[(toB 97)]]) [(toB 98)]) (sealOf 1 [[(toB 97)]]) [(toB 97)]))]).2.2) = true)))) rfl l3 hM279 (fun _ => R_pick2 rfl (decide_eq_false hp280) rfl (and_F hp280)) rfl (gN rfl) rfl ?_
      exact WO_end [(94, (.bool (decide ((((((((((preimage 2 [([] : List UInt8), [(toB 97), (toB 98)]]) = [2, 0, 1, 2, 97, 98]) ∧ ((sealOf 1 [[(toB 97)]]) = (sealOf 1 [[(toB 97)]]))) ∧ ((bookCalls (bookOf (bookOf (some ([], 0)) 1 [[(toB 97)]]) 1 [[(toB 97)]])) = 2)) ∧ (((bookAll (bookOf (bookOf (some ([], 0)) 1 [[(toB 97)]]) 1 [[(toB 97)]])).length : Int) = 1)) ∧ ((bookFind (bookNote (bookNote (bookNote (some ([], 0)) (sealOf 1 [[(toB 97)]]) [(toB 97)]) (sealOf 1 [[(toB 97)]]) [(toB 98)]) (sealOf 1 [[(toB 97)]]) [(toB 97)]) (sealOf 1 [[(toB 97)]])) = [97])) ∧ ((bookHas (bookNote (bookNote (bookNote (some ([], 0)) (sealOf 1 [[(toB 97)]]) [(toB 97)]) (sealOf 1 [[(toB 97)]]) [(toB 98)]) (sealOf 1 [[(toB 97)]]) [(toB 97)]) (sealOf 1 [[(toB 97)]])) = true)) ∧ (((clashA [(frzB (bookNote (bookNote (bookNote (some ([], 0)) (sealOf 1 [[(toB 97)]]) [(toB 97)]) (sealOf 1 [[(toB 97)]]) [(toB 98)]) (sealOf 1 [[(toB 97)]]) [(toB 97)]))]).1) = [97])) ∧ (((clashA [(frzB (bookNote (bookNote (bookNote (some ([], 0)) (sealOf 1 [[(toB 97)]]) [(toB 97)]) (sealOf 1 [[(toB 97)]]) [(toB 98)]) (sealOf 1 [[(toB 97)]]) [(toB 97)]))]).2.1) = [98])) ∧ (((clashA [(frzB (bookNote (bookNote (bookNote (some ([], 0)) (sealOf 1 [[(toB 97)]]) [(toB 97)]) (sealOf 1 [[(toB 97)]]) [(toB 98)]) (sealOf 1 [[(toB 97)]]) [(toB 97)]))]).2.2) = true)))))] K279 rfl ⟨rfl, (Ext.refl _ _ _), hM279⟩ (by repeat (first | exact Off.refl _ _ | refine Off.updO ?_ rfl _ | refine Off.updN ?_ _ | refine Off.lay ?_ rfl)) ⟨rfl, trivial⟩
  rintro l σ281 w281 K281 ⟨rfl, hS281, hM281⟩
  have hE281 := hE279.andN hS281
  refine WO_pure (.bool (decide ((((((((((preimage 2 [([] : List UInt8), [(toB 97), (toB 98)]]) = [2, 0, 1, 2, 97, 98]) ∧ ((sealOf 1 [[(toB 97)]]) = (sealOf 1 [[(toB 97)]]))) ∧ ((bookCalls (bookOf (bookOf (some ([], 0)) 1 [[(toB 97)]]) 1 [[(toB 97)]])) = 2)) ∧ (((bookAll (bookOf (bookOf (some ([], 0)) 1 [[(toB 97)]]) 1 [[(toB 97)]])).length : Int) = 1)) ∧ ((bookFind (bookNote (bookNote (bookNote (some ([], 0)) (sealOf 1 [[(toB 97)]]) [(toB 97)]) (sealOf 1 [[(toB 97)]]) [(toB 98)]) (sealOf 1 [[(toB 97)]]) [(toB 97)]) (sealOf 1 [[(toB 97)]])) = [97])) ∧ ((bookHas (bookNote (bookNote (bookNote (some ([], 0)) (sealOf 1 [[(toB 97)]]) [(toB 97)]) (sealOf 1 [[(toB 97)]]) [(toB 98)]) (sealOf 1 [[(toB 97)]]) [(toB 97)]) (sealOf 1 [[(toB 97)]])) = true)) ∧ (((clashA [(frzB (bookNote (bookNote (bookNote (some ([], 0)) (sealOf 1 [[(toB 97)]]) [(toB 97)]) (sealOf 1 [[(toB 97)]]) [(toB 98)]) (sealOf 1 [[(toB 97)]]) [(toB 97)]))]).1) = [97])) ∧ (((clashA [(frzB (bookNote (bookNote (bookNote (some ([], 0)) (sealOf 1 [[(toB 97)]]) [(toB 97)]) (sealOf 1 [[(toB 97)]]) [(toB 98)]) (sealOf 1 [[(toB 97)]]) [(toB 97)]))]).2.1) = [98])) ∧ (((clashA [(frzB (bookNote (bookNote (bookNote (some ([], 0)) (sealOf 1 [[(toB 97)]]) [(toB 97)]) (sealOf 1 [[(toB 97)]]) [(toB 98)]) (sealOf 1 [[(toB 97)]]) [(toB 97)]))]).2.2) = true)))) rfl l3 hM281 (fun _ => R_as rfl) rfl (gN rfl) rfl ?_
  refine WO_nil ?_
  refine WP_ret ?_
  exact endR_ret hR (v := (.bool (decide ((((((((((preimage 2 [([] : List UInt8), [(toB 97), (toB 98)]]) = [2, 0, 1, 2, 97, 98]) ∧ ((sealOf 1 [[(toB 97)]]) = (sealOf 1 [[(toB 97)]]))) ∧ ((bookCalls (bookOf (bookOf (some ([], 0)) 1 [[(toB 97)]]) 1 [[(toB 97)]])) = 2)) ∧ (((bookAll (bookOf (bookOf (some ([], 0)) 1 [[(toB 97)]]) 1 [[(toB 97)]])).length : Int) = 1)) ∧ ((bookFind (bookNote (bookNote (bookNote (some ([], 0)) (sealOf 1 [[(toB 97)]]) [(toB 97)]) (sealOf 1 [[(toB 97)]]) [(toB 98)]) (sealOf 1 [[(toB 97)]]) [(toB 97)]) (sealOf 1 [[(toB 97)]])) = [97])) ∧ ((bookHas (bookNote (bookNote (bookNote (some ([], 0)) (sealOf 1 [[(toB 97)]]) [(toB 97)]) (sealOf 1 [[(toB 97)]]) [(toB 98)]) (sealOf 1 [[(toB 97)]]) [(toB 97)]) (sealOf 1 [[(toB 97)]])) = true)) ∧ (((clashA [(frzB (bookNote (bookNote (bookNote (some ([], 0)) (sealOf 1 [[(toB 97)]]) [(toB 97)]) (sealOf 1 [[(toB 97)]]) [(toB 98)]) (sealOf 1 [[(toB 97)]]) [(toB 97)]))]).1) = [97])) ∧ (((clashA [(frzB (bookNote (bookNote (bookNote (some ([], 0)) (sealOf 1 [[(toB 97)]]) [(toB 97)]) (sealOf 1 [[(toB 97)]]) [(toB 98)]) (sealOf 1 [[(toB 97)]]) [(toB 97)]))]).2.1) = [98])) ∧ (((clashA [(frzB (bookNote (bookNote (bookNote (some ([], 0)) (sealOf 1 [[(toB 97)]]) [(toB 97)]) (sealOf 1 [[(toB 97)]]) [(toB 98)]) (sealOf 1 [[(toB 97)]]) [(toB 97)]))]).2.2) = true))))) (resE_1 rfl rfl) ⟨K281, (.bool (decide ((((((((((preimage 2 [([] : List UInt8), [(toB 97), (toB 98)]]) = [2, 0, 1, 2, 97, 98]) ∧ ((sealOf 1 [[(toB 97)]]) = (sealOf 1 [[(toB 97)]]))) ∧ ((bookCalls (bookOf (bookOf (some ([], 0)) 1 [[(toB 97)]]) 1 [[(toB 97)]])) = 2)) ∧ (((bookAll (bookOf (bookOf (some ([], 0)) 1 [[(toB 97)]]) 1 [[(toB 97)]])).length : Int) = 1)) ∧ ((bookFind (bookNote (bookNote (bookNote (some ([], 0)) (sealOf 1 [[(toB 97)]]) [(toB 97)]) (sealOf 1 [[(toB 97)]]) [(toB 98)]) (sealOf 1 [[(toB 97)]]) [(toB 97)]) (sealOf 1 [[(toB 97)]])) = [97])) ∧ ((bookHas (bookNote (bookNote (bookNote (some ([], 0)) (sealOf 1 [[(toB 97)]]) [(toB 97)]) (sealOf 1 [[(toB 97)]]) [(toB 98)]) (sealOf 1 [[(toB 97)]]) [(toB 97)]) (sealOf 1 [[(toB 97)]])) = true)) ∧ (((clashA [(frzB (bookNote (bookNote (bookNote (some ([], 0)) (sealOf 1 [[(toB 97)]]) [(toB 97)]) (sealOf 1 [[(toB 97)]]) [(toB 98)]) (sealOf 1 [[(toB 97)]]) [(toB 97)]))]).1) = [97])) ∧ (((clashA [(frzB (bookNote (bookNote (bookNote (some ([], 0)) (sealOf 1 [[(toB 97)]]) [(toB 97)]) (sealOf 1 [[(toB 97)]]) [(toB 98)]) (sealOf 1 [[(toB 97)]]) [(toB 97)]))]).2.1) = [98])) ∧ (((clashA [(frzB (bookNote (bookNote (bookNote (some ([], 0)) (sealOf 1 [[(toB 97)]]) [(toB 97)]) (sealOf 1 [[(toB 97)]]) [(toB 98)]) (sealOf 1 [[(toB 97)]]) [(toB 97)]))]).2.2) = true)))), (decide ((((((((((preimage 2 [([] : List UInt8), [(toB 97), (toB 98)]]) = [2, 0, 1, 2, 97, 98]) ∧ ((sealOf 1 [[(toB 97)]]) = (sealOf 1 [[(toB 97)]]))) ∧ ((bookCalls (bookOf (bookOf (some ([], 0)) 1 [[(toB 97)]]) 1 [[(toB 97)]])) = 2)) ∧ (((bookAll (bookOf (bookOf (some ([], 0)) 1 [[(toB 97)]]) 1 [[(toB 97)]])).length : Int) = 1)) ∧ ((bookFind (bookNote (bookNote (bookNote (some ([], 0)) (sealOf 1 [[(toB 97)]]) [(toB 97)]) (sealOf 1 [[(toB 97)]]) [(toB 98)]) (sealOf 1 [[(toB 97)]]) [(toB 97)]) (sealOf 1 [[(toB 97)]])) = [97])) ∧ ((bookHas (bookNote (bookNote (bookNote (some ([], 0)) (sealOf 1 [[(toB 97)]]) [(toB 97)]) (sealOf 1 [[(toB 97)]]) [(toB 98)]) (sealOf 1 [[(toB 97)]]) [(toB 97)]) (sealOf 1 [[(toB 97)]])) = true)) ∧ (((clashA [(frzB (bookNote (bookNote (bookNote (some ([], 0)) (sealOf 1 [[(toB 97)]]) [(toB 97)]) (sealOf 1 [[(toB 97)]]) [(toB 98)]) (sealOf 1 [[(toB 97)]]) [(toB 97)]))]).1) = [97])) ∧ (((clashA [(frzB (bookNote (bookNote (bookNote (some ([], 0)) (sealOf 1 [[(toB 97)]]) [(toB 97)]) (sealOf 1 [[(toB 97)]]) [(toB 98)]) (sealOf 1 [[(toB 97)]]) [(toB 97)]))]).2.1) = [98])) ∧ (((clashA [(frzB (bookNote (bookNote (bookNote (some ([], 0)) (sealOf 1 [[(toB 97)]]) [(toB 97)]) (sealOf 1 [[(toB 97)]]) [(toB 98)]) (sealOf 1 [[(toB 97)]]) [(toB 97)]))]).2.2) = true))), rfl, h, hE281, hM281, bool_V⟩
theorem awake3_c {w0 : World} {K0 : Ghost}  (hM0 : Models w0 K0)  : Calls Try.prog 14 #[] w0 (fun e w' => ∃ (K' : Ghost) (r0 : Value), e = .returned r0 ∧ Ext NX w0 K0 w' K' ∧ Models w' K' ∧ Kd.bool.V K' true r0) := by
  refine (awake3_walk hM0  (awake3_ok)).mono ?_
  rintro _ w' ⟨K', r0, o0, rfl, rfl, hF⟩
  exact ⟨K', r0, rfl, hF⟩
end Go.Proofs.Ytfbhiilolpamaaa
