/- The law SealGrows, where what it reads is of bulk at most 1048576: the call returns true, and each argument reads as it read. No further condition. -/
import Derived.Test.YtfbhiilolpamaaaS12
import Derived.Test.YtfbhiilolpamaaaP7
set_option linter.unusedVariables false
set_option maxRecDepth 100000
set_option maxHeartbeats 2000000
namespace Go.Proofs.Ytfbhiilolpamaaa.lawSealGrows
open Go Go.RowKit Go.Inc Go.ChangeShapes Go.WideShapes Go.ChangeAt
theorem ty22 : TyOk Try.prog 22 kd_l_Sincipitlaw03_Act 24 := ⟨⟨Try.t22, _, Try.type22, rfl, rfl, rfl, rfl, rfl⟩, ⟨_, Try.underlying22, rfl⟩⟩
theorem rd5b : Rds Try.prog 5 Kd.byte sm0 := (rds_byte Try.underlying5)
theorem rd39 : Rds Try.prog 39 kd_l_u8 (smL sm0) := (rds_sl Try.underlying39 ty5b rfl rd5b)
theorem rd23 : Rds Try.prog 23 kd_a32_u8 (smL sm0) := (rds_arr Try.underlying23 ty5b ty23 rd5b)
theorem rd38 : Rds Try.prog 38 kd_l_l_u8 (smL (smL sm0)) := (rds_sl Try.underlying38 ty39 rfl rd39)
theorem rd3 : Rds Try.prog 3 (Kd.int .i64) sm0 := (rds_int Try.underlying3)
theorem rd41 : Rds Try.prog 41 kd_Sincipitlaw03_Act (smP sm0 (smP sm0 (smP (smL (smL sm0)) (smP (smL sm0) (smL sm0))))) := (rds_struct Try.underlying41 ty41 (rdsF_cons ty3 rfl rd3 (rdsF_cons ty3 rfl rd3 (rdsF_cons ty38 rfl rd38 (rdsF_cons ty23 rfl rd23 (rdsF_one ty39 rfl rd39))))))
theorem rd22 : Rds Try.prog 22 kd_l_Sincipitlaw03_Act (smL (smP sm0 (smP sm0 (smP (smL (smL sm0)) (smP (smL sm0) (smL sm0)))))) := (rds_sl Try.underlying22 ty41 rfl rd41)
theorem laid : laidOutB Try.prog = true := by kernel_rfl
theorem own : ownKnob Try.prog.godebug = none := by kernel_rfl
theorem contract (H : Type) (enc : TypeId × Value → H) (W : World) (base : Nat) (args : Array Value) (ds gs : List (DataW H)) (before : List MemPlace)
    (hval : ∀ (j : Nat) t v, Try.f8.params[j]? = some t → args[j]? = some v → Value.okWide Try.prog W .any base t v)
    (hW : DataW.Whole enc Try.prog Try.f8.params.toList Rows.sealGrowsSpec.vars false W args.toList ds gs before) (hk : Rows.uptoSmall H (ds ++ gs) = true) :
    Calls Try.prog 8 args W fun e W' => ∃ v, e = .returned v ∧ Rows.sealGrowsSpec.post enc Try.prog Try.f8 false true false false W args v W' := by
  have hW' := hW
  obtain ⟨p, q, hA0, hV, rfl, hfz, hnd⟩ := hW
  have hA : DataW.TrodAll enc Try.prog W 0 (fun _ => true) true [22, 3, 38] args.toList ds p := hA0
  obtain ⟨v0, vs0, d0, ds0, p0, q0, hargs0, hds0, hps0, h0, r0⟩ := trodAll_cons hA
  obtain ⟨v1, vs1, d1, ds1, p1, q1, hargs1, hds1, hps1, h1, r1⟩ := trodAll_cons r0
  obtain ⟨v2, vs2, d2, ds2, p2, q2, hargs2, hds2, hps2, h2, r2⟩ := trodAll_cons r1
  obtain ⟨hn1, hn2, hn3⟩ := trodAll_nil r2
  obtain rfl : args = #[v0, v1, v2] := by cases args; simp_all
  obtain ⟨hg1, hg2⟩ := trodVars_none hV
  have hb := small_of hk
  have e : ds = [d0, d1, d2] := by simp_all
  subst hg1
  rw [e] at hb
  simp only [List.append_nil, Rows.uptoBulkAll] at hb
  obtain ⟨a0, k0, z0⟩ := open_arg rd22 ty22 (hval 0 22 v0 rfl rfl) h0 (by omega)
  obtain ⟨a1, k1, z1⟩ := open_arg rd3 ty3 (hval 1 3 v1 rfl rfl) h1 (by omega)
  obtain ⟨a2, k2, z2⟩ := open_arg rd38 ty38 (hval 2 38 v2 rfl rfl) h2 (by omega)
  refine (SealGrows_c (Models.ofW W) k0 k1 k2 z0.1).mono fun e W' ⟨K', r, he, hE, hM, hr⟩ => ?_
  subst he
  rw [bool_form hr]
  refine ⟨_, rfl, post_true (tb := 4) hW' laid (by kernel_rfl) rfl Try.underlying4 rfl ?_ ?_ ?_ (below_of hE)⟩
  · rw [e]; rfl
  · rw [e]; rfl
  · rw [e]; rfl
theorem lifted (os : Os) (started : os.Started) (H : Type) (enc : TypeId × Value → H) (F : Stop.Interp) :
    ReturnsInHanded {} Try.checked os 8 .any ((Rows.OpenSpec.upto Rows.sealGrowsSpec).pre6 enc Try.prog Try.f8 Rows.sealGrowsUptoRow.domain false) (((Rows.OpenSpec.upto Rows.sealGrowsSpec).at F).post enc Try.prog Try.f8 false true false false) := by
  refine returnsInHanded_of_cond (C := Try.checked) (s := Rows.OpenSpec.upto Rows.sealGrowsSpec) (k := Rows.uptoSmall) rfl own started (by kernel_rfl) Try.func8
    (OpenSpec.witness (enc := enc) (C := Try.checked) (s := Rows.OpenSpec.upto Rows.sealGrowsSpec) (k := Rows.uptoSmall) rfl false ⟨#[], #[.slice none 0 0, .int .i64 0, .slice none 0 0], []⟩ 8 (by kernel_rfl) (by kernel_rfl) (by kernel_rfl)
      (x := ([.nil, .lit (.int .i64 0), .nil], [], [])) (by kernel_rfl) rfl (by kernel_rfl)) ?_
  intro W base args ds gs before hval hW _ hk _
  exact contract H enc W base args ds gs before hval hW hk
theorem over : Rows.sealGrowsUptoRow.holds Try.pinned (Rows.OpenSpec.upto Rows.sealGrowsSpec) :=
  OpenClaim.holds_of_cond 8 Try.f8 rfl rfl rfl rfl rfl rfl rfl ⟨rfl, rfl, rfl, rfl, rfl⟩ rfl rfl rfl rfl rfl (by kernel_rfl) Try.func8 (by kernel_rfl)
    (of_decide_eq_true (by kernel_rfl)) (by unfold Func.isWrapper; first | (rw [if_pos (by decide +kernel)]; kernel_rfl) | (rw [if_neg (by decide +kernel)]; exact ⟨rfl, rfl⟩))
    (fun os started H enc _ F => lifted os started H enc F)
theorem proved : Rows.SealGrowsUptoSaid := over
#print axioms proved
end Go.Proofs.Ytfbhiilolpamaaa.lawSealGrows
