/- The law SealNobody, where what it reads is of bulk at most 1048576: the call returns true, and each argument reads as it read. No further condition. -/
import Derived.Test.YtfbhiilolpamaaaS17
import Derived.Test.YtfbhiilolpamaaaP7
set_option linter.unusedVariables false
set_option maxRecDepth 100000
set_option maxHeartbeats 2000000
namespace Go.Proofs.Ytfbhiilolpamaaa.lawSealNobody
open Go Go.RowKit Go.Inc Go.ChangeShapes Go.WideShapes Go.ChangeAt
theorem rd5b : Rds Try.prog 5 Kd.byte sm0 := (rds_byte Try.underlying5)
theorem rd39 : Rds Try.prog 39 kd_l_u8 (smL sm0) := (rds_sl Try.underlying39 ty5b rfl rd5b)
theorem rd23 : Rds Try.prog 23 kd_a32_u8 (smL sm0) := (rds_arr Try.underlying23 ty5b ty23 rd5b)
theorem rd38 : Rds Try.prog 38 kd_l_l_u8 (smL (smL sm0)) := (rds_sl Try.underlying38 ty39 rfl rd39)
theorem rd3 : Rds Try.prog 3 (Kd.int .i64) sm0 := (rds_int Try.underlying3)
theorem rd41 : Rds Try.prog 41 kd_Sincipitlaw03_Act (smP sm0 (smP sm0 (smP (smL (smL sm0)) (smP (smL sm0) (smL sm0))))) := (rds_struct Try.underlying41 ty41 (rdsF_cons ty3 rfl rd3 (rdsF_cons ty3 rfl rd3 (rdsF_cons ty38 rfl rd38 (rdsF_cons ty23 rfl rd23 (rdsF_one ty39 rfl rd39))))))
theorem laid : laidOutB Try.prog = true := by kernel_rfl
theorem own : ownKnob Try.prog.godebug = none := by kernel_rfl
theorem contract (H : Type) (enc : TypeId × Value → H) (W : World) (base : Nat) (args : Array Value) (ds gs : List (DataW H)) (before : List MemPlace)
    (hval : ∀ (j : Nat) t v, Try.f4.params[j]? = some t → args[j]? = some v → Value.okWide Try.prog W .any base t v)
    (hW : DataW.Whole enc Try.prog Try.f4.params.toList Rows.sealNobodySpec.vars false W args.toList ds gs before) (hk : Rows.uptoSmall H (ds ++ gs) = true) :
    Calls Try.prog 4 args W fun e W' => ∃ v, e = .returned v ∧ Rows.sealNobodySpec.post enc Try.prog Try.f4 false true false false W args v W' := by
  have hW' := hW
  obtain ⟨p, q, hA0, hV, rfl, hfz, hnd⟩ := hW
  have hA : DataW.TrodAll enc Try.prog W 0 (fun _ => true) true [41] args.toList ds p := hA0
  obtain ⟨v0, vs0, d0, ds0, p0, q0, hargs0, hds0, hps0, h0, r0⟩ := trodAll_cons hA
  obtain ⟨hn1, hn2, hn3⟩ := trodAll_nil r0
  obtain rfl : args = #[v0] := by cases args; simp_all
  obtain ⟨hg1, hg2⟩ := trodVars_none hV
  have hb := small_of hk
  have e : ds = [d0] := by simp_all
  subst hg1
  rw [e] at hb
  simp only [List.append_nil, Rows.uptoBulkAll] at hb
  obtain ⟨a0, k0, z0⟩ := open_arg rd41 ty41 (hval 0 41 v0 rfl rfl) h0 (by omega)
  refine (SealNobody_c (Models.ofW W) k0).mono fun e W' ⟨K', r, he, hE, hM, hr⟩ => ?_
  subst he
  rw [bool_form hr]
  refine ⟨_, rfl, post_true (tb := 4) hW' laid (by kernel_rfl) rfl Try.underlying4 rfl ?_ ?_ ?_ (below_of hE)⟩
  · rw [e]; rfl
  · rw [e]; rfl
  · rw [e]; rfl
theorem lifted (os : Os) (started : os.Started) (H : Type) (enc : TypeId × Value → H) (F : Stop.Interp) :
    ReturnsInHanded {} Try.checked os 4 .any ((Rows.OpenSpec.upto Rows.sealNobodySpec).pre6 enc Try.prog Try.f4 Rows.sealNobodyUptoRow.domain false) (((Rows.OpenSpec.upto Rows.sealNobodySpec).at F).post enc Try.prog Try.f4 false true false false) := by
  refine returnsInHanded_of_cond (C := Try.checked) (s := Rows.OpenSpec.upto Rows.sealNobodySpec) (k := Rows.uptoSmall) rfl own started (by kernel_rfl) Try.func4
    (OpenSpec.witness (enc := enc) (C := Try.checked) (s := Rows.OpenSpec.upto Rows.sealNobodySpec) (k := Rows.uptoSmall) rfl false ⟨#[], #[.agg #[(.int .i64 0), (.int .i64 0), (.slice none 0 0), (.int .u8 0), (.int .u8 0), (.int .u8 0), (.int .u8 0), (.int .u8 0), (.int .u8 0), (.int .u8 0), (.int .u8 0), (.int .u8 0), (.int .u8 0), (.int .u8 0), (.int .u8 0), (.int .u8 0), (.int .u8 0), (.int .u8 0), (.int .u8 0), (.int .u8 0), (.int .u8 0), (.int .u8 0), (.int .u8 0), (.int .u8 0), (.int .u8 0), (.int .u8 0), (.int .u8 0), (.int .u8 0), (.int .u8 0), (.int .u8 0), (.int .u8 0), (.int .u8 0), (.int .u8 0), (.int .u8 0), (.int .u8 0), (.slice none 0 0)]], []⟩ 8 (by kernel_rfl) (by kernel_rfl) (by kernel_rfl)
      (x := ([.agg [(.lit (.int .i64 0)), (.lit (.int .i64 0)), (.nil), (.agg (List.replicate 32 (.lit (.int .u8 0)))), (.nil)]], [], [])) (by kernel_rfl) rfl (by kernel_rfl)) ?_
  intro W base args ds gs before hval hW _ hk _
  exact contract H enc W base args ds gs before hval hW hk
theorem over : Rows.sealNobodyUptoRow.holds Try.pinned (Rows.OpenSpec.upto Rows.sealNobodySpec) :=
  OpenClaim.holds_of_cond 4 Try.f4 rfl rfl rfl rfl rfl rfl rfl ⟨rfl, rfl, rfl, rfl, rfl⟩ rfl rfl rfl rfl rfl (by kernel_rfl) Try.func4 (by kernel_rfl)
    (of_decide_eq_true (by kernel_rfl)) (by unfold Func.isWrapper; first | (rw [if_pos (by decide +kernel)]; kernel_rfl) | (rw [if_neg (by decide +kernel)]; exact ⟨rfl, rfl⟩))
    (fun os started H enc _ F => lifted os started H enc F)
theorem proved : Rows.SealNobodyUptoSaid := over
#print axioms proved
end Go.Proofs.Ytfbhiilolpamaaa.lawSealNobody
