/- The law KeyedBinds, where what it reads is of bulk at most 1048576: the call returns true, and each argument reads as it read. No further condition. -/
import Derived.Test.YtmjjkpiglbpkhaaM7
set_option linter.unusedVariables false
set_option maxRecDepth 100000
set_option maxHeartbeats 2000000
namespace Go.Proofs.Ytmjjkpiglbpkhaa.lawKeyedBinds
open Go Go.RowKit Go.Inc Go.ChangeShapes Go.WideShapes Go.ChangeAt
theorem rd5b : Rds Try.prog 5 (Ty.kd (.byte)) sm0 := (rds_byte Try.underlying5)
theorem rd32 : Rds Try.prog 32 (Ty.kd (.sl .byte)) (smL sm0) := (rds_sl Try.underlying32 (tt5b) rfl rd5b)
theorem rd57 : Rds Try.prog 57 (Ty.kd (.pr (.sl .byte) (.sl .byte))) (smP (smL sm0) (smL sm0)) := (rds_struct Try.underlying57 (tt57) (rdsF_cons (tt32) rfl rd32 (rdsF_one (tt32) rfl rd32)))
theorem rd53 : Rds Try.prog 53 (Ty.kd (.sl (.pr (.sl .byte) (.sl .byte)))) (smL (smP (smL sm0) (smL sm0))) := (rds_sl Try.underlying53 (tt57) rfl rd57)
theorem rd24 : Rds Try.prog 24 (Ty.kd (.arr 32 .byte)) (smL sm0) := (rds_arr Try.underlying24 (tt5b) (tt24) rd5b)
theorem rd80 : Rds Try.prog 80 (Ty.kd (.sl (.arr 32 .byte))) (smL (smL sm0)) := (rds_sl Try.underlying80 (tt24) rfl rd24)
theorem rd3 : Rds Try.prog 3 (Ty.kd (.int .i64)) sm0 := (rds_int Try.underlying3)
theorem rd82 : Rds Try.prog 82 (Ty.kd (.pr (.int .i64) (.pr (.pr (.sl .byte) (.sl .byte)) (.sl (.arr 32 .byte))))) (smP sm0 (smP (smP (smL sm0) (smL sm0)) (smL (smL sm0)))) := (rds_struct Try.underlying82 (tt82) (rdsF_cons (tt3) rfl rd3 (rdsF_cons (tt57) rfl rd57 (rdsF_one (tt80) rfl rd80))))
theorem rd61 : Rds Try.prog 61 (Ty.kd (.sl (.pr (.int .i64) (.pr (.pr (.sl .byte) (.sl .byte)) (.sl (.arr 32 .byte)))))) (smL (smP sm0 (smP (smP (smL sm0) (smL sm0)) (smL (smL sm0))))) := (rds_sl Try.underlying61 (tt82) rfl rd82)
theorem rd63 : Rds Try.prog 63 (Ty.kd (.pr (.int .i64) (.sl (.pr (.int .i64) (.pr (.pr (.sl .byte) (.sl .byte)) (.sl (.arr 32 .byte))))))) (smP sm0 (smL (smP sm0 (smP (smP (smL sm0) (smL sm0)) (smL (smL sm0)))))) := (rds_struct Try.underlying63 (tt63) (rdsF_cons (tt3) rfl rd3 (rdsF_one (tt61) rfl rd61)))
theorem laid : laidOutB Try.prog = true := by kernel_rfl
theorem own : ownKnob Try.prog.godebug = none := by kernel_rfl
theorem contract (H : Type) (enc : TypeId × Value → H) (W : World) (base : Nat) (args : Array Value) (ds gs : List (DataW H)) (before : List MemPlace)
    (hval : ∀ (j : Nat) t v, Try.f6.params[j]? = some t → args[j]? = some v → Value.okWide Try.prog W .any base t v)
    (hW : DataW.Whole enc Try.prog Try.f6.params.toList Rows.keyedBindsSpec.vars false W args.toList ds gs before) (hk : Rows.uptoSmall H (ds ++ gs) = true) :
    Calls Try.prog 6 args W fun e W' => ∃ v, e = .returned v ∧ Rows.keyedBindsSpec.post enc Try.prog Try.f6 false true false false W args v W' := by
  have hW' := hW
  obtain ⟨p, q, hA0, hV, rfl, hfz, hnd⟩ := hW
  have hA : DataW.TrodAll enc Try.prog W 0 (fun _ => true) true [53, 32, 63] args.toList ds p := hA0
  obtain ⟨v0, vs0, d0, ds0, p0, q0, hargs0, hds0, hps0, h0, r0⟩ := trodAll_cons hA
  obtain ⟨v1, vs1, d1, ds1, p1, q1, hargs1, hds1, hps1, h1, r1⟩ := trodAll_cons r0
  obtain ⟨v2, vs2, d2, ds2, p2, q2, hargs2, hds2, hps2, h2, r2⟩ := trodAll_cons r1
  obtain ⟨hn1, hn2, hn3⟩ := trodAll_nil r2
  obtain rfl : args = #[v0, v1, v2] := by cases args; simp_all
  obtain ⟨hg1, hg2⟩ := trodVars_none hV
  have hb := small_of hk
  have e : ds = [d0, d1, d2] := by simp_all
  subst hg1
  rw [e] at hb
  simp only [List.append_nil, Rows.uptoBulkAll] at hb
  obtain ⟨a0, k0, z0⟩ := open_arg rd53 (tt53) (hval 0 53 v0 rfl rfl) h0 (by omega)
  obtain ⟨a1, k1, z1⟩ := open_arg rd32 (tt32) (hval 1 32 v1 rfl rfl) h1 (by omega)
  obtain ⟨a2, k2, z2⟩ := open_arg rd63 (tt63) (hval 2 63 v2 rfl rfl) h2 (by omega)
  refine (un_v (t := .bool) KeyedBinds_k (fun _ => rfl) (fun _ => rfl) (a := (a0, a1, a2, ())) (vs := [v0, v1, v2]) (trivial) (Models.ofW W) (fun θ => ⟨_, _, rfl, SVal.of_rel (t := .sl (.pr (.sl .byte) (.sl .byte))) k0, ⟨_, _, rfl, SVal.of_rel (t := .sl .byte) k1, ⟨_, _, rfl, SVal.of_rel (t := .pr (.int .i64) (.sl (.pr (.int .i64) (.pr (.pr (.sl .byte) (.sl .byte)) (.sl (.arr 32 .byte)))))) k2, rfl⟩⟩⟩)).mono fun e W' ⟨K', r, he, hE, hM, hr⟩ => ?_
  subst he
  rw [bool_form hr]
  refine ⟨_, rfl, post_true (tb := 4) hW' laid (by kernel_rfl) rfl Try.underlying4 rfl ?_ ?_ ?_ (below_of hE)⟩
  · rw [e]; rfl
  · rw [e]; rfl
  · rw [e]; rfl
theorem lifted (os : Os) (started : os.Started) (H : Type) (enc : TypeId × Value → H) (F : Stop.Interp) :
    ReturnsInHanded {} Try.checked os 6 .any ((Rows.OpenSpec.upto Rows.keyedBindsSpec).pre6 enc Try.prog Try.f6 Rows.keyedBindsUptoRow.domain false) (((Rows.OpenSpec.upto Rows.keyedBindsSpec).at F).post enc Try.prog Try.f6 false true false false) := by
  refine returnsInHanded_of_cond (C := Try.checked) (s := Rows.OpenSpec.upto Rows.keyedBindsSpec) (k := Rows.uptoSmall) rfl own started (by kernel_rfl) Try.func6
    (OpenSpec.witness (enc := enc) (C := Try.checked) (s := Rows.OpenSpec.upto Rows.keyedBindsSpec) (k := Rows.uptoSmall) rfl false ⟨#[], #[.slice none 0 0, .slice none 0 0, .agg #[(.int .i64 0), (.slice none 0 0)]], []⟩ 8 (by kernel_rfl) (by kernel_rfl) (by kernel_rfl)
      (x := ([.nil, .nil, .agg [(.lit (.int .i64 0)), (.nil)]], [], [])) (by kernel_rfl) rfl (by kernel_rfl)) ?_
  intro W base args ds gs before hval hW _ hk _
  exact contract H enc W base args ds gs before hval hW hk
theorem over : Rows.keyedBindsUptoRow.holds Try.pinned (Rows.OpenSpec.upto Rows.keyedBindsSpec) :=
  OpenClaim.holds_of_cond 6 Try.f6 rfl rfl rfl rfl rfl rfl rfl ⟨rfl, rfl, rfl, rfl, rfl⟩ rfl rfl rfl rfl rfl (by kernel_rfl) Try.func6 (by kernel_rfl)
    (of_decide_eq_true (by kernel_rfl)) (by unfold Func.isWrapper; first | (rw [if_pos (by decide +kernel)]; kernel_rfl) | (rw [if_neg (by decide +kernel)]; exact ⟨rfl, rfl⟩))
    (fun os started H enc _ F => lifted os started H enc F)
theorem proved : Rows.KeyedBindsUptoSaid := over
#print axioms proved
end Go.Proofs.Ytmjjkpiglbpkhaa.lawKeyedBinds
