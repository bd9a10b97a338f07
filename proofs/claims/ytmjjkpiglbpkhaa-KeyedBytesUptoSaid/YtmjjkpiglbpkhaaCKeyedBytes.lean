/- The law KeyedBytes, where what it reads is of bulk at most 1048576: the call returns true, and each argument reads as it read. No further condition. -/
import Derived.Test.YtmjjkpiglbpkhaaM7
set_option linter.unusedVariables false
set_option maxRecDepth 100000
set_option maxHeartbeats 2000000
namespace Go.Proofs.Ytmjjkpiglbpkhaa.lawKeyedBytes
open Go Go.RowKit Go.Inc Go.ChangeShapes Go.WideShapes Go.ChangeAt
theorem rd5b : Rds Try.prog 5 (Ty.kd (.byte)) sm0 := (qrH Try.underlying5)
theorem rd24 : Rds Try.prog 24 (Ty.kd (.arr 32 .byte)) (smL sm0) := (quu Try.underlying24 (tt5b) (tt24) rd5b)
theorem rd80 : Rds Try.prog 80 (Ty.kd (.sl (.arr 32 .byte))) (smL (smL sm0)) := (qpp Try.underlying80 (tt24) rfl rd24)
theorem rd32 : Rds Try.prog 32 (Ty.kd (.sl .byte)) (smL sm0) := (qpp Try.underlying32 (tt5b) rfl rd5b)
theorem rd57 : Rds Try.prog 57 (Ty.kd (.pr (.sl .byte) (.sl .byte))) (smP (smL sm0) (smL sm0)) := (qfE Try.underlying57 (tt57) (qeK (tt32) rfl rd32 (qiY (tt32) rfl rd32)))
theorem rd3 : Rds Try.prog 3 (Ty.kd (.int .i64)) sm0 := (quv Try.underlying3)
theorem rd82 : Rds Try.prog 82 (Ty.kd (.pr (.int .i64) (.pr (.pr (.sl .byte) (.sl .byte)) (.sl (.arr 32 .byte))))) (smP sm0 (smP (smP (smL sm0) (smL sm0)) (smL (smL sm0)))) := (qfE Try.underlying82 (tt82) (qeK (tt3) rfl rd3 (qeK (tt57) rfl rd57 (qiY (tt80) rfl rd80))))
theorem rd61 : Rds Try.prog 61 (Ty.kd (.sl (.pr (.int .i64) (.pr (.pr (.sl .byte) (.sl .byte)) (.sl (.arr 32 .byte)))))) (smL (smP sm0 (smP (smP (smL sm0) (smL sm0)) (smL (smL sm0))))) := (qpp Try.underlying61 (tt82) rfl rd82)
theorem rd63 : Rds Try.prog 63 (Ty.kd (.pr (.int .i64) (.sl (.pr (.int .i64) (.pr (.pr (.sl .byte) (.sl .byte)) (.sl (.arr 32 .byte))))))) (smP sm0 (smL (smP sm0 (smP (smP (smL sm0) (smL sm0)) (smL (smL sm0)))))) := (qfE Try.underlying63 (tt63) (qeK (tt3) rfl rd3 (qiY (tt61) rfl rd61)))
theorem laid : laidOutB Try.prog = true := by kernel_rfl
theorem own : ownKnob Try.prog.godebug = none := by kernel_rfl
theorem contract (H : Type) (enc : TypeId × Value → H) (W : World) (base : Nat) (args : Array Value) (ds gs : List (DataW H)) (before : List MemPlace)
 (hval : ∀ (j : Nat) t v, Try.f9.params[j]? = some t → args[j]? = some v → Value.okWide Try.prog W .any base t v)
 (hW : DataW.Whole enc Try.prog Try.f9.params.toList Rows.keyedBytesSpec.vars false W args.toList ds gs before) (hk : Rows.uptoSmall H (ds ++ gs) = true) :
 Calls Try.prog 9 args W fun e W' => ∃ v, e = .returned v ∧ Rows.keyedBytesSpec.post enc Try.prog Try.f9 false true false false W args v W' := by
 have hW' := hW
 obtain ⟨p, q, hA0, hV, rfl, hfz, hnd⟩ := hW
 have hA : DataW.TrodAll enc Try.prog W 0 (fun _ => true) true [63, 32, 32] args.toList ds p := hA0
 obtain ⟨v0, vs0, d0, ds0, p0, q0, hargs0, hds0, hps0, h0, r0⟩ := trodAll_cons hA
 obtain ⟨v1, vs1, d1, ds1, p1, q1, hargs1, hds1, hps1, h1, r1⟩ := trodAll_cons r0
 obtain ⟨v2, vs2, d2, ds2, p2, q2, hargs2, hds2, hps2, h2, r2⟩ := trodAll_cons r1
 obtain ⟨hn1, hn2, hn3⟩ := trodAll_nil r2
 obtain rfl : args = #[v0, v1, v2] := by cases args; simp_all
 obtain ⟨hg1, hg2⟩ := trodVars_none hV
 have hb := qrP hk
 have e : ds = [d0, d1, d2] := by simp_all
 subst hg1
 rw [e] at hb
 simp only [List.append_nil, Rows.uptoBulkAll] at hb
 obtain ⟨a0, k0, z0⟩ := qiU rd63 (tt63) (hval 0 63 v0 rfl rfl) h0 (by omega)
 obtain ⟨a1, k1, z1⟩ := qiU rd32 (tt32) (hval 1 32 v1 rfl rfl) h1 (by omega)
 obtain ⟨a2, k2, z2⟩ := qiU rd32 (tt32) (hval 2 32 v2 rfl rfl) h2 (by omega)
 refine (un_v (t := .bool) qjh (fun _ => rfl) (fun _ => rfl) (a := (a0, a1, a2, ())) (vs := [v0, v1, v2]) (trivial) (Models.ofW W) (fun θ => ⟨_, _, rfl, SVal.of_rel (t := .pr (.int .i64) (.sl (.pr (.int .i64) (.pr (.pr (.sl .byte) (.sl .byte)) (.sl (.arr 32 .byte)))))) k0, ⟨_, _, rfl, SVal.of_rel (t := .sl .byte) k1, ⟨_, _, rfl, SVal.of_rel (t := .sl .byte) k2, rfl⟩⟩⟩)).mono fun e W' ⟨K', r, he, hE, hM, hr⟩ => ?_
 subst he
 rw [qcS hr]
 refine ⟨_, rfl, qpm (tb := 4) hW' laid (by kernel_rfl) rfl Try.underlying4 rfl ?_ ?_ ?_ (qqM hE)⟩
 ·rw [e]; rfl
 ·rw [e]; rfl
 ·rw [e]; rfl
theorem lifted (os : Os) (started : os.Started) (H : Type) (enc : TypeId × Value → H) (F : Stop.Interp) :
 ReturnsInHanded {} Try.checked os 9 .any ((Rows.OpenSpec.upto Rows.keyedBytesSpec).pre6 enc Try.prog Try.f9 Rows.keyedBytesUptoRow.domain false) (((Rows.OpenSpec.upto Rows.keyedBytesSpec).at F).post enc Try.prog Try.f9 false true false false) := by
 refine returnsInHanded_of_cond (C := Try.checked) (s := Rows.OpenSpec.upto Rows.keyedBytesSpec) (k := Rows.uptoSmall) rfl own started (by kernel_rfl) Try.func9
  (OpenSpec.witness (enc := enc) (C := Try.checked) (s := Rows.OpenSpec.upto Rows.keyedBytesSpec) (k := Rows.uptoSmall) rfl false ⟨#[], #[.agg #[(.int .i64 0), (.slice none 0 0)], .slice none 0 0, .slice none 0 0], []⟩ 8 (by kernel_rfl) (by kernel_rfl) (by kernel_rfl)
    (x := ([.agg [(.lit (.int .i64 0)), (.nil)], .nil, .nil], [], [])) (by kernel_rfl) rfl (by kernel_rfl)) ?_
 intro W base args ds gs before hval hW _ hk _
 exact contract H enc W base args ds gs before hval hW hk
theorem over : Rows.keyedBytesUptoRow.holds Try.pinned (Rows.OpenSpec.upto Rows.keyedBytesSpec) :=
 OpenClaim.holds_of_cond 9 Try.f9 rfl rfl rfl rfl rfl rfl rfl ⟨rfl, rfl, rfl, rfl, rfl⟩ rfl rfl rfl rfl rfl (by kernel_rfl) Try.func9 (by kernel_rfl)
  (of_decide_eq_true (by kernel_rfl)) (by unfold Func.isWrapper; first | (rw [if_pos (by decide +kernel)]; kernel_rfl) | (rw [if_neg (by decide +kernel)]; exact ⟨rfl, rfl⟩))
  (fun os started H enc _ F => lifted os started H enc F)
theorem proved : Rows.KeyedBytesUptoSaid := over
#print axioms proved
end Go.Proofs.Ytmjjkpiglbpkhaa.lawKeyedBytes
