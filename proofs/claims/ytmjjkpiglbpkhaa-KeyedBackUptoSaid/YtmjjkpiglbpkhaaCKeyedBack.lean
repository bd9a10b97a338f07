/- The law KeyedBack, where what it reads is of bulk at most 1048576: the call returns true, and each argument reads as it read. No further condition. -/
import Derived.Test.YtmjjkpiglbpkhaaM6
set_option linter.unusedVariables false
set_option maxRecDepth 100000
set_option maxHeartbeats 2000000
namespace Go.Proofs.Ytmjjkpiglbpkhaa.lawKeyedBack
open Go Go.RowKit Go.Inc Go.ChangeShapes Go.WideShapes Go.ChangeAt
theorem rd5b : Rds Try.prog 5 (Ty.kd (.byte)) sm0 := (qmz Try.underlying5)
theorem rd32 : Rds Try.prog 32 (Ty.kd (.sl .byte)) (smL sm0) := (qmA Try.underlying32 (tt5b) rfl rd5b)
theorem rd3 : Rds Try.prog 3 (Ty.kd (.int .i64)) sm0 := (qpO Try.underlying3)
theorem laid : laidOutB Try.prog = true := by kernel_rfl
theorem own : ownKnob Try.prog.godebug = none := by kernel_rfl
theorem contract (H : Type) (enc : TypeId × Value → H) (W : World) (base : Nat) (args : Array Value) (ds gs : List (DataW H)) (before : List MemPlace)
 (hval : ∀ (j : Nat) t v, Try.f10.params[j]? = some t → args[j]? = some v → Value.okWide Try.prog W .any base t v)
 (hW : DataW.Whole enc Try.prog Try.f10.params.toList Rows.keyedBackSpec.vars false W args.toList ds gs before) (hk : Rows.uptoSmall H (ds ++ gs) = true) :
 Calls Try.prog 10 args W fun e W' => ∃ v, e = .returned v ∧ Rows.keyedBackSpec.post enc Try.prog Try.f10 false true false false W args v W' := by
 have hW' := hW
 obtain ⟨p, q, hA0, hV, rfl, hfz, hnd⟩ := hW
 have hA : DataW.TrodAll enc Try.prog W 0 (fun _ => true) true [32, 3] args.toList ds p := hA0
 obtain ⟨v0, vs0, d0, ds0, p0, q0, hargs0, hds0, hps0, h0, r0⟩ := trodAll_cons hA
 obtain ⟨v1, vs1, d1, ds1, p1, q1, hargs1, hds1, hps1, h1, r1⟩ := trodAll_cons r0
 obtain ⟨hn1, hn2, hn3⟩ := trodAll_nil r1
 obtain rfl : args = #[v0, v1] := by cases args; simp_all
 obtain ⟨hg1, hg2⟩ := trodVars_none hV
 have hb := qmK hk
 have e : ds = [d0, d1] := by simp_all
 subst hg1
 rw [e] at hb
 simp only [List.append_nil, Rows.uptoBulkAll] at hb
 obtain ⟨a0, k0, z0⟩ := qe2 rd32 (tt32) (hval 0 32 v0 rfl rfl) h0 (by omega)
 obtain ⟨a1, k1, z1⟩ := qe2 rd3 (tt3) (hval 1 3 v1 rfl rfl) h1 (by omega)
 refine (un_v (t := .bool) qkA (fun _ => rfl) (fun _ => rfl) (a := (a0, a1, ())) (vs := [v0, v1]) (trivial) (Models.ofW W) (fun θ => ⟨_, _, rfl, SVal.of_rel (t := .sl .byte) k0, ⟨_, _, rfl, SVal.of_rel (t := .int .i64) k1, rfl⟩⟩)).mono fun e W' ⟨K', r, he, hE, hM, hr⟩ => ?_
 subst he
 rw [qco hr]
 refine ⟨_, rfl, qkb (tb := 4) hW' laid (by kernel_rfl) rfl Try.underlying4 rfl ?_ ?_ ?_ (qlY hE)⟩
 ·rw [e]; rfl
 ·rw [e]; rfl
 ·rw [e]; rfl
theorem lifted (os : Os) (started : os.Started) (H : Type) (enc : TypeId × Value → H) (F : Stop.Interp) :
 ReturnsInHanded {} Try.checked os 10 .any ((Rows.OpenSpec.upto Rows.keyedBackSpec).pre6 enc Try.prog Try.f10 Rows.keyedBackUptoRow.domain false) (((Rows.OpenSpec.upto Rows.keyedBackSpec).at F).post enc Try.prog Try.f10 false true false false) := by
 refine returnsInHanded_of_cond (C := Try.checked) (s := Rows.OpenSpec.upto Rows.keyedBackSpec) (k := Rows.uptoSmall) rfl own started (by kernel_rfl) Try.func10
  (OpenSpec.witness (enc := enc) (C := Try.checked) (s := Rows.OpenSpec.upto Rows.keyedBackSpec) (k := Rows.uptoSmall) rfl false ⟨#[], #[.slice none 0 0, .int .i64 0], []⟩ 8 (by kernel_rfl) (by kernel_rfl) (by kernel_rfl)
    (x := ([.nil, .lit (.int .i64 0)], [], [])) (by kernel_rfl) rfl (by kernel_rfl)) ?_
 intro W base args ds gs before hval hW _ hk _
 exact contract H enc W base args ds gs before hval hW hk
theorem over : Rows.keyedBackUptoRow.holds Try.pinned (Rows.OpenSpec.upto Rows.keyedBackSpec) :=
 OpenClaim.holds_of_cond 10 Try.f10 rfl rfl rfl rfl rfl rfl rfl ⟨rfl, rfl, rfl, rfl, rfl⟩ rfl rfl rfl rfl rfl (by kernel_rfl) Try.func10 (by kernel_rfl)
  (of_decide_eq_true (by kernel_rfl)) (by unfold Func.isWrapper; first | (rw [if_pos (by decide +kernel)]; kernel_rfl) | (rw [if_neg (by decide +kernel)]; exact ⟨rfl, rfl⟩))
  (fun os started H enc _ F => lifted os started H enc F)
theorem proved : Rows.KeyedBackUptoSaid := over
#print axioms proved
end Go.Proofs.Ytmjjkpiglbpkhaa.lawKeyedBack
