/- The law TreeBinds, where what it reads is of bulk at most 1048576: the call returns true, and each argument reads as it read. No further condition. -/
import Derived.Test.YtkffegaofdpkiaaM7
set_option linter.unusedVariables false
set_option maxRecDepth 100000
set_option maxHeartbeats 2000000
namespace Go.Proofs.Ytkffegaofdpkiaa.lawTreeBinds
open Go Go.RowKit Go.Inc Go.ChangeShapes Go.WideShapes Go.ChangeAt
theorem rd5b : Rds Try.prog 5 (Ty.kd (.byte)) sm0 := (rds_byte Try.underlying5)
theorem rd31 : Rds Try.prog 31 (Ty.kd (.arr 32 .byte)) (smL sm0) := (rds_arr Try.underlying31 (tt5b) (tt31) rd5b)
theorem rd22 : Rds Try.prog 22 (Ty.kd (.sl (.arr 32 .byte))) (smL (smL sm0)) := (rds_sl Try.underlying22 (tt31) rfl rd31)
theorem rd3 : Rds Try.prog 3 (Ty.kd (.int .i64)) sm0 := (rds_int Try.underlying3)
theorem laid : laidOutB Try.prog = true := by kernel_rfl
theorem own : ownKnob Try.prog.godebug = none := by kernel_rfl
theorem contract (H : Type) (enc : TypeId × Value → H) (W : World) (base : Nat) (args : Array Value) (ds gs : List (DataW H)) (before : List MemPlace)
    (hval : ∀ (j : Nat) t v, Try.f9.params[j]? = some t → args[j]? = some v → Value.okWide Try.prog W .any base t v)
    (hW : DataW.Whole enc Try.prog Try.f9.params.toList Rows.treeBindsSpec.vars false W args.toList ds gs before) (hk : Rows.uptoSmall H (ds ++ gs) = true) :
    Calls Try.prog 9 args W fun e W' => ∃ v, e = .returned v ∧ Rows.treeBindsSpec.post enc Try.prog Try.f9 false true false false W args v W' := by
  have hW' := hW
  obtain ⟨p, q, hA0, hV, rfl, hfz, hnd⟩ := hW
  have hA : DataW.TrodAll enc Try.prog W 0 (fun _ => true) true [22, 3, 31, 22] args.toList ds p := hA0
  obtain ⟨v0, vs0, d0, ds0, p0, q0, hargs0, hds0, hps0, h0, r0⟩ := trodAll_cons hA
  obtain ⟨v1, vs1, d1, ds1, p1, q1, hargs1, hds1, hps1, h1, r1⟩ := trodAll_cons r0
  obtain ⟨v2, vs2, d2, ds2, p2, q2, hargs2, hds2, hps2, h2, r2⟩ := trodAll_cons r1
  obtain ⟨v3, vs3, d3, ds3, p3, q3, hargs3, hds3, hps3, h3, r3⟩ := trodAll_cons r2
  obtain ⟨hn1, hn2, hn3⟩ := trodAll_nil r3
  obtain rfl : args = #[v0, v1, v2, v3] := by cases args; simp_all
  obtain ⟨hg1, hg2⟩ := trodVars_none hV
  have hb := small_of hk
  have e : ds = [d0, d1, d2, d3] := by simp_all
  subst hg1
  rw [e] at hb
  simp only [List.append_nil, Rows.uptoBulkAll] at hb
  obtain ⟨a0, k0, z0⟩ := open_arg rd22 (tt22) (hval 0 22 v0 rfl rfl) h0 (by omega)
  obtain ⟨a1, k1, z1⟩ := open_arg rd3 (tt3) (hval 1 3 v1 rfl rfl) h1 (by omega)
  obtain ⟨a2, k2, z2⟩ := open_arg rd31 (tt31) (hval 2 31 v2 rfl rfl) h2 (by omega)
  obtain ⟨a3, k3, z3⟩ := open_arg rd22 (tt22) (hval 3 22 v3 rfl rfl) h3 (by omega)
  refine (un_v (t := .bool) TreeBinds_k (fun _ => rfl) (fun _ => rfl) (a := (a0, a1, a2, a3, ())) (vs := [v0, v1, v2, v3]) (trivial) (Models.ofW W) (fun θ => ⟨_, _, rfl, SVal.of_rel (t := .sl (.arr 32 .byte)) k0, ⟨_, _, rfl, SVal.of_rel (t := .int .i64) k1, ⟨_, _, rfl, SVal.of_rel (t := .arr 32 .byte) k2, ⟨_, _, rfl, SVal.of_rel (t := .sl (.arr 32 .byte)) k3, rfl⟩⟩⟩⟩)).mono fun e W' ⟨K', r, he, hE, hM, hr⟩ => ?_
  subst he
  rw [bool_form hr]
  refine ⟨_, rfl, post_true (tb := 4) hW' laid (by kernel_rfl) rfl Try.underlying4 rfl ?_ ?_ ?_ (below_of hE)⟩
  · rw [e]; rfl
  · rw [e]; rfl
  · rw [e]; rfl
theorem lifted (os : Os) (started : os.Started) (H : Type) (enc : TypeId × Value → H) (F : Stop.Interp) :
    ReturnsInHanded {} Try.checked os 9 .any ((Rows.OpenSpec.upto Rows.treeBindsSpec).pre6 enc Try.prog Try.f9 Rows.treeBindsUptoRow.domain false) (((Rows.OpenSpec.upto Rows.treeBindsSpec).at F).post enc Try.prog Try.f9 false true false false) := by
  refine returnsInHanded_of_cond (C := Try.checked) (s := Rows.OpenSpec.upto Rows.treeBindsSpec) (k := Rows.uptoSmall) rfl own started (by kernel_rfl) Try.func9
    (OpenSpec.witness (enc := enc) (C := Try.checked) (s := Rows.OpenSpec.upto Rows.treeBindsSpec) (k := Rows.uptoSmall) rfl false ⟨#[], #[.slice none 0 0, .int .i64 0, .agg #[(.int .u8 0), (.int .u8 0), (.int .u8 0), (.int .u8 0), (.int .u8 0), (.int .u8 0), (.int .u8 0), (.int .u8 0), (.int .u8 0), (.int .u8 0), (.int .u8 0), (.int .u8 0), (.int .u8 0), (.int .u8 0), (.int .u8 0), (.int .u8 0), (.int .u8 0), (.int .u8 0), (.int .u8 0), (.int .u8 0), (.int .u8 0), (.int .u8 0), (.int .u8 0), (.int .u8 0), (.int .u8 0), (.int .u8 0), (.int .u8 0), (.int .u8 0), (.int .u8 0), (.int .u8 0), (.int .u8 0), (.int .u8 0)], .slice none 0 0], []⟩ 8 (by kernel_rfl) (by kernel_rfl) (by kernel_rfl)
      (x := ([.nil, .lit (.int .i64 0), .agg (List.replicate 32 (.lit (.int .u8 0))), .nil], [], [])) (by kernel_rfl) rfl (by kernel_rfl)) ?_
  intro W base args ds gs before hval hW _ hk _
  exact contract H enc W base args ds gs before hval hW hk
theorem over : Rows.treeBindsUptoRow.holds Try.pinned (Rows.OpenSpec.upto Rows.treeBindsSpec) :=
  OpenClaim.holds_of_cond 9 Try.f9 rfl rfl rfl rfl rfl rfl rfl ⟨rfl, rfl, rfl, rfl, rfl⟩ rfl rfl rfl rfl rfl (by kernel_rfl) Try.func9 (by kernel_rfl)
    (of_decide_eq_true (by kernel_rfl)) (by unfold Func.isWrapper; first | (rw [if_pos (by decide +kernel)]; kernel_rfl) | (rw [if_neg (by decide +kernel)]; exact ⟨rfl, rfl⟩))
    (fun os started H enc _ F => lifted os started H enc F)
theorem proved : Rows.TreeBindsUptoSaid := over
#print axioms proved
end Go.Proofs.Ytkffegaofdpkiaa.lawTreeBinds
