/- The law TreeShows, where what it reads is of bulk at most 1048576: the call returns true, and each argument reads as it read. No further condition. -/
import Derived.Test.YtkffegaofdpkiaaM7
set_option linter.unusedVariables false
set_option maxRecDepth 100000
set_option maxHeartbeats 2000000
namespace Go.Proofs.Ytkffegaofdpkiaa.lawTreeShows
open Go Go.RowKit Go.Inc Go.ChangeShapes Go.WideShapes Go.ChangeAt
theorem rd5b : Rds Try.prog 5 (Ty.kd (.byte)) sm0 := (rds_byte Try.underlying5)
theorem rd31 : Rds Try.prog 31 (Ty.kd (.arr 32 .byte)) (smL sm0) := (rds_arr Try.underlying31 (tt5b) (tt31) rd5b)
theorem rd22 : Rds Try.prog 22 (Ty.kd (.sl (.arr 32 .byte))) (smL (smL sm0)) := (rds_sl Try.underlying22 (tt31) rfl rd31)
theorem laid : laidOutB Try.prog = true := by kernel_rfl
theorem own : ownKnob Try.prog.godebug = none := by kernel_rfl
theorem contract (H : Type) (enc : TypeId × Value → H) (W : World) (base : Nat) (args : Array Value) (ds gs : List (DataW H)) (before : List MemPlace)
    (hval : ∀ (j : Nat) t v, Try.f5.params[j]? = some t → args[j]? = some v → Value.okWide Try.prog W .any base t v)
    (hW : DataW.Whole enc Try.prog Try.f5.params.toList Rows.treeShowsSpec.vars false W args.toList ds gs before) (hk : Rows.uptoSmall H (ds ++ gs) = true) :
    Calls Try.prog 5 args W fun e W' => ∃ v, e = .returned v ∧ Rows.treeShowsSpec.post enc Try.prog Try.f5 false true false false W args v W' := by
  have hW' := hW
  obtain ⟨p, q, hA0, hV, rfl, hfz, hnd⟩ := hW
  have hA : DataW.TrodAll enc Try.prog W 0 (fun _ => true) true [22] args.toList ds p := hA0
  obtain ⟨v0, vs0, d0, ds0, p0, q0, hargs0, hds0, hps0, h0, r0⟩ := trodAll_cons hA
  obtain ⟨hn1, hn2, hn3⟩ := trodAll_nil r0
  obtain rfl : args = #[v0] := by cases args; simp_all
  obtain ⟨hg1, hg2⟩ := trodVars_none hV
  have hb := small_of hk
  have e : ds = [d0] := by simp_all
  subst hg1
  rw [e] at hb
  simp only [List.append_nil, Rows.uptoBulkAll] at hb
  obtain ⟨a0, k0, z0⟩ := open_arg rd22 (tt22) (hval 0 22 v0 rfl rfl) h0 (by omega)
  refine (un_v (t := .bool) TreeShows_k (fun _ => rfl) (fun _ => rfl) (a := (a0, ())) (vs := [v0]) (trivial) (Models.ofW W) (fun θ => ⟨_, _, rfl, SVal.of_rel (t := .sl (.arr 32 .byte)) k0, rfl⟩)).mono fun e W' ⟨K', r, he, hE, hM, hr⟩ => ?_
  subst he
  rw [bool_form hr]
  refine ⟨_, rfl, post_true (tb := 4) hW' laid (by kernel_rfl) rfl Try.underlying4 rfl ?_ ?_ ?_ (below_of hE)⟩
  · rw [e]; rfl
  · rw [e]; rfl
  · rw [e]; rfl
theorem lifted (os : Os) (started : os.Started) (H : Type) (enc : TypeId × Value → H) (F : Stop.Interp) :
    ReturnsInHanded {} Try.checked os 5 .any ((Rows.OpenSpec.upto Rows.treeShowsSpec).pre6 enc Try.prog Try.f5 Rows.treeShowsUptoRow.domain false) (((Rows.OpenSpec.upto Rows.treeShowsSpec).at F).post enc Try.prog Try.f5 false true false false) := by
  refine returnsInHanded_of_cond (C := Try.checked) (s := Rows.OpenSpec.upto Rows.treeShowsSpec) (k := Rows.uptoSmall) rfl own started (by kernel_rfl) Try.func5
    (OpenSpec.witness (enc := enc) (C := Try.checked) (s := Rows.OpenSpec.upto Rows.treeShowsSpec) (k := Rows.uptoSmall) rfl false ⟨#[], #[.slice none 0 0], []⟩ 8 (by kernel_rfl) (by kernel_rfl) (by kernel_rfl)
      (x := ([.nil], [], [])) (by kernel_rfl) rfl (by kernel_rfl)) ?_
  intro W base args ds gs before hval hW _ hk _
  exact contract H enc W base args ds gs before hval hW hk
theorem over : Rows.treeShowsUptoRow.holds Try.pinned (Rows.OpenSpec.upto Rows.treeShowsSpec) :=
  OpenClaim.holds_of_cond 5 Try.f5 rfl rfl rfl rfl rfl rfl rfl ⟨rfl, rfl, rfl, rfl, rfl⟩ rfl rfl rfl rfl rfl (by kernel_rfl) Try.func5 (by kernel_rfl)
    (of_decide_eq_true (by kernel_rfl)) (by unfold Func.isWrapper; first | (rw [if_pos (by decide +kernel)]; kernel_rfl) | (rw [if_neg (by decide +kernel)]; exact ⟨rfl, rfl⟩))
    (fun os started H enc _ F => lifted os started H enc F)
theorem proved : Rows.TreeShowsUptoSaid := over
#print axioms proved
end Go.Proofs.Ytkffegaofdpkiaa.lawTreeShows
