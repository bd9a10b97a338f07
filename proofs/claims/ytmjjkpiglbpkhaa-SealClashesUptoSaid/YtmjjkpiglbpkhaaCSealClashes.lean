/- The law SealClashes, where what it reads is of bulk at most 1048576: the call returns true, and each argument reads as it read. No further condition. -/
import Derived.Test.YtmjjkpiglbpkhaaM6
set_option linter.unusedVariables false
set_option maxRecDepth 100000
set_option maxHeartbeats 2000000
namespace Go.Proofs.Ytmjjkpiglbpkhaa.lawSealClashes
open Go Go.RowKit Go.Inc Go.ChangeShapes Go.WideShapes Go.ChangeAt
theorem rd5b:Rds Try.prog 5 (Ty.kd (.byte)) sm0:=(qpz Try.underlying5)
theorem rd32:Rds Try.prog 32 (Ty.kd (.sl .byte)) (smL sm0):=(qnI Try.underlying32 (tt5b) rfl rd5b)
theorem rd24:Rds Try.prog 24 (Ty.kd (.arr 32 .byte)) (smL sm0):=(qrI Try.underlying24 (tt5b) (tt24) rd5b)
theorem rd96:Rds Try.prog 96 (Ty.kd (.sl (.sl .byte))) (smL (smL sm0)):=(qnI Try.underlying96 (tt32) rfl rd32)
theorem rd3:Rds Try.prog 3 (Ty.kd (.int .i64)) sm0:=(qrJ Try.underlying3)
theorem rd98:Rds Try.prog 98 (Ty.kd (.pr (.int .i64) (.pr (.int .i64) (.pr (.sl (.sl .byte)) (.pr (.arr 32 .byte) (.sl .byte)))))) (smP sm0 (smP sm0 (smP (smL (smL sm0)) (smP (smL sm0) (smL sm0))))):=(qlh Try.underlying98 (tt98) (qeb (tt3) rfl rd3 (qeb (tt3) rfl rd3 (qeb (tt96) rfl rd96 (qeb (tt24) rfl rd24 (qpy (tt32) rfl rd32))))))
theorem rd89:Rds Try.prog 89 (Ty.kd (.sl (.pr (.int .i64) (.pr (.int .i64) (.pr (.sl (.sl .byte)) (.pr (.arr 32 .byte) (.sl .byte))))))) (smL (smP sm0 (smP sm0 (smP (smL (smL sm0)) (smP (smL sm0) (smL sm0)))))):=(qnI Try.underlying89 (tt98) rfl rd98)
theorem laid:laidOutB Try.prog=true:=by kernel_rfl
theorem own:ownKnob Try.prog.godebug=none:=by kernel_rfl
theorem contract (H:Type) (enc:TypeId×Value→H) (W:World) (base:Nat) (args:Array Value) (ds gs:List (DataW H)) (before:List MemPlace)
 (hval: ∀(j:Nat) t v,Try.f12.params[j]?=some t→args[j]?=some v→Value.okWide Try.prog W .any base t v)
 (hW:DataW.Whole enc Try.prog Try.f12.params.toList Rows.sealClashesSpec.vars false W args.toList ds gs before) (hk:Rows.uptoSmall H (ds++gs)=true):
 Calls Try.prog 12 args W fun e W'=> ∃v,e= .returned v∧Rows.sealClashesSpec.post enc Try.prog Try.f12 false true false false W args v W':=by
 have hW':=hW
 obtain ⟨p,q,hA0,hV,rfl,hfz,hnd⟩:=hW
 have hA:DataW.TrodAll enc Try.prog W 0 (fun _=>true) true [89,89] args.toList ds p:=hA0
 obtain ⟨v0,vs0,d0,ds0,p0,q0,hargs0,hds0,hps0,h0,r0⟩:=trodAll_cons hA
 obtain ⟨v1,vs1,d1,ds1,p1,q1,hargs1,hds1,hps1,h1,r1⟩:=trodAll_cons r0
 obtain ⟨hn1,hn2,hn3⟩:=trodAll_nil r1
 obtain rfl:args= #[v0,v1]:=by cases args;simp_all
 obtain ⟨hg1,hg2⟩:=trodVars_none hV
 have hb:=qpF hk
 have e:ds=[d0,d1]:=by simp_all
 subst hg1
 rw [e] at hb
 simp only [List.append_nil,Rows.uptoBulkAll] at hb
 obtain ⟨a0,k0,z0⟩:=qkv rd89 (tt89) (hval 0 89 v0 rfl rfl) h0 (by omega)
 obtain ⟨a1,k1,z1⟩:=qkv rd89 (tt89) (hval 1 89 v1 rfl rfl) h1 (by omega)
 refine (un_v (t:= .bool) qg4 (fun _=>rfl) (fun _=>rfl) (a:=(a0,a1,())) (vs:=[v0,v1]) (⟨z0.1,z1.1⟩) (Models.ofW W) (fun θ=>⟨_,_,rfl,SVal.of_rel (t:= .sl (.pr (.int .i64) (.pr (.int .i64) (.pr (.sl (.sl .byte)) (.pr (.arr 32 .byte) (.sl .byte)))))) k0,⟨_,_,rfl,SVal.of_rel (t:= .sl (.pr (.int .i64) (.pr (.int .i64) (.pr (.sl (.sl .byte)) (.pr (.arr 32 .byte) (.sl .byte)))))) k1,rfl⟩⟩)).mono fun e W' ⟨K',r,he,hE,hM,hr⟩=>?_
 subst he
 rw [qbP hr]
 refine ⟨_,rfl,qnD (tb:=4) hW' laid (by kernel_rfl) rfl Try.underlying4 rfl ?_ ?_ ?_ (qoS hE)⟩
 ·rw [e];rfl
 ·rw [e];rfl
 ·rw [e];rfl
theorem lifted (os:Os) (started:os.Started) (H:Type) (enc:TypeId×Value→H) (F:Stop.Interp):
 ReturnsInHanded {} Try.checked os 12 .any ((Rows.OpenSpec.upto Rows.sealClashesSpec).pre6 enc Try.prog Try.f12 Rows.sealClashesUptoRow.domain false) (((Rows.OpenSpec.upto Rows.sealClashesSpec).at F).post enc Try.prog Try.f12 false true false false):=by
 refine returnsInHanded_of_cond (C:=Try.checked) (s:=Rows.OpenSpec.upto Rows.sealClashesSpec) (k:=Rows.uptoSmall) rfl own started (by kernel_rfl) Try.func12
  (OpenSpec.witness (enc:=enc) (C:=Try.checked) (s:=Rows.OpenSpec.upto Rows.sealClashesSpec) (k:=Rows.uptoSmall) rfl false ⟨#[],#[.slice none 0 0,.slice none 0 0],[]⟩ 8 (by kernel_rfl) (by kernel_rfl) (by kernel_rfl)
    (x:=([.nil,.nil],[],[])) (by kernel_rfl) rfl (by kernel_rfl)) ?_
 intro W base args ds gs before hval hW _ hk _
 exact contract H enc W base args ds gs before hval hW hk
theorem over:Rows.sealClashesUptoRow.holds Try.pinned (Rows.OpenSpec.upto Rows.sealClashesSpec):=
 OpenClaim.holds_of_cond 12 Try.f12 rfl rfl rfl rfl rfl rfl rfl ⟨rfl,rfl,rfl,rfl,rfl⟩ rfl rfl rfl rfl rfl (by kernel_rfl) Try.func12 (by kernel_rfl)
  (of_decide_eq_true (by kernel_rfl)) (by unfold Func.isWrapper;first | (rw [if_pos (by decide+kernel)];kernel_rfl) | (rw [if_neg (by decide+kernel)];exact ⟨rfl,rfl⟩))
  (fun os started H enc _ F=>lifted os started H enc F)
theorem proved:Rows.SealClashesUptoSaid:=over
#print axioms proved
end Go.Proofs.Ytmjjkpiglbpkhaa.lawSealClashes
