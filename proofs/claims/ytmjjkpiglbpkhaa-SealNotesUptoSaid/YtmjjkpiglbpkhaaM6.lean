/- S5, S6, P7. -/
import Derived.Test.YtmjjkpiglbpkhaaM5
import Derived.Test.YtmjjkpiglbpkhaaChecked
import Derived.Test.YtmjjkpiglbpkhaaRows
import Derived.Test.YtmjjkpiglbpkhaaM4
import Derived.WalkKit
import Derived.ProofKit
import Derived.OpenShut
import Derived.JoinedCond
import Derived.Carry
set_option linter.unusedVariables false
set_option maxRecDepth 100000
set_option maxHeartbeats 20000000
namespace Go.Proofs.Ytmjjkpiglbpkhaa
open Go Go.RowKit Go.Inc
noncomputable def qc9:Ctr:=⟨[.v (.sl .byte)],[.rw 5 .byte],some (fun a=>(fun (a0_s:List UInt8)=>(a0_s.length≤140737488355328:Prop)) a.1),fun a=>(fun (a0_s:List UInt8)=>((a0_s,()),(()))) a.1⟩
noncomputable def qjE:Fx:=⟨{ seat with rws:=[5,1000005] },some bkT,fns,[],[],[],[]⟩
def qfe (a0_s:List UInt8) (Q:(List UInt8)→Prop):Prop:=
 ∀(x0:Bool),(x0=true→a0_s=([]:List UInt8))→(x0=true→Q ([]:List UInt8))∧(x0=false→(([]:List UInt8).length+a0_s.length) *(1:Nat)≤(140737488355328:Nat)∧Q (([]:List UInt8)++a0_s))
theorem qlx {a0_s:List UInt8} (w_0:(Ty.kd (.sl .byte)).wf a0_s) (hp:a0_s.length≤140737488355328):qfe a0_s (fun o0=>o0=a0_s):=by
 unfold qfe
 intro r hr
 refine ⟨fun h=>?_,fun _=>⟨?_,rfl⟩⟩
 ·rw [hr h]
 ·simpa using hp
theorem qlw:(∀a,qc9.pre a→PM.wfP qc9.pm a (fvc qjE 200 69 qc9 a (eqO qc9 a)))=(∀a:(List UInt8)×Unit,((a.1).length≤140737488355328)→(Ty.kd (.sl .byte)).wf a.1→qfe a.1 (fun o0=>o0=(a.1))):=by kernel_rfl
theorem qod:qc9.valid Try.prog 69:=qaC (X:=qjE) (qaZ (qau.rows [5,1000005]) (fun b hb=>by cases hb;exact qaA) qaD trivial) 200 (qlw.mpr fun a hp w_0=> @qlx a.1 w_0 hp)
noncomputable def qf6:Ctr:=⟨[.v (.ptr (.pr (.pr (.sl (.pr (.arr 32 .byte) (.sl .byte))) .anm) (.int .i64)))],[.rw 1000032 (.sl .byte)],some (fun a=>(fun (a0_k:Option (((List ((List UInt8)×List UInt8))×Unit)×Int))=>(qm1 a0_k:Prop)) a.1),fun a=>(fun (a0_k:Option (((List ((List UInt8)×List UInt8))×Unit)×Int))=>(((allF a0_k),()),(()))) a.1⟩
noncomputable def qpF:Fx:=⟨{ seat with rws:=[2000032,9000022] },some bkT,fns,[(69,qc9)],[],[],[]⟩
def qiv (a0_k:Option (((List ((List UInt8)×List UInt8))×Unit)×Int)) (Q:(List (List UInt8))→Prop):Prop:=
 (a0_k.isNone=true→Q ([]:List (List UInt8)))∧(a0_k.isNone=false→a0_k.isSome=true∧∃(x0:List (List UInt8)→Int→Prop),∃(x1:List (List UInt8)→Int→Nat),x0 ([]:List (List UInt8)) (0:Int)∧∀(x2:List (List UInt8)) (x3:Int),x0 x2 x3→Ty.byte.sl.kd.sl.wf x2→(Kd.int IntKind.i64).wf x3→(x3<((a0_k.getD ((([]:List (List UInt8×List UInt8)),()),default)).fst.fst.length:Int)→((0:Int)≤x3∧x3<((a0_k.getD ((([]:List (List UInt8×List UInt8)),()),default)).fst.fst.length:Int))∧(ix (a0_k.getD ((([]:List (List UInt8×List UInt8)),()),default)).fst.fst x3).snd.length≤(140737488355328:Nat)∧(Ty.byte.kd.sl.wf (ix (a0_k.getD ((([]:List (List UInt8×List UInt8)),()),default)).fst.fst x3).snd→(x2.length+((ix (a0_k.getD ((([]:List (List UInt8×List UInt8)),()),default)).fst.fst x3).snd::([]:List (List UInt8))).length) *(24:Nat)≤(140737488355328:Nat)∧x3<(9223372036854775807:Int)∧x0 (x2++(ix (a0_k.getD ((([]:List (List UInt8×List UInt8)),()),default)).fst.fst x3).snd::([]:List (List UInt8))) (x3+(1:Int))∧x1 (x2++(ix (a0_k.getD ((([]:List (List UInt8×List UInt8)),()),default)).fst.fst x3).snd::([]:List (List UInt8))) (x3+(1:Int))<x1 x2 x3))∧(¬x3<((a0_k.getD ((([]:List (List UInt8×List UInt8)),()),default)).fst.fst.length:Int)→Q x2))
theorem qqj {a0_k:Option (((List ((List UInt8)×List UInt8))×Unit)×Int)} (w_0:(Ty.kd (.ptr (.pr (.pr (.sl (.pr (.arr 32 .byte) (.sl .byte))) .anm) (.int .i64)))).wf a0_k) (hp:qm1 a0_k):qiv a0_k (fun o0=>o0=(allF a0_k)):=by
 unfold qiv
 cases a0_k with
 | none=>exact ⟨fun _=>rfl,fun h=>by cases h⟩
 | some y=>
   obtain ⟨hl,hb⟩:=hp y rfl
   refine ⟨fun h=>(by cases h),fun _=>⟨rfl,?_⟩⟩
   simp only [Option.getD_some]
   refine ⟨fun o i=> ∃j:Nat,i=(j:Int)∧j≤y.1.1.length∧o=(y.1.1.take j).map Prod.snd,fun _ i=>y.1.1.length - i.toNat,⟨0,rfl,Nat.zero_le _,rfl⟩,?_⟩
   have dec: ∀j:Nat,(j:Int)<(y.1.1.length:Int)→y.1.1.length - ((j:Int)+1).toNat<y.1.1.length - (j:Int).toNat:=fun j h=>by omega
   rintro _ _ ⟨j,rfl,hj,rfl⟩ _ _
   refine ⟨fun hlt=>?_,fun hge=>?_⟩
   ·have hj':j<y.1.1.length:=by omega
    rw [ixN hj']
    refine ⟨⟨by omega,hlt⟩,hb _ (List.getElem_mem hj'),fun _=>⟨?_,by omega,⟨j+1,rfl,by omega,?_⟩,dec j hlt⟩⟩
    ·simp only [List.length_map,List.length_take,List.length_cons,List.length_nil]
     omega
    ·rw [List.take_add_one,List.getElem?_eq_getElem hj',Option.toList_some,List.map_append]
     rfl
   ·obtain rfl:j=y.1.1.length:=by omega
    rw [List.take_length]
    rfl
theorem qqi:(∀a,qf6.pre a→PM.wfP qf6.pm a (fvc qpF 200 100 qf6 a (eqO qf6 a)))=(∀a:(Option (((List ((List UInt8)×List UInt8))×Unit)×Int))×Unit,(qm1 (a.1))→(Ty.kd (.ptr (.pr (.pr (.sl (.pr (.arr 32 .byte) (.sl .byte))) .anm) (.int .i64)))).wf a.1→qiv a.1 (fun o0=>o0=(allF (a.1)))):=by kernel_rfl
theorem qrR:qf6.valid Try.prog 100:=qaC (X:=qpF) (qaZ (qau.rows [2000032,9000022]) (fun b hb=>by cases hb;exact qaA) qaD ⟨qod,trivial⟩) 200 (qqi.mpr fun a hp w_0=> @qqj a.1 w_0 hp)
noncomputable def qdL:Ctr:=⟨[.v (.int .i64)],[.v (.int .u32)],some (fun a=>(fun (a0_n:Int)=>((0:Int)≤a0_n∧a0_n≤(31:Int):Prop)) a.1),fun a=>(fun (a0_n:Int)=>(((2^a0_n.toNat:Int),()),(()))) a.1⟩
noncomputable def qnt:Fx:=⟨seat,some bkT,fns,[],[],[],[]⟩
def qhu (a0_n:Int) (Q:Int→Prop):Prop:=
 ∃(x0:Int→Int→Prop),∃(x1:Int→Int→Nat),x0 (1:Int) (0:Int)∧∀(x2 x3:Int),x0 x2 x3→(Kd.int IntKind.u32).wf x2→(Kd.int IntKind.i64).wf x3→(x3<a0_n→x3<(9223372036854775807:Int)∧x0 (IntKind.u32.wrap ((2:Int) *x2)) (x3+(1:Int))∧x1 (IntKind.u32.wrap ((2:Int) *x2)) (x3+(1:Int))<x1 x2 x3)∧(¬x3<a0_n→Q x2)
theorem qpi {a0_n:Int} (w_0:(Ty.kd (.int .i64)).wf a0_n) (hp:(0:Int)≤a0_n∧a0_n≤(31:Int)):qhu a0_n (fun o0=>o0=(2^a0_n.toNat:Int)):=by
 unfold qhu
 refine ⟨fun x i=> ∃j:Nat,i=(j:Int)∧(j:Int)≤a0_n∧x=((2^j:Nat):Int),fun _ i=>(a0_n - i).toNat,⟨0,rfl,by omega,rfl⟩,?_⟩
 rintro x i ⟨j,rfl,hj,rfl⟩ _ _
 refine ⟨fun hlt=>⟨by omega,⟨j+1,by omega,by omega,?_⟩,by show (a0_n - ((j:Int)+1)).toNat<(a0_n - (j:Int)).toNat;omega⟩,fun hge=>?_⟩
 ·have hp:2^(j+1)≤2^31:=Nat.pow_le_pow_right (by omega) (by omega)
  have e:2 *((2^j:Nat):Int)=((2^(j+1):Nat):Int):=by rw [Nat.pow_succ];omega
  rw [e,qa4 (by omega)]
 ·have:a0_n.toNat=j:=by omega
  rw [this]
  simp
theorem qph:(∀a,qdL.pre a→PM.wfP qdL.pm a (fvc qnt 200 129 qdL a (eqO qdL a)))=(∀a:Int×Unit,((0:Int)≤(a.1)∧(a.1)≤(31:Int))→(Ty.kd (.int .i64)).wf a.1→qhu a.1 (fun o0=>o0=(2^(a.1).toNat:Int))):=by kernel_rfl
theorem qnu:qdL.valid Try.prog 129:=qaC (X:=qnt) (qaZ qau (fun b hb=>by cases hb;exact qaA) qaD trivial) 200 (qph.mpr fun a hp w_0=> @qpi a.1 w_0 hp)
noncomputable def qfU:Ctr:=⟨[.v (.int .u32),.v (.int .i64)],[.v (.int .u32)],some (fun a=>(fun (a0_x:Int) (a1_n:Int)=>((1:Int)≤a1_n∧a1_n≤(31:Int):Prop)) a.1 a.2.1),fun a=>(fun (a0_x:Int) (a1_n:Int)=>(((qar a0_x a1_n),()),(()))) a.1 a.2.1⟩
noncomputable def qqb:Fx:=⟨seat,some bkT,fns,[(129,qdL)],[],[],[(1,[],[.o 0 2,.o 1 2,.o 4 2,.o 5 2,.o 8 2,.o 9 2,.o 2 0,.o 3 2,.o 6 0,.o 7 2,.o 10 0,.o 11 2,.o 12 2,.o 13 2])]⟩
def qjt (a0_x:Int) (a1_n:Int) (Q:Int→Prop):Prop:=
 ((0:Int)≤a1_n∧a1_n≤(31:Int))∧((Ty.int IntKind.u32).kd.wf ((2:Int)^a1_n.toNat)→(2:Int)^a1_n.toNat≠(0:Int)∧((0:Int)≤a1_n∧a1_n≤(31:Int))∧((Ty.int IntKind.u32).kd.wf ((2:Int)^a1_n.toNat)→(2:Int)^a1_n.toNat≠(0:Int)∧((0:Int)≤IntKind.i64.wrap ((32:Int) - a1_n)∧IntKind.i64.wrap ((32:Int) - a1_n)≤(31:Int))∧((Ty.int IntKind.u32).kd.wf ((2:Int)^(IntKind.i64.wrap ((32:Int) - a1_n)).toNat)→Q (IntKind.u32.wrap (IntKind.u32.wrap (a0_x.tdiv ((2:Int)^a1_n.toNat))+IntKind.u32.wrap (a0_x.tmod ((2:Int)^a1_n.toNat) *(2:Int)^(IntKind.i64.wrap ((32:Int) - a1_n)).toNat))))))
theorem qrE {a0_x:Int} {a1_n:Int} (w_0:(Ty.kd (.int .u32)).wf a0_x) (w_1:(Ty.kd (.int .i64)).wf a1_n) (hp:(1:Int)≤a1_n∧a1_n≤(31:Int)):qjt a0_x a1_n (fun o0=>o0=(qar a0_x a1_n)):=by
 have w:IntKind.i64.wrap (32 - a1_n)=32 - a1_n:=qav (wf64 (by omega) (by omega))
 have hp: ∀k:Nat,(2^k:Int)≠0:=fun k=>by
  have:(2^k:Int)=((2^k:Nat):Int):=by simp
  rw [this]
  have:=Nat.two_pow_pos k
  omega
 unfold qjt
 rw [w]
 exact ⟨by omega,fun _=>⟨hp _,by omega,fun _=>⟨hp _,by omega,fun _=>rfl⟩⟩⟩
theorem qrD:(∀a,qfU.pre a→PM.wfP qfU.pm a (fvc qqb 200 143 qfU a (eqO qfU a)))=(∀a:Int×Int×Unit,((1:Int)≤(a.2.1)∧(a.2.1)≤(31:Int))→(Ty.kd (.int .u32)).wf a.1→(Ty.kd (.int .i64)).wf a.2.1→qjt a.1 a.2.1 (fun o0=>o0=(qar (a.1) (a.2.1)))):=by kernel_rfl
theorem qqc:qfU.valid Try.prog 143:=qaC (X:=qqb) (qaZ qau (fun b hb=>by cases hb;exact qaA) qaD ⟨qnu,trivial⟩) 200 (qrD.mpr fun a hp w_0 w_1=> @qrE a.1 a.2.1 w_0 w_1 hp)
noncomputable def qdQ:Ctr:=⟨[.v (.int .u32),.v (.int .u32),.v (.int .u32)],[.v (.int .u32)],none,fun a=>(fun (a0_a:Int) (a1_b:Int) (a2_c:Int)=>(((bxor .u32 (bxor .u32 a0_a a1_b) a2_c),()),(()))) a.1 a.2.1 a.2.2.1⟩
noncomputable def qnK:Fx:=⟨seat,some bkT,fns,[],[],[],[]⟩
def qkB (a0_a:Int) (a1_b:Int) (a2_c:Int) (Q:Int→Prop):Prop:=
 Q (bxor IntKind.u32 (bxor IntKind.u32 a0_a a1_b) a2_c)
theorem qpw {a0_a:Int} {a1_b:Int} {a2_c:Int} (w_0:(Ty.kd (.int .u32)).wf a0_a) (w_1:(Ty.kd (.int .u32)).wf a1_b) (w_2:(Ty.kd (.int .u32)).wf a2_c):qkB a0_a a1_b a2_c (fun o0=>o0=(bxor .u32 (bxor .u32 a0_a a1_b) a2_c)):=by
 rfl
theorem qpv:(∀a,qdQ.pre a→PM.wfP qdQ.pm a (fvc qnK 200 142 qdQ a (eqO qdQ a)))=(∀a:Int×Int×Int×Unit,True→(Ty.kd (.int .u32)).wf a.1→(Ty.kd (.int .u32)).wf a.2.1→(Ty.kd (.int .u32)).wf a.2.2.1→qkB a.1 a.2.1 a.2.2.1 (fun o0=>o0=(bxor .u32 (bxor .u32 (a.1) (a.2.1)) (a.2.2.1)))):=by kernel_rfl
theorem qnL:qdQ.valid Try.prog 142:=qaC (X:=qnK) (qaZ qau (fun b hb=>by cases hb;exact qaA) qaD trivial) 200 (qpv.mpr fun a hp w_0 w_1 w_2=> @qpw a.1 a.2.1 a.2.2.1 w_0 w_1 w_2)
noncomputable def qbF:Ctr:=⟨[],[.ow 189 (.int .u32)],none,fun _=>((shaK,()),(()))⟩
noncomputable def qfx:Fx:=⟨seat,some bkT,fns,[],[],[],[]⟩
def qeE (Q:(List Int)→Prop):Prop:=
 Q ((1116352408:Int)::(1899447441:Int)::(3049323471:Int)::(3921009573:Int)::(961987163:Int)::(1508970993:Int)::(2453635748:Int)::(2870763221:Int)::(3624381080:Int)::(310598401:Int)::(607225278:Int)::(1426881987:Int)::(1925078388:Int)::(2162078206:Int)::(2614888103:Int)::(3248222580:Int)::(3835390401:Int)::(4022224774:Int)::(264347078:Int)::(604807628:Int)::(770255983:Int)::(1249150122:Int)::(1555081692:Int)::(1996064986:Int)::(2554220882:Int)::(2821834349:Int)::(2952996808:Int)::(3210313671:Int)::(3336571891:Int)::(3584528711:Int)::(113926993:Int)::(338241895:Int)::(666307205:Int)::(773529912:Int)::(1294757372:Int)::(1396182291:Int)::(1695183700:Int)::(1986661051:Int)::(2177026350:Int)::(2456956037:Int)::(2730485921:Int)::(2820302411:Int)::(3259730800:Int)::(3345764771:Int)::(3516065817:Int)::(3600352804:Int)::(4094571909:Int)::(275423344:Int)::(430227734:Int)::(506948616:Int)::(659060556:Int)::(883997877:Int)::(958139571:Int)::(1322822218:Int)::(1537002063:Int)::(1747873779:Int)::(1955562222:Int)::(2024104815:Int)::(2227730452:Int)::(2361852424:Int)::(2428436474:Int)::(2756734187:Int)::(3204031479:Int)::(3329325298:Int)::([]:List Int))
theorem qhU  :qeE  (fun o0=>o0=shaK):=by
 rfl
theorem qhT:(∀a,qbF.pre a→PM.wfP qbF.pm a (fvc qfx 200 141 qbF a (eqO qbF a)))=(∀a:Unit,True→qeE  (fun o0=>o0=shaK)):=by kernel_rfl
theorem qi0:qbF.valid Try.prog 141:=qaC (X:=qfx) (qaZ qau (fun b hb=>by cases hb;exact qaA) qaD trivial) 200 (qhT.mpr fun a hp  => @qhU )
noncomputable def qck:Ctr:=⟨[.v (.sl .byte)],[.ow 5 .byte],some (fun a=>(fun (a0_b:List UInt8)=>(a0_b.length≤70368744177664:Prop)) a.1),fun a=>(fun (a0_b:List UInt8)=>(((qco a0_b),()),(()))) a.1⟩
noncomputable def qhH:Fx:=⟨seat,some bkT,fns,[],[],[],[]⟩
def qed (a0_b:List UInt8) (Q:(List UInt8)→Prop):Prop:=
 (([]:List UInt8).length+a0_b.length) *(1:Nat)≤(140737488355328:Nat)∧((([]:List UInt8)++a0_b).length+(toB (128:Int)::([]:List UInt8)).length) *(1:Nat)≤(140737488355328:Nat)∧∃(x0:List UInt8→Prop),∃(x1:List UInt8→Nat),x0 (([]:List UInt8)++a0_b++toB (128:Int)::([]:List UInt8))∧∀(x2:List UInt8),x0 x2→Ty.byte.kd.sl.wf x2→((x2.length:Int).tmod (64:Int)≠(56:Int)→(x2.length+(toB (0:Int)::([]:List UInt8)).length) *(1:Nat)≤(140737488355328:Nat)∧x0 (x2++toB (0:Int)::([]:List UInt8))∧x1 (x2++toB (0:Int)::([]:List UInt8))<x1 x2)∧(¬(x2.length:Int).tmod (64:Int)≠(56:Int)→∃(x6:Int→List UInt8→Int→Prop),∃(x7:Int→List UInt8→Int→Nat),x6 (IntKind.u64.wrap ((8:Int) *IntKind.u64.wrap (a0_b.length:Int))) ([]:List UInt8) (0:Int)∧∀(x8:Int) (x9:List UInt8) (x10:Int),x6 x8 x9 x10→(Kd.int IntKind.u64).wf x8→Ty.byte.kd.sl.wf x9→(Kd.int IntKind.i64).wf x10→(x10<(8:Int)→((toB (IntKind.u8.wrap (x8.tmod (256:Int)))::([]:List UInt8)).length+x9.length) *(1:Nat)≤(140737488355328:Nat)∧x10<(9223372036854775807:Int)∧x6 (IntKind.u64.wrap (x8.tdiv (256:Int))) (toB (IntKind.u8.wrap (x8.tmod (256:Int)))::([]:List UInt8)++x9) (x10+(1:Int))∧x7 (IntKind.u64.wrap (x8.tdiv (256:Int))) (toB (IntKind.u8.wrap (x8.tmod (256:Int)))::([]:List UInt8)++x9) (x10+(1:Int))<x7 x8 x9 x10)∧(¬x10<(8:Int)→(x2.length+x9.length) *(1:Nat)≤(140737488355328:Nat)∧Q (x2++x9)))
theorem qkN {a0_b:List UInt8} (w_0:(Ty.kd (.sl .byte)).wf a0_b) (hp:a0_b.length≤70368744177664):qed a0_b (fun o0=>o0=(qco a0_b)):=by
 have hz:qa0 a0_b.length<64∧(a0_b.length+1+qa0 a0_b.length)%64=56:=by unfold qa0;omega
 have hzm: ∀k,k<qa0 a0_b.length→(a0_b.length+1+k)%64≠56:=fun k hk=>by unfold qa0 at hk;omega
 have hb0:toB 0=0:=by decide
 have wu: ∀a:Int,0≤a→a≤18446744073709551615→IntKind.u64.wrap a=a:=fun a h1 h2=>qav ⟨by show (0:Int)≤_;omega,by show _≤(18446744073709551615:Int);omega⟩
 unfold qed
 rw [hb0,wu (a0_b.length:Int) (by omega) (by omega),wu (8 *(a0_b.length:Int)) (by omega) (by omega)]
 simp only [List.nil_append]
 refine ⟨by simp;omega,by simp;omega,fun m=> ∃k,k≤qa0 a0_b.length∧m=a0_b++ [toB 128]++List.replicate k 0,fun m=>qa0 a0_b.length - (m.length - (a0_b.length+1)),⟨0,by omega,by simp⟩,?_⟩
 rintro m ⟨k,hk,rfl⟩ _
 have hl:(a0_b++ [toB 128]++List.replicate k 0).length=a0_b.length+1+k:=by simp;omega
 have hmod:Int.tmod ((a0_b++ [toB 128]++List.replicate k 0).length:Int) 64=(((a0_b.length+1+k)%64:Nat):Int):=by
  rw [hl,Int.tmod_eq_emod_of_nonneg (by omega)]
  omega
 rw [hmod]
 refine ⟨fun hne=>⟨by simp;omega,⟨k+1,?_,?_⟩,?_⟩,fun heq=>?_⟩
 ·rcases Nat.lt_or_eq_of_le hk with h | h
  ·omega
  ·exfalso;apply hne;rw [h,hz.2];rfl
 ·rw [List.replicate_succ'];simp
 ·rcases Nat.lt_or_eq_of_le hk with h | h
  ·simp only [List.length_append,List.length_cons,List.length_nil,List.length_replicate]
   omega
  ·exfalso;apply hne;rw [h,hz.2];rfl
 ·have hk':k=qa0 a0_b.length:=by
   rcases Nat.lt_or_eq_of_le hk with h | h
   ·exact absurd (hzm k h) (by intro hx;apply heq;intro hy;apply hx;omega)
   ·exact h
  subst hk'
  refine ⟨fun n last i=> ∃j:Nat,j≤8∧i=(j:Int)∧n=((8 *a0_b.length/2^(8 *j):Nat):Int)∧last=be (8 *a0_b.length) j,fun _ _ i=>8 - i.toNat,⟨0,by omega,rfl,by simp,rfl⟩,?_⟩
  rintro n last i ⟨j,hj,rfl,rfl,rfl⟩ _ _ _
  have hle:8 *a0_b.length/2^(8 *j)≤8 *a0_b.length:=Nat.div_le_self _ _
  refine ⟨fun hlt=>⟨by simp [qaX];omega,by omega,⟨j+1,by omega,by omega,?_,?_⟩,?_⟩,fun hge=>⟨?_,?_⟩⟩
  ·have e:(8 *a0_b.length)/2^(8 *(j+1))=8 *a0_b.length/2^(8 *j)/256:=by
    rw [Nat.div_div_eq_div_mul,show 8 *(j+1)=8 *j+8 by omega,Nat.pow_add]
   rw [e]
   generalize 8 *a0_b.length/2^(8 *j)=A at *
   rw [show (256:Int)=((256:Nat):Int) from rfl,←Int.ofNat_tdiv,wu _ (by omega) (by omega)]
  ·show toB (IntKind.u8.wrap (Int.tmod _ 256))::be _ j=UInt8.ofNat (8 *a0_b.length/2^(8 *j))::be _ j
   congr 1
   generalize 8 *a0_b.length/2^(8 *j)=A
   rw [show (256:Int)=((256:Nat):Int) from rfl,←Int.ofNat_tmod,qav ⟨by show (0:Int)≤_;omega,by show _≤(255:Int);omega⟩]
   unfold toB
   rw [Int.toNat_natCast]
   apply UInt8.toNat_inj.1
   simp
  ·show 8 - ((j:Int)+1).toNat<8 - (j:Int).toNat
   omega
  ·simp [qaX];omega
  ·have:j=8:=by omega
   subst this
   simp [qco]
theorem qkM:(∀a,qck.pre a→PM.wfP qck.pm a (fvc qhH 200 126 qck a (eqO qck a)))=(∀a:(List UInt8)×Unit,((a.1).length≤70368744177664)→(Ty.kd (.sl .byte)).wf a.1→qed a.1 (fun o0=>o0=(qco (a.1)))):=by kernel_rfl
theorem qlP:qck.valid Try.prog 126:=qaC (X:=qhH) (qaZ qau (fun b hb=>by cases hb;exact qaA) qaD trivial) 200 (qkM.mpr fun a hp w_0=> @qkN a.1 w_0 hp)
noncomputable def qbV:Ctr:=⟨[.v (.sl .byte)],[.ow 189 (.int .u32)],some (fun a=>(fun (a0_b:List UInt8)=>(a0_b.length=64:Prop)) a.1),fun a=>(fun (a0_b:List UInt8)=>(((qax a0_b 64),()),(()))) a.1⟩
noncomputable def qgA:Fx:=⟨seat,some bkT,fns,[(143,qfU),(142,qdQ)],[],[],[(14,[],[.o 0 2,.o 1 2,.o 2 2,.o 3 2,.o 4 2,.o 5 2,.o 6 2,.o 7 2,.o 8 2,.o 9 2,.o 10 2,.o 11 2]),(17,[0,1,2,3,4,5,6,7,8,9,10,11,12],[.o 0 2,.o 1 2,.o 2 2,.o 3 2,.o 4 2,.o 5 2,.o 6 2,.o 7 2,.o 8 2,.o 9 2,.o 10 2,.o 11 2,.o 12 2,.o 13 2,.o 14 2,.o 15 2,.o 16 0,.o 17 1,.o 18 3])]⟩
def qdM (a0_b:List UInt8) (Q:(List Int)→Prop):Prop:=
 ∃(x0:List Int→Int→Prop),∃(x1:List Int→Int→Nat),x0 ([]:List Int) (0:Int)∧∀(x2:List Int) (x3:Int),x0 x2 x3→(Ty.int IntKind.u32).kd.sl.wf x2→(Kd.int IntKind.i64).wf x3→(x3<(16:Int)→∃(x8:Int→Int→Prop),∃(x9:Int→Int→Nat),x8 (0:Int) (0:Int)∧∀(x10 x11:Int),x8 x10 x11→(Kd.int IntKind.u32).wf x10→(Kd.int IntKind.i64).wf x11→(x11<(4:Int)→((0:Int)≤IntKind.i64.wrap (IntKind.i64.wrap ((4:Int) *x3)+x11)∧IntKind.i64.wrap (IntKind.i64.wrap ((4:Int) *x3)+x11)<(a0_b.length:Int))∧x11<(9223372036854775807:Int)∧x8 (IntKind.u32.wrap (IntKind.u32.wrap ((256:Int) *x10)+bI (ix a0_b (IntKind.i64.wrap (IntKind.i64.wrap ((4:Int) *x3)+x11))))) (x11+(1:Int))∧x9 (IntKind.u32.wrap (IntKind.u32.wrap ((256:Int) *x10)+bI (ix a0_b (IntKind.i64.wrap (IntKind.i64.wrap ((4:Int) *x3)+x11))))) (x11+(1:Int))<x9 x10 x11)∧(¬x11<(4:Int)→(x2.length+(x10::([]:List Int)).length) *(4:Nat)≤(140737488355328:Nat)∧x3<(9223372036854775807:Int)∧x0 (x2++x10::([]:List Int)) (x3+(1:Int))∧x1 (x2++x10::([]:List Int)) (x3+(1:Int))<x1 x2 x3))∧(¬x3<(16:Int)→∃(x8:List Int→Int→Prop),∃(x9:List Int→Int→Nat),x8 x2 (16:Int)∧∀(x10:List Int) (x11:Int),x8 x10 x11→(Ty.int IntKind.u32).kd.sl.wf x10→(Kd.int IntKind.i64).wf x11→(x11<(64:Int)→((0:Int)≤IntKind.i64.wrap (x11 - (15:Int))∧IntKind.i64.wrap (x11 - (15:Int))<(x10.length:Int))∧((0:Int)≤IntKind.i64.wrap (x11 - (2:Int))∧IntKind.i64.wrap (x11 - (2:Int))<(x10.length:Int))∧((1:Int)≤(7:Int)∧(7:Int)≤(31:Int))∧((Ty.int IntKind.u32).kd.wf (qar (ix x10 (IntKind.i64.wrap (x11 - (15:Int)))) (7:Int))→((1:Int)≤(18:Int)∧(18:Int)≤(31:Int))∧((Ty.int IntKind.u32).kd.wf (qar (ix x10 (IntKind.i64.wrap (x11 - (15:Int)))) (18:Int))→(Ty.int IntKind.u32).kd.wf (bxor IntKind.u32 (bxor IntKind.u32 (qar (ix x10 (IntKind.i64.wrap (x11 - (15:Int)))) (7:Int)) (qar (ix x10 (IntKind.i64.wrap (x11 - (15:Int)))) (18:Int))) (IntKind.u32.wrap ((ix x10 (IntKind.i64.wrap (x11 - (15:Int)))).tdiv (8:Int))))→((1:Int)≤(17:Int)∧(17:Int)≤(31:Int))∧((Ty.int IntKind.u32).kd.wf (qar (ix x10 (IntKind.i64.wrap (x11 - (2:Int)))) (17:Int))→((1:Int)≤(19:Int)∧(19:Int)≤(31:Int))∧((Ty.int IntKind.u32).kd.wf (qar (ix x10 (IntKind.i64.wrap (x11 - (2:Int)))) (19:Int))→(Ty.int IntKind.u32).kd.wf (bxor IntKind.u32 (bxor IntKind.u32 (qar (ix x10 (IntKind.i64.wrap (x11 - (2:Int)))) (17:Int)) (qar (ix x10 (IntKind.i64.wrap (x11 - (2:Int)))) (19:Int))) (IntKind.u32.wrap ((ix x10 (IntKind.i64.wrap (x11 - (2:Int)))).tdiv (1024:Int))))→((0:Int)≤IntKind.i64.wrap (x11 - (16:Int))∧IntKind.i64.wrap (x11 - (16:Int))<(x10.length:Int))∧((0:Int)≤IntKind.i64.wrap (x11 - (7:Int))∧IntKind.i64.wrap (x11 - (7:Int))<(x10.length:Int))∧(x10.length+(IntKind.u32.wrap (IntKind.u32.wrap (IntKind.u32.wrap (ix x10 (IntKind.i64.wrap (x11 - (16:Int)))+bxor IntKind.u32 (bxor IntKind.u32 (qar (ix x10 (IntKind.i64.wrap (x11 - (15:Int)))) (7:Int)) (qar (ix x10 (IntKind.i64.wrap (x11 - (15:Int)))) (18:Int))) (IntKind.u32.wrap ((ix x10 (IntKind.i64.wrap (x11 - (15:Int)))).tdiv (8:Int))))+ix x10 (IntKind.i64.wrap (x11 - (7:Int))))+bxor IntKind.u32 (bxor IntKind.u32 (qar (ix x10 (IntKind.i64.wrap (x11 - (2:Int)))) (17:Int)) (qar (ix x10 (IntKind.i64.wrap (x11 - (2:Int)))) (19:Int))) (IntKind.u32.wrap ((ix x10 (IntKind.i64.wrap (x11 - (2:Int)))).tdiv (1024:Int))))::([]:List Int)).length) *(4:Nat)≤(140737488355328:Nat)∧x11<(9223372036854775807:Int)∧x8 (x10++IntKind.u32.wrap (IntKind.u32.wrap (IntKind.u32.wrap (ix x10 (IntKind.i64.wrap (x11 - (16:Int)))+bxor IntKind.u32 (bxor IntKind.u32 (qar (ix x10 (IntKind.i64.wrap (x11 - (15:Int)))) (7:Int)) (qar (ix x10 (IntKind.i64.wrap (x11 - (15:Int)))) (18:Int))) (IntKind.u32.wrap ((ix x10 (IntKind.i64.wrap (x11 - (15:Int)))).tdiv (8:Int))))+ix x10 (IntKind.i64.wrap (x11 - (7:Int))))+bxor IntKind.u32 (bxor IntKind.u32 (qar (ix x10 (IntKind.i64.wrap (x11 - (2:Int)))) (17:Int)) (qar (ix x10 (IntKind.i64.wrap (x11 - (2:Int)))) (19:Int))) (IntKind.u32.wrap ((ix x10 (IntKind.i64.wrap (x11 - (2:Int)))).tdiv (1024:Int))))::([]:List Int)) (x11+(1:Int))∧x9 (x10++IntKind.u32.wrap (IntKind.u32.wrap (IntKind.u32.wrap (ix x10 (IntKind.i64.wrap (x11 - (16:Int)))+bxor IntKind.u32 (bxor IntKind.u32 (qar (ix x10 (IntKind.i64.wrap (x11 - (15:Int)))) (7:Int)) (qar (ix x10 (IntKind.i64.wrap (x11 - (15:Int)))) (18:Int))) (IntKind.u32.wrap ((ix x10 (IntKind.i64.wrap (x11 - (15:Int)))).tdiv (8:Int))))+ix x10 (IntKind.i64.wrap (x11 - (7:Int))))+bxor IntKind.u32 (bxor IntKind.u32 (qar (ix x10 (IntKind.i64.wrap (x11 - (2:Int)))) (17:Int)) (qar (ix x10 (IntKind.i64.wrap (x11 - (2:Int)))) (19:Int))) (IntKind.u32.wrap ((ix x10 (IntKind.i64.wrap (x11 - (2:Int)))).tdiv (1024:Int))))::([]:List Int)) (x11+(1:Int))<x9 x10 x11)))))∧(¬x11<(64:Int)→Q x10))
theorem qjq {a0_b:List UInt8} (w_0:(Ty.kd (.sl .byte)).wf a0_b) (hp:a0_b.length=64):qdM a0_b (fun o0=>o0=(qax a0_b 64)):=by
 have w64: ∀a:Int, -1000≤a→a≤1000→IntKind.i64.wrap a=a:=fun a h1 h2=>qav (wf64 (by omega) (by omega))
 have hacc: ∀(i:Int) (m:Nat),0≤accB a0_b i m∧accB a0_b i m<256^m:=fun i m=>by
  induction m with
  | zero=>simp [accB]
  | succ m ih=>
    have hb:=qkY (ix a0_b (4 *i+(m:Int)))
    have e:(256:Int)^(m+1)=256 *256^m:=by rw [Int.pow_succ,Int.mul_comm]
    simp only [accB]
    rw [e]
    generalize (256:Int)^m=Z at *
    omega
 unfold qdM
 refine ⟨fun w i=> ∃n:Nat,i=(n:Int)∧n≤16∧w=(qax a0_b n).take n,fun _ i=>16 - i.toNat,⟨0,rfl,by omega,by simp⟩,?_⟩
 rintro w i ⟨n,rfl,hn,rfl⟩ _ _
 refine ⟨fun hlt=>?_,fun hge=>?_⟩
 ·refine ⟨fun x j=> ∃m:Nat,j=(m:Int)∧m≤4∧x=accB a0_b n m,fun _ j=>4 - j.toNat,⟨0,rfl,by omega,rfl⟩,?_⟩
  rintro x j ⟨m,rfl,hm,rfl⟩ _ _
  have e4:IntKind.i64.wrap (IntKind.i64.wrap (4 *(n:Int))+(m:Int))=4 *(n:Int)+(m:Int):=by rw [w64 (4 *(n:Int)) (by omega) (by omega),w64 _ (by omega) (by omega)]
  rw [e4]
  refine ⟨fun hj=>⟨⟨by omega,by omega⟩,by omega,⟨m+1,by omega,by omega,?_⟩,by show 4 - ((m:Int)+1).toNat<4 - (m:Int).toNat;omega⟩,fun hj=>?_⟩
  ·have h1:=hacc n m
   have hb:=qkY (ix a0_b (4 *(n:Int)+(m:Int)))
   have h2:(256:Int)^m≤16777216:=by
    rcases (by omega:m=0∨m=1∨m=2∨m=3) with h | h | h | h<;>rw [h]<;>decide
   simp only [accB]
   rw [wr32 (256 *_),wr32]
   omega
  ·have:m=4:=by omega
   subst this
   have hl:=qcx a0_b n
   refine ⟨by simp only [List.length_take,List.length_cons,List.length_nil];omega,by omega,⟨n+1,by omega,by omega,?_⟩,by show 16 - ((n:Int)+1).toNat<16 - (n:Int).toNat;omega⟩
   rw [qfW _ (by omega),if_pos (by omega),qln]
 ·have hn16:n=16:=by omega
  subst hn16
  refine ⟨fun w i=> ∃n:Nat,i=(n:Int)∧16≤n∧n≤64∧w=(qax a0_b n).take n,fun _ i=>64 - i.toNat,⟨16,rfl,by omega,by omega,rfl⟩,?_⟩
  rintro w i ⟨n,rfl,hn1,hn2,rfl⟩ hwf _
  have hl:=qcx a0_b n
  have hlt:((qax a0_b n).take n).length=n:=by rw [List.length_take];omega
  refine ⟨fun hlt64=>?_,fun hge64=>?_⟩
  ·rw [w64 ((n:Int) - 15) (by omega) (by omega),w64 ((n:Int) - 2) (by omega) (by omega),w64 ((n:Int) - 16) (by omega) (by omega),w64 ((n:Int) - 7) (by omega) (by omega),hlt]
   have hx: ∀d:Int,0<d→d≤16→0≤ix ((qax a0_b n).take n) ((n:Int) - d)∧ix ((qax a0_b n).take n) ((n:Int) - d)<4294967296:=fun d h1 h2=>wf32 (hwf.2 _ (qcc (by omega) (by rw [hlt];omega)))
   have ht: ∀d:Int,0<d→d≤16→ix ((qax a0_b n).take n) ((n:Int) - d)=ix (qax a0_b n) ((n:Int) - d):=fun d h1 h2=>qri (by omega)
   refine ⟨by omega,by omega,by omega,fun _=>⟨by omega,fun _ _=>⟨by omega,fun _=>⟨by omega,fun _ _=>⟨by omega,by omega,?_,by omega,⟨n+1,by omega,by omega,by omega,?_⟩,by show 64 - ((n:Int)+1).toNat<64 - (n:Int).toNat;omega⟩⟩⟩⟩⟩
   ·simp only [List.length_cons,List.length_nil];omega
   ·rw [qfW _ (by omega),if_neg (by omega)]
    congr 2
    have x15:=hx 15 (by omega) (by omega)
    have x2:=hx 2 (by omega) (by omega)
    unfold qn7
    rw [←ht 15 (by omega) (by omega),←ht 2 (by omega) (by omega),←ht 16 (by omega) (by omega),←ht 7 (by omega) (by omega),qtw x15,qtx x2,
     show (3:Int)=((3:Nat):Int) from rfl,show (10:Int)=((10:Nat):Int) from rfl,qkw x15 3 (by omega),qkw x2 10 (by omega)]
    show IntKind.u32.wrap (IntKind.u32.wrap (IntKind.u32.wrap (_+bxor .u32 _ (IntKind.u32.wrap (Int.tdiv _ 8)))+_)+bxor .u32 _ (IntKind.u32.wrap (Int.tdiv _ 1024)))=IntKind.u32.wrap (IntKind.u32.wrap (IntKind.u32.wrap (_+_)+bxor .u32 _ (IntKind.u32.wrap (Int.tdiv _ 8)))+bxor .u32 _ (IntKind.u32.wrap (Int.tdiv _ 1024)))
    generalize bxor .u32 _ (IntKind.u32.wrap (Int.tdiv _ 8))=S
    generalize bxor .u32 _ (IntKind.u32.wrap (Int.tdiv _ 1024))=T
    simp only [wr32]
    omega
  ·have:n=64:=by omega
   subst this
   rw [List.take_of_length_le (by omega)]
theorem qjp:(∀a,qbV.pre a→PM.wfP qbV.pm a (fvc qgA 200 140 qbV a (eqO qbV a)))=(∀a:(List UInt8)×Unit,((a.1).length=64)→(Ty.kd (.sl .byte)).wf a.1→qdM a.1 (fun o0=>o0=(qax (a.1) 64))):=by kernel_rfl
theorem qlc:qbV.valid Try.prog 140:=qaC (X:=qgA) (qaZ qau (fun b hb=>by cases hb;exact qaA) qaD ⟨qqc,qnL,trivial⟩) 200 (qjp.mpr fun a hp w_0=> @qjq a.1 w_0 hp)
noncomputable def qc8:Ctr:=⟨[.v (.sl (.int .u32)),.v (.sl .byte)],[.rw 189 (.int .u32)],some (fun a=>(fun (a0_old:List Int) (a1_b:List UInt8)=>(a0_old.length=8∧a1_b.length=64:Prop)) a.1 a.2.1),fun a=>(fun (a0_old:List Int) (a1_b:List UInt8)=>(((qbH a0_old a1_b),()),(()))) a.1 a.2.1⟩
noncomputable def qjB:Fx:=⟨{ seat with rws:=[1000189] },some bkT,fns,[(140,qbV),(141,qbF),(143,qfU),(142,qdQ)],[],[(13,[4],[])],[(6,[],[.o 0 2,.o 1 2,.o 2 2,.o 3 2,.o 4 2,.o 5 2,.o 6 2,.o 7 2]),(7,[],[.o 0 2,.o 1 2,.o 2 2,.o 3 2,.o 5 2,.o 7 2,.o 11 2,.o 12 2,.o 13 2,.o 14 2,.o 15 2,.o 16 2,.o 17 2,.o 18 2,.o 19 2,.o 20 2,.o 21 2,.o 22 2,.o 24 2,.o 25 2,.o 26 2,.o 27 2,.o 29 2,.o 30 2,.o 31 2,.o 32 2,.o 4 0,.o 6 0,.o 8 0,.o 9 0,.o 10 2,.o 23 2,.o 28 2,.o 33 2,.o 34 2]),(8,[],[.o 0 2,.o 1 2,.o 2 2,.o 3 2,.o 4 2,.o 5 2,.o 6 2,.o 7 2,.o 8 2,.o 9 2,.o 10 2,.o 11 2,.o 12 2,.o 13 2,.o 14 2,.o 15 2,.o 16 2,.o 17 2,.o 18 2,.o 19 2]),(15,[4],[.o 0 2,.o 1 2,.o 2 2,.o 3 2,.o 4 2,.o 5 2,.o 6 2,.o 7 2,.o 8 2,.o 9 2,.o 10 2,.o 11 2,.o 12 1])]⟩
def qfc (a0_old:List Int) (a1_b:List UInt8) (Q:(List Int)→Prop):Prop:=
 (([]:List Int).length+a0_old.length) *(4:Nat)≤(140737488355328:Nat)∧a1_b.length=(64:Nat)∧((Ty.int IntKind.u32).kd.sl.wf (qax a1_b (64:Nat))→(Ty.int IntKind.u32).kd.sl.wf shaK→∃(x0:List Int→Int→Prop),∃(x1:List Int→Int→Nat),x0 (([]:List Int)++a0_old) (0:Int)∧∀(x2:List Int) (x3:Int),x0 x2 x3→(Ty.int IntKind.u32).kd.sl.wf x2→(Kd.int IntKind.i64).wf x3→(x3<(64:Int)→((0:Int)≤(0:Int)∧(0:Int)<(x2.length:Int))∧((0:Int)≤(4:Int)∧(4:Int)<(x2.length:Int))∧((0:Int)≤(7:Int)∧(7:Int)<(x2.length:Int))∧((0:Int)≤(5:Int)∧(5:Int)<(x2.length:Int))∧((0:Int)≤(6:Int)∧(6:Int)<(x2.length:Int))∧((0:Int)≤x3∧x3<(shaK.length:Int))∧((0:Int)≤x3∧x3<((qax a1_b (64:Nat)).length:Int))∧((1:Int)≤(6:Int)∧(6:Int)≤(31:Int))∧((Ty.int IntKind.u32).kd.wf (qar (ix x2 (4:Int)) (6:Int))→((1:Int)≤(11:Int)∧(11:Int)≤(31:Int))∧((Ty.int IntKind.u32).kd.wf (qar (ix x2 (4:Int)) (11:Int))→((1:Int)≤(25:Int)∧(25:Int)≤(31:Int))∧((Ty.int IntKind.u32).kd.wf (qar (ix x2 (4:Int)) (25:Int))→(Ty.int IntKind.u32).kd.wf (bxor IntKind.u32 (bxor IntKind.u32 (qar (ix x2 (4:Int)) (6:Int)) (qar (ix x2 (4:Int)) (11:Int))) (qar (ix x2 (4:Int)) (25:Int)))→((0:Int)≤(1:Int)∧(1:Int)<(x2.length:Int))∧((0:Int)≤(2:Int)∧(2:Int)<(x2.length:Int))∧((0:Int)≤(1:Int)∧(1:Int)<(x2.length:Int))∧((0:Int)≤(2:Int)∧(2:Int)<(x2.length:Int))∧((1:Int)≤(2:Int)∧(2:Int)≤(31:Int))∧((Ty.int IntKind.u32).kd.wf (qar (ix x2 (0:Int)) (2:Int))→((1:Int)≤(13:Int)∧(13:Int)≤(31:Int))∧((Ty.int IntKind.u32).kd.wf (qar (ix x2 (0:Int)) (13:Int))→((1:Int)≤(22:Int)∧(22:Int)≤(31:Int))∧((Ty.int IntKind.u32).kd.wf (qar (ix x2 (0:Int)) (22:Int))→(Ty.int IntKind.u32).kd.wf (bxor IntKind.u32 (bxor IntKind.u32 (qar (ix x2 (0:Int)) (2:Int)) (qar (ix x2 (0:Int)) (13:Int))) (qar (ix x2 (0:Int)) (22:Int)))→((0:Int)≤(3:Int)∧(3:Int)<(x2.length:Int))∧((0:Int)≤(3:Int)∧(3:Int)<(x2.length:Int))∧((0:Int)≤(0:Int)∧(0:Int)≤(7:Int)∧(7:Int)≤((x2.set (Int.toNat (3:Int)) (IntKind.u32.wrap (ix x2 (3:Int)+IntKind.u32.wrap (IntKind.u32.wrap (IntKind.u32.wrap (IntKind.u32.wrap (ix x2 (7:Int)+bxor IntKind.u32 (bxor IntKind.u32 (qar (ix x2 (4:Int)) (6:Int)) (qar (ix x2 (4:Int)) (11:Int))) (qar (ix x2 (4:Int)) (25:Int)))+bor IntKind.u32 (band IntKind.u32 (ix x2 (4:Int)) (ix x2 (5:Int))) (band IntKind.u32 (bxor IntKind.u32 (4294967295:Int) (ix x2 (4:Int))) (ix x2 (6:Int))))+ix shaK x3)+ix (qax a1_b (64:Nat)) x3)))).length:Int))∧((IntKind.u32.wrap (IntKind.u32.wrap (IntKind.u32.wrap (IntKind.u32.wrap (IntKind.u32.wrap (ix x2 (7:Int)+bxor IntKind.u32 (bxor IntKind.u32 (qar (ix x2 (4:Int)) (6:Int)) (qar (ix x2 (4:Int)) (11:Int))) (qar (ix x2 (4:Int)) (25:Int)))+bor IntKind.u32 (band IntKind.u32 (ix x2 (4:Int)) (ix x2 (5:Int))) (band IntKind.u32 (bxor IntKind.u32 (4294967295:Int) (ix x2 (4:Int))) (ix x2 (6:Int))))+ix shaK x3)+ix (qax a1_b (64:Nat)) x3)+IntKind.u32.wrap (bxor IntKind.u32 (bxor IntKind.u32 (qar (ix x2 (0:Int)) (2:Int)) (qar (ix x2 (0:Int)) (13:Int))) (qar (ix x2 (0:Int)) (22:Int))+bor IntKind.u32 (bor IntKind.u32 (band IntKind.u32 (ix x2 (0:Int)) (ix x2 (1:Int))) (band IntKind.u32 (ix x2 (0:Int)) (ix x2 (2:Int)))) (band IntKind.u32 (ix x2 (1:Int)) (ix x2 (2:Int)))))::([]:List Int)).length+(List.drop (Int.toNat (0:Int)) (List.take (Int.toNat (7:Int)) (x2.set (Int.toNat (3:Int)) (IntKind.u32.wrap (ix x2 (3:Int)+IntKind.u32.wrap (IntKind.u32.wrap (IntKind.u32.wrap (IntKind.u32.wrap (ix x2 (7:Int)+bxor IntKind.u32 (bxor IntKind.u32 (qar (ix x2 (4:Int)) (6:Int)) (qar (ix x2 (4:Int)) (11:Int))) (qar (ix x2 (4:Int)) (25:Int)))+bor IntKind.u32 (band IntKind.u32 (ix x2 (4:Int)) (ix x2 (5:Int))) (band IntKind.u32 (bxor IntKind.u32 (4294967295:Int) (ix x2 (4:Int))) (ix x2 (6:Int))))+ix shaK x3)+ix (qax a1_b (64:Nat)) x3)))))).length) *(4:Nat)≤(140737488355328:Nat)∧x3<(9223372036854775807:Int)∧x0 (IntKind.u32.wrap (IntKind.u32.wrap (IntKind.u32.wrap (IntKind.u32.wrap (IntKind.u32.wrap (ix x2 (7:Int)+bxor IntKind.u32 (bxor IntKind.u32 (qar (ix x2 (4:Int)) (6:Int)) (qar (ix x2 (4:Int)) (11:Int))) (qar (ix x2 (4:Int)) (25:Int)))+bor IntKind.u32 (band IntKind.u32 (ix x2 (4:Int)) (ix x2 (5:Int))) (band IntKind.u32 (bxor IntKind.u32 (4294967295:Int) (ix x2 (4:Int))) (ix x2 (6:Int))))+ix shaK x3)+ix (qax a1_b (64:Nat)) x3)+IntKind.u32.wrap (bxor IntKind.u32 (bxor IntKind.u32 (qar (ix x2 (0:Int)) (2:Int)) (qar (ix x2 (0:Int)) (13:Int))) (qar (ix x2 (0:Int)) (22:Int))+bor IntKind.u32 (bor IntKind.u32 (band IntKind.u32 (ix x2 (0:Int)) (ix x2 (1:Int))) (band IntKind.u32 (ix x2 (0:Int)) (ix x2 (2:Int)))) (band IntKind.u32 (ix x2 (1:Int)) (ix x2 (2:Int)))))::([]:List Int)++List.drop (Int.toNat (0:Int)) (List.take (Int.toNat (7:Int)) (x2.set (Int.toNat (3:Int)) (IntKind.u32.wrap (ix x2 (3:Int)+IntKind.u32.wrap (IntKind.u32.wrap (IntKind.u32.wrap (IntKind.u32.wrap (ix x2 (7:Int)+bxor IntKind.u32 (bxor IntKind.u32 (qar (ix x2 (4:Int)) (6:Int)) (qar (ix x2 (4:Int)) (11:Int))) (qar (ix x2 (4:Int)) (25:Int)))+bor IntKind.u32 (band IntKind.u32 (ix x2 (4:Int)) (ix x2 (5:Int))) (band IntKind.u32 (bxor IntKind.u32 (4294967295:Int) (ix x2 (4:Int))) (ix x2 (6:Int))))+ix shaK x3)+ix (qax a1_b (64:Nat)) x3)))))) (x3+(1:Int))∧x1 (IntKind.u32.wrap (IntKind.u32.wrap (IntKind.u32.wrap (IntKind.u32.wrap (IntKind.u32.wrap (ix x2 (7:Int)+bxor IntKind.u32 (bxor IntKind.u32 (qar (ix x2 (4:Int)) (6:Int)) (qar (ix x2 (4:Int)) (11:Int))) (qar (ix x2 (4:Int)) (25:Int)))+bor IntKind.u32 (band IntKind.u32 (ix x2 (4:Int)) (ix x2 (5:Int))) (band IntKind.u32 (bxor IntKind.u32 (4294967295:Int) (ix x2 (4:Int))) (ix x2 (6:Int))))+ix shaK x3)+ix (qax a1_b (64:Nat)) x3)+IntKind.u32.wrap (bxor IntKind.u32 (bxor IntKind.u32 (qar (ix x2 (0:Int)) (2:Int)) (qar (ix x2 (0:Int)) (13:Int))) (qar (ix x2 (0:Int)) (22:Int))+bor IntKind.u32 (bor IntKind.u32 (band IntKind.u32 (ix x2 (0:Int)) (ix x2 (1:Int))) (band IntKind.u32 (ix x2 (0:Int)) (ix x2 (2:Int)))) (band IntKind.u32 (ix x2 (1:Int)) (ix x2 (2:Int)))))::([]:List Int)++List.drop (Int.toNat (0:Int)) (List.take (Int.toNat (7:Int)) (x2.set (Int.toNat (3:Int)) (IntKind.u32.wrap (ix x2 (3:Int)+IntKind.u32.wrap (IntKind.u32.wrap (IntKind.u32.wrap (IntKind.u32.wrap (ix x2 (7:Int)+bxor IntKind.u32 (bxor IntKind.u32 (qar (ix x2 (4:Int)) (6:Int)) (qar (ix x2 (4:Int)) (11:Int))) (qar (ix x2 (4:Int)) (25:Int)))+bor IntKind.u32 (band IntKind.u32 (ix x2 (4:Int)) (ix x2 (5:Int))) (band IntKind.u32 (bxor IntKind.u32 (4294967295:Int) (ix x2 (4:Int))) (ix x2 (6:Int))))+ix shaK x3)+ix (qax a1_b (64:Nat)) x3)))))) (x3+(1:Int))<x1 x2 x3)))))))∧(¬x3<(64:Int)→∃(x8:Int→List Int→Prop),∃(x9:Int→List Int→Nat),x8 (0:Int) x2∧∀(x10:Int) (x11:List Int),x8 x10 x11→(Kd.int IntKind.i64).wf x10→(Ty.int IntKind.u32).kd.sl.wf x11→(x10<(8:Int)→((0:Int)≤x10∧x10<(x11.length:Int))∧((0:Int)≤x10∧x10<(a0_old.length:Int))∧((0:Int)≤x10∧x10<(x11.length:Int))∧x10<(9223372036854775807:Int)∧x8 (x10+(1:Int)) (x11.set x10.toNat (IntKind.u32.wrap (ix x11 x10+ix a0_old x10)))∧x9 (x10+(1:Int)) (x11.set x10.toNat (IntKind.u32.wrap (ix x11 x10+ix a0_old x10)))<x9 x10 x11)∧(¬x10<(8:Int)→Q x11)))
theorem qlr {a0_old:List Int} {a1_b:List UInt8} (w_0:(Ty.kd (.sl (.int .u32))).wf a0_old) (w_1:(Ty.kd (.sl .byte)).wf a1_b) (hp:a0_old.length=8∧a1_b.length=64):qfc a0_old a1_b (fun o0=>o0=(qbH a0_old a1_b)):=by
 obtain ⟨hp1,hp2⟩:=hp
 have w64: ∀a:Int, -1000≤a→a≤1000→IntKind.i64.wrap a=a:=fun a h1 h2=>qav (wf64 (by omega) (by omega))
 have hk:shaK.length=64:=by decide
 have hwl:=qcx a1_b 64
 have hrl: ∀n,(qbs (qax a1_b 64) a0_old n).length=8:=fun n=>by
  cases n with
  | zero=>exact hp1
  | succ n=>rfl
 unfold qfc
 simp only [List.nil_append]
 refine ⟨by simp;omega,hp2,fun _ _=>⟨fun x i=> ∃n:Nat,i=(n:Int)∧n≤64∧x=qbs (qax a1_b 64) a0_old n,fun _ i=>64 - i.toNat,⟨0,rfl,by omega,rfl⟩,?_⟩⟩
 rintro x i ⟨n,rfl,hn,rfl⟩ hwf _
 have hx:=hrl n
 refine ⟨fun hlt=>?_,fun hge=>?_⟩
 ·have x4:=wf32 (hwf.2 _ (qcc (l:=qbs (qax a1_b 64) a0_old n) (i:=4) (by omega) (by rw [hx];decide)))
  have x0:=wf32 (hwf.2 _ (qcc (l:=qbs (qax a1_b 64) a0_old n) (i:=0) (by omega) (by rw [hx];decide)))
  have hnext:qbs (qax a1_b 64) a0_old (n+1)=qnD (qax a1_b 64) (qbs (qax a1_b 64) a0_old n) n:=rfl
  rw [←qtu x4,←qtv x0,qt8,qtb]
  generalize hX:qbs (qax a1_b 64) a0_old n=X at *
  rw [hx,hk,hwl]
  refine ⟨by omega,by omega,by omega,by omega,by omega,by omega,by omega,by omega,fun _=>⟨by omega,fun _=>⟨by omega,fun _ _=>?_⟩⟩⟩
  refine ⟨by omega,by omega,by omega,by omega,by omega,fun _=>⟨by omega,fun _=>⟨by omega,fun _ _=>?_⟩⟩⟩
  refine ⟨by omega,by omega,?_,?_,by omega,⟨n+1,by omega,by omega,?_⟩,(by show 64 - ((n:Int)+1).toNat<64 - (n:Int).toNat;omega)⟩
  ·rw [List.length_set,hx];decide
  ·simp only [List.length_cons,List.length_nil,List.length_drop,List.length_take,List.length_set,hx];decide
  ·rw [hnext]
   match X,hx with
   | [y0,y1,y2,y3,y4,y5,y6,y7],_=>rfl
 ·have hn64:n=64:=by omega
  subst hn64
  have hT:qbH a0_old a1_b=addN a0_old (qbs (qax a1_b 64) a0_old 64) 8:=by unfold qbH;rfl
  rw [hT]
  have hTl:(addN a0_old (qbs (qax a1_b 64) a0_old 64) 8).length=8:=by rw [qeU,hp1]
  have hadd:=qoB (x:=qbs (qax a1_b 64) a0_old 64) hp1
  clear hrl hT hwf hn hge
  generalize qbs (qax a1_b 64) a0_old 64=R at *
  refine ⟨fun i x=> ∃n:Nat,i=(n:Int)∧n≤8∧x.length=8∧∀j:Nat,j<8→x[j]?=if j<n then (addN a0_old R 8)[j]? else R[j]?,fun i _=>8 - i.toNat,⟨0,rfl,by omega,hx,fun j hj=>by rw [if_neg (by omega)]⟩,?_⟩
  rintro i x ⟨n,rfl,hn,hxl,hxj⟩ _ _
  refine ⟨fun hlt=>⟨by omega,by omega,by omega,by omega,⟨n+1,by omega,by omega,by rw [List.length_set];exact hxl,fun j hj=>?_⟩,by show 8 - ((n:Int)+1).toNat<8 - (n:Int).toNat;omega⟩,fun hge=>?_⟩
  ·have hi:ix x (n:Int)=ix R (n:Int):=by
    have h:=hxj n (by omega)
    rw [if_neg (by omega)] at h
    unfold ix
    simp only [List.getD_eq_getElem?_getD,Int.toNat_natCast]
    rw [h]
   rw [hi,List.getElem?_set,Int.toNat_natCast]
   by_cases h:n=j
   ·subst h
    rw [if_pos rfl,if_pos (by omega),if_pos (by omega),hadd 8 n (by omega) (by omega),if_pos (by omega),Int.add_comm]
   ·rw [if_neg h,hxj j hj]
    by_cases h2:j<n
    ·rw [if_pos h2,if_pos (by omega)]
    ·rw [if_neg h2,if_neg (by omega)]
  ·have hn8:n=8:=by omega
   subst hn8
   apply List.ext_getElem?
   intro j
   by_cases hj:j<8
   ·rw [hxj j hj,if_pos hj]
   ·rw [List.getElem?_eq_none (by omega),List.getElem?_eq_none (by omega)]
theorem qlq:(∀a,qc8.pre a→PM.wfP qc8.pm a (fvc qjB 200 128 qc8 a (eqO qc8 a)))=(∀a:(List Int)×(List UInt8)×Unit,((a.1).length=8∧(a.2.1).length=64)→(Ty.kd (.sl (.int .u32))).wf a.1→(Ty.kd (.sl .byte)).wf a.2.1→qfc a.1 a.2.1 (fun o0=>o0=(qbH (a.1) (a.2.1)))):=by kernel_rfl
theorem qjC:qc8.valid Try.prog 128:=qaC (X:=qjB) (qaZ (qau.rows [1000189]) (fun b hb=>by cases hb;exact qaA) qaD ⟨qlc,qi0,qqc,qnL,trivial⟩) 200 (qlq.mpr fun a hp w_0 w_1=> @qlr a.1 a.2.1 w_0 w_1 hp)
noncomputable def qls:Ctr:=⟨[.v (.sl (.int .u32)),.v (.sl .byte)],[.ow 189 (.int .u32)],some (fun a=>(fun (a0_old:List Int) (a1_b:List UInt8)=>(a0_old.length=8∧a1_b.length=64:Prop)) a.1 a.2.1),fun a=>(fun (a0_old:List Int) (a1_b:List UInt8)=>(((qbH a0_old a1_b),()),(()))) a.1 a.2.1⟩
theorem qqn:qls.valid Try.prog 128:=qpg qjC
noncomputable def qgb:Ctr:=⟨[.v (.sl (.sl .byte))],[.ow 5 .byte],some (fun a=>(fun (a0_parts:List (List UInt8))=>(a0_parts.flatten.length≤70368744177664:Prop)) a.1),fun a=>(fun (a0_parts:List (List UInt8))=>((a0_parts.flatten,()),(()))) a.1⟩
noncomputable def qpN:Fx:=⟨seat,some bkT,fns,[],[],[],[]⟩
def qiN (a0_parts:List (List UInt8)) (Q:(List UInt8)→Prop):Prop:=
 ∃(x0:List UInt8→Int→Prop),∃(x1:List UInt8→Int→Nat),x0 ([]:List UInt8) (0:Int)∧∀(x2:List UInt8) (x3:Int),x0 x2 x3→Ty.byte.kd.sl.wf x2→(Kd.int IntKind.i64).wf x3→(x3<(a0_parts.length:Int)→((0:Int)≤x3∧x3<(a0_parts.length:Int))∧(x2.length+(ix a0_parts x3).length) *(1:Nat)≤(140737488355328:Nat)∧x3<(9223372036854775807:Int)∧x0 (x2++ix a0_parts x3) (x3+(1:Int))∧x1 (x2++ix a0_parts x3) (x3+(1:Int))<x1 x2 x3)∧(¬x3<(a0_parts.length:Int)→Q x2)
theorem qqJ {a0_parts:List (List UInt8)} (w_0:(Ty.kd (.sl (.sl .byte))).wf a0_parts) (hp:a0_parts.flatten.length≤70368744177664):qiN a0_parts (fun o0=>o0=a0_parts.flatten):=by
 have hL:a0_parts.length≤LM:=w_0.1
 unfold LM at hL
 unfold qiN
 refine ⟨fun out i=> ∃j:Nat,i=(j:Int)∧j≤a0_parts.length∧out=(a0_parts.take j).flatten,fun _ i=>a0_parts.length - i.toNat,⟨0,rfl,by omega,by simp⟩,?_⟩
 rintro out i ⟨j,rfl,hj,rfl⟩ _ _
 refine ⟨fun hlt=>⟨⟨by omega,hlt⟩,?_,by omega,⟨j+1,by omega,by omega,(qcX hlt).symm⟩,?_⟩,fun hge=>?_⟩
 ·have h1:=qfB (l:=a0_parts) (j+1)
  rw [qcX hlt,List.length_append] at h1
  omega
 ·show a0_parts.length - ((j:Int)+1).toNat<a0_parts.length - (j:Int).toNat
  omega
 ·have:j=a0_parts.length:=by omega
  subst this
  rw [List.take_length]
theorem qqI:(∀a,qgb.pre a→PM.wfP qgb.pm a (fvc qpN 200 127 qgb a (eqO qgb a)))=(∀a:(List (List UInt8))×Unit,((a.1).flatten.length≤70368744177664)→(Ty.kd (.sl (.sl .byte))).wf a.1→qiN a.1 (fun o0=>o0=(a.1).flatten)):=by kernel_rfl
theorem qsc:qgb.valid Try.prog 127:=qaC (X:=qpN) (qaZ qau (fun b hb=>by cases hb;exact qaA) qaD trivial) 200 (qqI.mpr fun a hp w_0=> @qqJ a.1 w_0 hp)
noncomputable def qgd:Ctr:=⟨[.v (.sl (.sl .byte))],[.v (.arr 32 .byte)],some (fun a=>(fun (a0_parts:List (List UInt8))=>(a0_parts.flatten.length≤70368744177664:Prop)) a.1),fun a=>(fun (a0_parts:List (List UInt8))=>(((qaS a0_parts),()),(()))) a.1⟩
noncomputable def qpP:Fx:=⟨seat,some bkT,fns,[(127,qgb),(126,qck),(128,qls),(128,qc8),(129,qdL)],[],[(9,[5],[])],[(11,[5],[.o 0 2,.o 1 2,.o 2 2,.o 3 2,.o 4 2,.o 5 2,.o 6 2,.o 7 2,.o 8 2,.o 9 2,.o 10 0,.o 11 2,.o 12 2,.o 13 2,.o 14 2,.o 15 1])]⟩
def qiQ (a0_parts:List (List UInt8)) (Q:(List UInt8)→Prop):Prop:=
 a0_parts.flatten.length≤(70368744177664:Nat)∧(Ty.byte.kd.sl.wf a0_parts.flatten→a0_parts.flatten.length≤(70368744177664:Nat)∧(Ty.byte.kd.sl.wf (qco a0_parts.flatten)→∃(x0:List Int→Int→Prop),∃(x1:List Int→Int→Nat),x0 ((1779033703:Int)::(3144134277:Int)::(1013904242:Int)::(2773480762:Int)::(1359893119:Int)::(2600822924:Int)::(528734635:Int)::(1541459225:Int)::([]:List Int)) (0:Int)∧∀(x2:List Int) (x3:Int),x0 x2 x3→(Ty.int IntKind.u32).kd.sl.wf x2→(Kd.int IntKind.i64).wf x3→(x3<((qco a0_parts.flatten).length:Int)→((0:Int)≤x3∧x3≤IntKind.i64.wrap (x3+(64:Int))∧IntKind.i64.wrap (x3+(64:Int))≤((qco a0_parts.flatten).length:Int))∧(x2.length=(8:Nat)∧(List.drop x3.toNat (List.take (IntKind.i64.wrap (x3+(64:Int))).toNat (qco a0_parts.flatten))).length=(64:Nat))∧((Ty.int IntKind.u32).kd.sl.wf (qbH x2 (List.drop x3.toNat (List.take (IntKind.i64.wrap (x3+(64:Int))).toNat (qco a0_parts.flatten))))→x0 (qbH x2 (List.drop x3.toNat (List.take (IntKind.i64.wrap (x3+(64:Int))).toNat (qco a0_parts.flatten)))) (IntKind.i64.wrap (x3+(64:Int)))∧x1 (qbH x2 (List.drop x3.toNat (List.take (IntKind.i64.wrap (x3+(64:Int))).toNat (qco a0_parts.flatten)))) (IntKind.i64.wrap (x3+(64:Int)))<x1 x2 x3))∧(¬x3<((qco a0_parts.flatten).length:Int)→∃(x8:Int→List UInt8→Prop),∃(x9:Int→List UInt8→Nat),x8 (0:Int) (Ty.arr (32:Nat) Ty.byte).kd.z∧∀(x10:Int) (x11:List UInt8),x8 x10 x11→(Kd.int IntKind.i64).wf x10→(Ty.arr (32:Nat) Ty.byte).kd.wf x11→(x10<(32:Int)→((0:Int)≤IntKind.i64.wrap (x10.tdiv (4:Int))∧IntKind.i64.wrap (x10.tdiv (4:Int))<(x2.length:Int))∧((0:Int)≤IntKind.i64.wrap ((24:Int) - IntKind.i64.wrap (x10.tmod (4:Int) *(8:Int)))∧IntKind.i64.wrap ((24:Int) - IntKind.i64.wrap (x10.tmod (4:Int) *(8:Int)))≤(31:Int))∧((Ty.int IntKind.u32).kd.wf ((2:Int)^(IntKind.i64.wrap ((24:Int) - IntKind.i64.wrap (x10.tmod (4:Int) *(8:Int)))).toNat)→(2:Int)^(IntKind.i64.wrap ((24:Int) - IntKind.i64.wrap (x10.tmod (4:Int) *(8:Int)))).toNat≠(0:Int)∧((0:Int)≤x10∧x10<((32:Nat):Int))∧x10<(9223372036854775807:Int)∧x8 (x10+(1:Int)) (x11.set x10.toNat (toB (IntKind.u8.wrap ((IntKind.u32.wrap ((ix x2 (IntKind.i64.wrap (x10.tdiv (4:Int)))).tdiv ((2:Int)^(IntKind.i64.wrap ((24:Int) - IntKind.i64.wrap (x10.tmod (4:Int) *(8:Int)))).toNat))).tmod (256:Int)))))∧x9 (x10+(1:Int)) (x11.set x10.toNat (toB (IntKind.u8.wrap ((IntKind.u32.wrap ((ix x2 (IntKind.i64.wrap (x10.tdiv (4:Int)))).tdiv ((2:Int)^(IntKind.i64.wrap ((24:Int) - IntKind.i64.wrap (x10.tmod (4:Int) *(8:Int)))).toNat))).tmod (256:Int)))))<x9 x10 x11))∧(¬x10<(32:Int)→Q x11))))
theorem qqN {a0_parts:List (List UInt8)} (w_0:(Ty.kd (.sl (.sl .byte))).wf a0_parts) (hp:a0_parts.flatten.length≤70368744177664):qiQ a0_parts (fun o0=>o0=(qaS a0_parts)):=by
 have w64: ∀a:Int,0≤a→a≤140737488355328→IntKind.i64.wrap a=a:=fun a h1 h2=>qav (wf64 (by omega) (by omega))
 unfold qiQ
 refine ⟨hp,fun _=>⟨hp,fun _=>?_⟩⟩
 rw [qle _ hp]
 have hml:=qib a0_parts.flatten
 have hz:qa0 a0_parts.flatten.length<64∧(a0_parts.flatten.length+(1+(qa0 a0_parts.flatten.length+8)))%64=0:=by unfold qa0;omega
 generalize hM:qco a0_parts.flatten=M at *
 have hM64:M.length%64=0:=by omega
 have hMle:M.length≤70368744177664+100:=by omega
 clear hml hz hM
 refine ⟨fun x i=> ∃k:Nat,i=((64 *k:Nat):Int)∧64 *k≤M.length∧x=blkN shaH M k,fun _ i=>M.length - i.toNat,⟨0,rfl,by omega,rfl⟩,?_⟩
 rintro x i ⟨k,rfl,hk,rfl⟩ hwx _
 have hbl:(blkN shaH M k).length=8:=by rw [qj2];rfl
 refine ⟨fun hlt=>?_,fun hge=>?_⟩
 ·rw [w64 _ (by omega) (by omega)]
  have e1:(((64 *k:Nat):Int)+64).toNat=64 *k+64:=by omega
  rw [e1,Int.toNat_natCast]
  have hd:(M.take (64 *k+64)).drop (64 *k)=(M.drop (64 *k)).take 64:=by rw [List.drop_take];congr 1;omega
  rw [hd]
  refine ⟨by omega,⟨hbl,by rw [List.length_take,List.length_drop];omega⟩,fun _=>⟨⟨k+1,by omega,by omega,rfl⟩,?_⟩⟩
  show M.length - (((64 *k:Nat):Int)+64).toNat<M.length - ((64 *k:Nat):Int).toNat
  omega
 ·have hk2:M.length/64=k:=by omega
  rw [hk2,qps]
  generalize blkN shaH M k=X at *
  refine ⟨fun i b=> ∃n:Nat,i=(n:Int)∧n≤32∧b.length=32∧∀j:Nat,j<n→b[j]?=some (outB X j),fun i _=>32 - i.toNat,⟨0,rfl,by omega,rfl,fun j hj=>by omega⟩,?_⟩
  rintro i b ⟨n,rfl,hn,hb,hbj⟩ _ _
  refine ⟨fun hlt=>?_,fun hge=>?_⟩
  ·have w64': ∀a:Int, -1000≤a→a≤1000→IntKind.i64.wrap a=a:=fun a h1 h2=>qav (wf64 (by omega) (by omega))
   have d1:Int.tdiv (n:Int) 4=((n/4:Nat):Int):=(Int.ofNat_tdiv n 4).symm
   have d2:Int.tmod (n:Int) 4=((n%4:Nat):Int):=(Int.ofNat_tmod n 4).symm
   rw [d1,d2,w64' ((n/4:Nat):Int) (by omega) (by omega),w64' (((n%4:Nat):Int) *8) (by omega) (by omega),w64' (24 - ((n%4:Nat):Int) *8) (by omega) (by omega)]
   have e3:(24 - ((n%4:Nat):Int) *8).toNat=24 - n%4 *8:=by omega
   rw [e3]
   have hpos:=Nat.two_pow_pos (24 - n%4 *8)
   have e4:(2^(24 - n%4 *8):Int)=((2^(24 - n%4 *8):Nat):Int):=by simp
   rw [e4]
   refine ⟨by omega,by omega,fun _=>⟨by omega,by omega,by omega,⟨n+1,by omega,by omega,by rw [List.length_set];exact hb,fun j hj=>?_⟩,by show 32 - ((n:Int)+1).toNat<32 - (n:Int).toNat;omega⟩⟩
   rw [List.getElem?_set,Int.toNat_natCast]
   by_cases h:n=j
   ·subst h
    rw [if_pos rfl,if_pos (by omega)]
    congr 1
    unfold outB
    have hxw:=wf32 (hwx.2 _ (qcc (l:=X) (i:=((n/4:Nat):Int)) (by omega) (by omega)))
    obtain ⟨A,hA⟩:=Int.eq_ofNat_of_zero_le hxw.1
    rw [hA] at hxw⊢
    have hle:A/2^(24 - n%4 *8)≤A:=Nat.div_le_self _ _
    rw [←Int.ofNat_tdiv,Int.toNat_natCast]
    generalize A/2^(24 - n%4 *8)=D at *
    rw [qa4 (by omega),show (256:Int)=((256:Nat):Int) from rfl,←Int.ofNat_tmod,qav ⟨by show (0:Int)≤_;omega,by show _≤(255:Int);omega⟩]
    unfold toB
    rw [Int.toNat_natCast]
    apply UInt8.toNat_inj.1
    simp
   ·rw [if_neg h]
    exact hbj j (by omega)
  ·have:n=32:=by omega
   subst this
   apply List.ext_getElem?
   intro j
   by_cases hj:j<32
   ·rw [hbj j hj]
    simp [hj]
   ·rw [List.getElem?_eq_none (by omega),List.getElem?_eq_none (by simp;omega)]
theorem qqM:(∀a,qgd.pre a→PM.wfP qgd.pm a (fvc qpP 200 111 qgd a (eqO qgd a)))=(∀a:(List (List UInt8))×Unit,((a.1).flatten.length≤70368744177664)→(Ty.kd (.sl (.sl .byte))).wf a.1→qiQ a.1 (fun o0=>o0=(qaS (a.1)))):=by kernel_rfl
theorem qsh:qgd.valid Try.prog 111:=qaC (X:=qpP) (qaZ qau (fun b hb=>by cases hb;exact qaA) qaD ⟨qsc,qlP,qqn,qjC,qnu,trivial⟩) 200 (qqM.mpr fun a hp w_0=> @qqN a.1 w_0 hp)
noncomputable def qcl:Ctr:=⟨[.v (.int .u64)],[.ow 5 .byte],none,fun a=>(fun (a0_x:Int)=>(((numB a0_x.toNat),()),(()))) a.1⟩
noncomputable def qhI:Fx:=⟨seat,some bkT,fns,[],[],[],[]⟩
def qeg (a0_x:Int) (Q:(List UInt8)→Prop):Prop:=
 ∃(x0:Int→List UInt8→Prop),∃(x1:Int→List UInt8→Nat),x0 a0_x ([]:List UInt8)∧∀(x2:Int) (x3:List UInt8),x0 x2 x3→(Kd.int IntKind.u64).wf x2→Ty.byte.kd.sl.wf x3→((0:Int)<x2→(x3.length+(toB (IntKind.u8.wrap (x2.tmod (256:Int)))::([]:List UInt8)).length) *(1:Nat)≤(140737488355328:Nat)∧x0 (IntKind.u64.wrap (x2.tdiv (256:Int))) (x3++toB (IntKind.u8.wrap (x2.tmod (256:Int)))::([]:List UInt8))∧x1 (IntKind.u64.wrap (x2.tdiv (256:Int))) (x3++toB (IntKind.u8.wrap (x2.tmod (256:Int)))::([]:List UInt8))<x1 x2 x3)∧(¬(0:Int)<x2→∃(x8:List UInt8→Int→Prop),∃(x9:List UInt8→Int→Nat),x8 (toB (IntKind.u8.wrap (x3.length:Int))::([]:List UInt8)) (x3.length:Int)∧∀(x10:List UInt8) (x11:Int),x8 x10 x11→Ty.byte.kd.sl.wf x10→(Kd.int IntKind.i64).wf x11→((0:Int)<x11→((0:Int)≤IntKind.i64.wrap (x11 - (1:Int))∧IntKind.i64.wrap (x11 - (1:Int))<(x3.length:Int))∧(x10.length+(ix x3 (IntKind.i64.wrap (x11 - (1:Int)))::([]:List UInt8)).length) *(1:Nat)≤(140737488355328:Nat)∧x8 (x10++ix x3 (IntKind.i64.wrap (x11 - (1:Int)))::([]:List UInt8)) (IntKind.i64.wrap (x11 - (1:Int)))∧x9 (x10++ix x3 (IntKind.i64.wrap (x11 - (1:Int)))::([]:List UInt8)) (IntKind.i64.wrap (x11 - (1:Int)))<x9 x10 x11)∧(¬(0:Int)<x11→Q x10))
theorem qkS {a0_x:Int} (w_0:(Ty.kd (.int .u64)).wf a0_x):qeg a0_x (fun o0=>o0=(numB a0_x.toNat)):=by
 obtain ⟨n,rfl⟩:=Int.eq_ofNat_of_zero_le w_0.1
 have hn:n<18446744073709551616:=by have h:(n:Int)≤18446744073709551615:=w_0.2;omega
 rw [Int.toNat_natCast]
 have w64: ∀a:Int, -1000≤a→a≤1000→IntKind.i64.wrap a=a:=fun a h1 h2=>qav (wf64 (by omega) (by omega))
 unfold qeg
 refine ⟨fun x low=> ∃j:Nat,j≤8∧x=((n/2^(8 *j):Nat):Int)∧low=(List.range j).map (fun i=>UInt8.ofNat (n/2^(8 *i)))∧(j=0∨0<n/2^(8 *(j - 1))),fun x _=>x.toNat,⟨0,by omega,by simp,rfl,.inl rfl⟩,?_⟩
 rintro x low ⟨j,hj,rfl,rfl,hlow⟩ _ _
 have hdd:n/2^(8 *(j+1))=n/2^(8 *j)/256:=by
  rw [Nat.div_div_eq_div_mul,show 8 *(j+1)=8 *j+8 by omega,Nat.pow_add]
 refine ⟨fun hpos=>?_,fun hz=>?_⟩
 ·have hj8:j<8:=by
   rcases Nat.lt_or_eq_of_le hj with h | h
   ·exact h
   ·subst h
    rw [Nat.div_eq_of_lt (by simpa using hn)] at hpos
    omega
  have hle:n/2^(8 *j)≤n:=Nat.div_le_self _ _
  have e1:IntKind.u64.wrap (Int.tdiv ((n/2^(8 *j):Nat):Int) 256)=((n/2^(8 *(j+1)):Nat):Int):=by
   rw [hdd]
   clear hdd hlow hpos
   generalize n/2^(8 *j)=A at *
   rw [show (256:Int)=((256:Nat):Int) from rfl,←Int.ofNat_tdiv,qav ⟨by show (0:Int)≤_;omega,by show _≤(18446744073709551615:Int);omega⟩]
  have e2:toB (IntKind.u8.wrap (Int.tmod ((n/2^(8 *j):Nat):Int) 256))=UInt8.ofNat (n/2^(8 *j)):=by
   generalize n/2^(8 *j)=A
   rw [show (256:Int)=((256:Nat):Int) from rfl,←Int.ofNat_tmod,qav ⟨by show (0:Int)≤_;omega,by show _≤(255:Int);omega⟩]
   unfold toB
   rw [Int.toNat_natCast]
   apply UInt8.toNat_inj.1
   simp
  rw [e1,e2]
  refine ⟨by simp;omega,⟨j+1,by omega,rfl,by rw [List.range_succ];simp,.inr ?_⟩,?_⟩
  ·rw [show j+1 - 1=j by omega]
   clear hdd hlow e1 e2
   generalize n/2^(8 *j)=A at *
   omega
  ·show ((n/2^(8 *(j+1)):Nat):Int).toNat<((n/2^(8 *j):Nat):Int).toNat
   rw [hdd]
   clear hdd hlow e1 e2
   generalize n/2^(8 *j)=A at *
   omega
 ·have hz0:n/2^(8 *j)=0:=by
   revert hz
   generalize n/2^(8 *j)=A
   intro hz
   omega
  have hlt:n<2^(8 *j):=by
   rcases Nat.lt_or_ge n (2^(8 *j)) with h | h
   ·exact h
   ·have:=Nat.div_pos h (Nat.two_pow_pos (8 *j));omega
  have hk:(blen n+7)/8=j:=by
   have h1:=qfu (8 *j) hlt
   rcases hlow with h | h
   ·subst h;omega
   ·have h2:2^(8 *(j - 1))≤n:=by
     rcases Nat.lt_or_ge n (2^(8 *(j - 1))) with hq | hq
     ·rw [Nat.div_eq_of_lt hq] at h;omega
     ·exact hq
    have h3:=Nat.lt_of_le_of_lt h2 (qrl n)
    have h4:8 *(j - 1)<blen n:=(Nat.pow_lt_pow_iff_right (by omega)).1 h3
    rcases Nat.eq_zero_or_pos j with hj0 | hj0
    ·subst hj0;omega
    ·omega
  have hlen:((List.range j).map (fun i=>UInt8.ofNat (n/2^(8 *i)))).length=j:=by simp
  have hix: ∀i:Nat,i<j→ix ((List.range j).map (fun i=>UInt8.ofNat (n/2^(8 *i)))) (i:Int)=UInt8.ofNat (n/2^(8 *i)):=fun i hi=>by
   unfold ix
   simp [hi]
  have hn0:numB n=toB (IntKind.u8.wrap (j:Int))::be n j:=by
   unfold numB
   simp only [hk]
   congr 1
   rw [qav ⟨by show (0:Int)≤_;omega,by show _≤(255:Int);omega⟩]
   unfold toB
   rw [Int.toNat_natCast]
  rw [hlen,hn0]
  refine ⟨fun out i=> ∃m:Nat,i=(m:Int)∧m≤j∧out++be n m=toB (IntKind.u8.wrap (j:Int))::be n j,fun _ i=>i.toNat,⟨j,rfl,by omega,rfl⟩,?_⟩
  rintro out i ⟨m,rfl,hm,hout⟩ _ _
  have hol:=congrArg List.length hout
  simp only [List.length_append,List.length_cons,qaX] at hol
  refine ⟨fun hpos=>?_,fun h0=>?_⟩
  ·obtain ⟨m,rfl⟩: ∃m',m=m'+1:=⟨m - 1,by omega⟩
   have e:IntKind.i64.wrap (((m+1:Nat):Int) - 1)=(m:Int):=by rw [w64 _ (by omega) (by omega)];omega
   rw [e,hix m (by omega)]
   refine ⟨by omega,by simp only [List.length_cons,List.length_nil];omega,⟨m,rfl,by omega,?_⟩,by show (m:Int).toNat<((m+1:Nat):Int).toNat;omega⟩
   rw [←hout]
   simp [be]
  ·have:m=0:=by omega
   subst this
   simpa [be] using hout
theorem qkR:(∀a,qcl.pre a→PM.wfP qcl.pm a (fvc qhI 200 109 qcl a (eqO qcl a)))=(∀a:Int×Unit,True→(Ty.kd (.int .u64)).wf a.1→qeg a.1 (fun o0=>o0=(numB (a.1).toNat))):=by kernel_rfl
theorem ql0:qcl.valid Try.prog 109:=qaC (X:=qhI) (qaZ qau (fun b hb=>by cases hb;exact qaA) qaD trivial) 200 (qkR.mpr fun a hp w_0=> @qkS a.1 w_0)
noncomputable def qda:Ctr:=⟨[.v (.sl .byte),.v (.sl (.sl .byte))],[.ow 5 .byte],some (fun a=>(fun (a0_b:List UInt8) (a1_l:List (List UInt8))=>(a0_b.length+qah a1_l≤140737488355328:Prop)) a.1 a.2.1),fun a=>(fun (a0_b:List UInt8) (a1_l:List (List UInt8))=>(((a0_b++qaN a1_l),()),(()))) a.1 a.2.1⟩
noncomputable def qjP:Fx:=⟨seat,some bkT,fns,[(109,qcl)],[],[],[]⟩
def qfl (a0_b:List UInt8) (a1_l:List (List UInt8)) (Q:(List UInt8)→Prop):Prop:=
 (([]:List UInt8).length+a0_b.length) *(1:Nat)≤(140737488355328:Nat)∧∃(x0:List UInt8→Int→Prop),∃(x1:List UInt8→Int→Nat),x0 (([]:List UInt8)++a0_b) (0:Int)∧∀(x2:List UInt8) (x3:Int),x0 x2 x3→Ty.byte.kd.sl.wf x2→(Kd.int IntKind.i64).wf x3→(x3<(a1_l.length:Int)→((0:Int)≤x3∧x3<(a1_l.length:Int))∧(Ty.byte.kd.sl.wf (numB (IntKind.u64.wrap ((ix a1_l x3).length:Int)).toNat)→(x2.length+(numB (IntKind.u64.wrap ((ix a1_l x3).length:Int)).toNat).length) *(1:Nat)≤(140737488355328:Nat)∧((0:Int)≤x3∧x3<(a1_l.length:Int))∧((x2++numB (IntKind.u64.wrap ((ix a1_l x3).length:Int)).toNat).length+(ix a1_l x3).length) *(1:Nat)≤(140737488355328:Nat)∧x3<(9223372036854775807:Int)∧x0 (x2++numB (IntKind.u64.wrap ((ix a1_l x3).length:Int)).toNat++ix a1_l x3) (x3+(1:Int))∧x1 (x2++numB (IntKind.u64.wrap ((ix a1_l x3).length:Int)).toNat++ix a1_l x3) (x3+(1:Int))<x1 x2 x3))∧(¬x3<(a1_l.length:Int)→Q x2)
theorem qlY {a0_b:List UInt8} {a1_l:List (List UInt8)} (w_0:(Ty.kd (.sl .byte)).wf a0_b) (w_1:(Ty.kd (.sl (.sl .byte))).wf a1_l) (hp:a0_b.length+qah a1_l≤140737488355328):qfl a0_b a1_l (fun o0=>o0=(a0_b++qaN a1_l)):=by
 have hw: ∀x∈a1_l,x.length≤LM:=fun x hx=>(w_1.2 x hx).1
 have hL:a1_l.length≤LM:=w_1.1
 unfold LM at hL
 unfold qfl
 simp only [List.nil_append]
 refine ⟨by simp only [List.length_nil];omega,fun out i=> ∃j:Nat,i=(j:Int)∧j≤a1_l.length∧out=a0_b++qaN (a1_l.take j),fun _ i=>a1_l.length - i.toNat,⟨0,rfl,by omega,by simp [qaN]⟩,?_⟩
 rintro out i ⟨j,rfl,hj,rfl⟩ _ _
 refine ⟨fun hlt=>?_,fun hge=>?_⟩
 ·have h1:=qbn (a1_l.take j) (fun y hy=>by have:=hw y (List.mem_of_mem_take hy);unfold LM at this;omega)
  have h2:=qcB hlt
  have h3:=hw _ (qcc (by omega) hlt)
  have h4:IntKind.u64.wrap ((ix a1_l (j:Int)).length:Int)=((ix a1_l (j:Int)).length:Int):=qav ⟨by show (0:Int)≤_;omega,by unfold LM at h3;show _≤(18446744073709551615:Int);omega⟩
  have h5:=qcG (n:=(ix a1_l (j:Int)).length) (by unfold LM at h3;omega)
  rw [h4,Int.toNat_natCast]
  refine ⟨⟨by omega,hlt⟩,fun _=>⟨?_,⟨by omega,hlt⟩,?_,by omega,⟨j+1,by omega,by omega,?_⟩,?_⟩⟩
  ·simp only [List.length_append];omega
  ·simp only [List.length_append];omega
  ·rw [qbe hlt]
   simp [qaN]
  ·show a1_l.length - ((j:Int)+1).toNat<a1_l.length - (j:Int).toNat
   omega
 ·have:j=a1_l.length:=by omega
  subst this
  rw [List.take_length]
theorem qlX:(∀a,qda.pre a→PM.wfP qda.pm a (fvc qjP 200 96 qda a (eqO qda a)))=(∀a:(List UInt8)×(List (List UInt8))×Unit,((a.1).length+qah (a.2.1)≤140737488355328)→(Ty.kd (.sl .byte)).wf a.1→(Ty.kd (.sl (.sl .byte))).wf a.2.1→qfl a.1 a.2.1 (fun o0=>o0=((a.1)++qaN (a.2.1)))):=by kernel_rfl
theorem qot:qda.valid Try.prog 96:=qaC (X:=qjP) (qaZ qau (fun b hb=>by cases hb;exact qaA) qaD ⟨ql0,trivial⟩) 200 (qlX.mpr fun a hp w_0 w_1=> @qlY a.1 a.2.1 w_0 w_1 hp)
noncomputable def qba:Ctr:=⟨[.v (.int .i64),.v (.sl (.sl .byte))],[.ow 5 .byte],some (fun a=>(fun (a0_kind:Int) (a1_parts:List (List UInt8))=>(1+qah a1_parts≤140737488355328:Prop)) a.1 a.2.1),fun a=>(fun (a0_kind:Int) (a1_parts:List (List UInt8))=>(((preimage a0_kind a1_parts),()),(()))) a.1 a.2.1⟩
noncomputable def qfm:Fx:=⟨seat,some bkT,fns,[(96,qda)],[],[],[]⟩
def qcQ (a0_kind:Int) (a1_parts:List (List UInt8)) (Q:(List UInt8)→Prop):Prop:=
 (toB (IntKind.u8.wrap a0_kind)::([]:List UInt8)).length+qah a1_parts≤(140737488355328:Nat)∧(Ty.byte.kd.sl.wf (toB (IntKind.u8.wrap a0_kind)::([]:List UInt8)++qaN a1_parts)→Q (toB (IntKind.u8.wrap a0_kind)::([]:List UInt8)++qaN a1_parts))
theorem qhK {a0_kind:Int} {a1_parts:List (List UInt8)} (w_0:(Ty.kd (.int .i64)).wf a0_kind) (w_1:(Ty.kd (.sl (.sl .byte))).wf a1_parts) (hp:1+qah a1_parts≤140737488355328):qcQ a0_kind a1_parts (fun o0=>o0=(preimage a0_kind a1_parts)):=by
 unfold qcQ
 exact ⟨by simpa using hp,fun _=>rfl⟩
theorem qhJ:(∀a,qba.pre a→PM.wfP qba.pm a (fvc qfm 200 103 qba a (eqO qba a)))=(∀a:Int×(List (List UInt8))×Unit,(1+qah (a.2.1)≤140737488355328)→(Ty.kd (.int .i64)).wf a.1→(Ty.kd (.sl (.sl .byte))).wf a.2.1→qcQ a.1 a.2.1 (fun o0=>o0=(preimage (a.1) (a.2.1)))):=by kernel_rfl
theorem qdB:qba.valid Try.prog 103:=qaC (X:=qfm) (qaZ qau (fun b hb=>by cases hb;exact qaA) qaD ⟨qot,trivial⟩) 200 (qhJ.mpr fun a hp w_0 w_1=> @qhK a.1 a.2.1 w_0 w_1 hp)
noncomputable def qkT:Ctr:=⟨[.v (.int .i64),.v (.sl (.sl .byte))],[.v (.arr 32 .byte)],some (fun a=>(fun (a0_kind:Int) (a1_parts:List (List UInt8))=>(1+qah a1_parts≤70368744177664:Prop)) a.1 a.2.1),fun a=>(fun (a0_kind:Int) (a1_parts:List (List UInt8))=>(((qaj a0_kind a1_parts),()),(()))) a.1 a.2.1⟩
noncomputable def qse:Fx:=⟨seat,some bkT,fns,[(103,qba),(111,qgd)],[],[],[]⟩
def ql1 (a0_kind:Int) (a1_parts:List (List UInt8)) (Q:(List UInt8)→Prop):Prop:=
 (1:Nat)+qah a1_parts≤(140737488355328:Nat)∧(Ty.byte.kd.sl.wf (preimage a0_kind a1_parts)→(preimage a0_kind a1_parts::([]:List (List UInt8))).flatten.length≤(70368744177664:Nat)∧((Ty.arr (32:Nat) Ty.byte).kd.wf (qaS (preimage a0_kind a1_parts::([]:List (List UInt8))))→Q (qaS (preimage a0_kind a1_parts::([]:List (List UInt8))))))
theorem qsg {a0_kind:Int} {a1_parts:List (List UInt8)} (w_0:(Ty.kd (.int .i64)).wf a0_kind) (w_1:(Ty.kd (.sl (.sl .byte))).wf a1_parts) (hp:1+qah a1_parts≤70368744177664):ql1 a0_kind a1_parts (fun o0=>o0=(qaj a0_kind a1_parts)):=by
 have hl:=qbu a0_kind (l:=a1_parts) (by omega)
 unfold ql1
 exact ⟨by omega,fun _=>⟨by simp;omega,fun _=>rfl⟩⟩
theorem qsf:(∀a,qkT.pre a→PM.wfP qkT.pm a (fvc qse 200 68 qkT a (eqO qkT a)))=(∀a:Int×(List (List UInt8))×Unit,(1+qah (a.2.1)≤70368744177664)→(Ty.kd (.int .i64)).wf a.1→(Ty.kd (.sl (.sl .byte))).wf a.2.1→ql1 a.1 a.2.1 (fun o0=>o0=(qaj (a.1) (a.2.1)))):=by kernel_rfl
theorem qtG:qkT.valid Try.prog 68:=qaC (X:=qse) (qaZ qau (fun b hb=>by cases hb;exact qaA) qaD ⟨qdB,qsh,trivial⟩) 200 (qsf.mpr fun a hp w_0 w_1=> @qsg a.1 a.2.1 w_0 w_1 hp)
noncomputable def qfj:Ctr:=⟨[.bx (.pr (.sl (.pr (.arr 32 .byte) .str)) (.int .i64)) true,.v (.arr 32 .byte),.v (.sl .byte)],[],some (fun a=>(fun (a0_k:(List ((List UInt8)×List UInt8))×Int) (a1_s:List UInt8) (a2_b:List UInt8)=>((a0_k.1.length+1) *64≤140737488355328∧a2_b.length≤140737488355328:Prop)) a.1 a.2.1 a.2.2.1),fun a=>(fun (a0_k:(List ((List UInt8)×List UInt8))×Int) (a1_s:List UInt8) (a2_b:List UInt8)=>((()),((addL a0_k.1 a1_s a2_b,a0_k.2),()))) a.1 a.2.1 a.2.2.1⟩
noncomputable def qpL:Fx:=⟨seat,some bkT,fns,[],[],[],[(4,[],[.o 0 2,.o 1 2,.o 2 2,.o 3 2,.o 4 2,.o 5 2,.o 6 2,.o 7 2,.o 8 2,.o 9 2,.o 10 2,.o 11 2,.o 12 2,.o 13 2,.o 14 2,.o 15 2,.o 16 2,.o 17 2,.o 18 2,.o 19 2,.o 20 2,.o 21 2,.o 22 2]),(5,[0],[.o 0 3,.o 2 3,.o 3 3,.o 4 3,.o 7 3,.o 8 3,.o 9 3,.o 10 3,.par [1,5,6,11] (.alt 1 1 (.alt 5 1 (.alt 6 1 (.one 11 1 .fin) (.alt 11 1 (.one 6 1 .fin) .fin)) (.alt 11 1 (.one 5 1 (.one 6 1 .fin)) .fin)) (.alt 5 1 (.alt 1 1 (.alt 6 1 (.one 11 1 .fin) (.alt 11 1 (.one 6 1 .fin) .fin)) (.alt 11 1 (.one 1 1 (.one 6 1 .fin)) .fin)) (.alt 11 1 (.alt 1 1 (.one 5 1 (.one 6 1 .fin)) (.alt 5 1 (.one 1 1 (.one 6 1 .fin)) .fin)) .fin))),.o 12 1,.o 13 3,.o 14 3,.o 15 1])]⟩
def qiM (a0_k:(List ((List UInt8)×List UInt8))×Int) (a1_s:List UInt8) (a2_b:List UInt8) (Q:((List ((List UInt8)×List UInt8))×Int)→Prop):Prop:=
 ∃(x0:Int→Prop),∃(x1:Int→Nat),x0 (0:Int)∧∀(x2:Int),x0 x2→(Kd.int IntKind.i64).wf x2→(x2<(a0_k.fst.length:Int)→((0:Int)≤x2∧x2<(a0_k.fst.length:Int))∧((ix a0_k.fst x2).fst=a1_s→((0:Int)≤x2∧x2<(a0_k.fst.length:Int))∧((ix a0_k.fst x2).snd=a2_b→Q a0_k)∧(¬(ix a0_k.fst x2).snd=a2_b→x2<(9223372036854775807:Int)∧x0 (x2+(1:Int))∧x1 (x2+(1:Int))<x1 x2))∧(¬(ix a0_k.fst x2).fst=a1_s→x2<(9223372036854775807:Int)∧x0 (x2+(1:Int))∧x1 (x2+(1:Int))<x1 x2))∧(¬x2<(a0_k.fst.length:Int)→((((([]:List (List UInt8×List UInt8)).length+a0_k.fst.length) *(48:Nat)≤(140737488355328:Nat)∧((([]:List (List UInt8×List UInt8))++a0_k.fst).length+((a1_s,a2_b)::([]:List (List UInt8×List UInt8))).length) *(48:Nat)≤(140737488355328:Nat)∧Q (([]:List (List UInt8×List UInt8))++a0_k.fst++(a1_s,a2_b)::([]:List (List UInt8×List UInt8)),a0_k.snd))∧((([]:List (List UInt8×List UInt8)).length+a0_k.fst.length) *(48:Nat)≤(140737488355328:Nat)∧((([]:List (List UInt8×List UInt8))++a0_k.fst).length+((a1_s,a2_b)::([]:List (List UInt8×List UInt8))).length) *(48:Nat)≤(140737488355328:Nat)∧Q (([]:List (List UInt8×List UInt8))++a0_k.fst++(a1_s,a2_b)::([]:List (List UInt8×List UInt8)),a0_k.snd))∧True)∧((([]:List (List UInt8×List UInt8)).length+a0_k.fst.length) *(48:Nat)≤(140737488355328:Nat)∧((([]:List (List UInt8×List UInt8))++a0_k.fst).length+((a1_s,a2_b)::([]:List (List UInt8×List UInt8))).length) *(48:Nat)≤(140737488355328:Nat)∧Q (([]:List (List UInt8×List UInt8))++a0_k.fst++(a1_s,a2_b)::([]:List (List UInt8×List UInt8)),a0_k.snd))∧True)∧((((([]:List (List UInt8×List UInt8)).length+a0_k.fst.length) *(48:Nat)≤(140737488355328:Nat)∧((([]:List (List UInt8×List UInt8))++a0_k.fst).length+((a1_s,a2_b)::([]:List (List UInt8×List UInt8))).length) *(48:Nat)≤(140737488355328:Nat)∧Q (([]:List (List UInt8×List UInt8))++a0_k.fst++(a1_s,a2_b)::([]:List (List UInt8×List UInt8)),a0_k.snd))∧((([]:List (List UInt8×List UInt8)).length+a0_k.fst.length) *(48:Nat)≤(140737488355328:Nat)∧((([]:List (List UInt8×List UInt8))++a0_k.fst).length+((a1_s,a2_b)::([]:List (List UInt8×List UInt8))).length) *(48:Nat)≤(140737488355328:Nat)∧Q (([]:List (List UInt8×List UInt8))++a0_k.fst++(a1_s,a2_b)::([]:List (List UInt8×List UInt8)),a0_k.snd))∧True)∧((([]:List (List UInt8×List UInt8)).length+a0_k.fst.length) *(48:Nat)≤(140737488355328:Nat)∧((([]:List (List UInt8×List UInt8))++a0_k.fst).length+((a1_s,a2_b)::([]:List (List UInt8×List UInt8))).length) *(48:Nat)≤(140737488355328:Nat)∧Q (([]:List (List UInt8×List UInt8))++a0_k.fst++(a1_s,a2_b)::([]:List (List UInt8×List UInt8)),a0_k.snd))∧True)∧(((([]:List (List UInt8×List UInt8)).length+a0_k.fst.length) *(48:Nat)≤(140737488355328:Nat)∧((([]:List (List UInt8×List UInt8))++a0_k.fst).length+((a1_s,a2_b)::([]:List (List UInt8×List UInt8))).length) *(48:Nat)≤(140737488355328:Nat)∧Q (([]:List (List UInt8×List UInt8))++a0_k.fst++(a1_s,a2_b)::([]:List (List UInt8×List UInt8)),a0_k.snd))∧((([]:List (List UInt8×List UInt8)).length+a0_k.fst.length) *(48:Nat)≤(140737488355328:Nat)∧((([]:List (List UInt8×List UInt8))++a0_k.fst).length+((a1_s,a2_b)::([]:List (List UInt8×List UInt8))).length) *(48:Nat)≤(140737488355328:Nat)∧Q (([]:List (List UInt8×List UInt8))++a0_k.fst++(a1_s,a2_b)::([]:List (List UInt8×List UInt8)),a0_k.snd))∧True)∧True)
theorem qqH {a0_k:(List ((List UInt8)×List UInt8))×Int} {a1_s:List UInt8} {a2_b:List UInt8} (w_0:(Ty.kd (.pr (.sl (.pr (.arr 32 .byte) .str)) (.int .i64))).wf a0_k) (w_1:(Ty.kd (.arr 32 .byte)).wf a1_s) (w_2:(Ty.kd (.sl .byte)).wf a2_b) (hp:(a0_k.1.length+1) *64≤140737488355328∧a2_b.length≤140737488355328):qiM a0_k a1_s a2_b (fun o0=>o0=(addL a0_k.1 a1_s a2_b,a0_k.2)):=by
 unfold qiM
 refine ⟨fun i=> ∃j:Nat,i=(j:Int)∧j≤a0_k.1.length∧(a1_s,a2_b)∉a0_k.1.take j,fun i=>a0_k.1.length - i.toNat,⟨0,rfl,Nat.zero_le _,by simp⟩,?_⟩
 rintro _ ⟨j,rfl,hj,hn⟩ _
 have next: ∀h:(j:Int)<(a0_k.1.length:Int),¬ix a0_k.1 (j:Int)=(a1_s,a2_b)→(j:Int)<9223372036854775807∧(∃m:Nat,(j:Int)+1=(m:Int)∧m≤a0_k.1.length∧(a1_s,a2_b)∉a0_k.1.take m)∧a0_k.1.length - ((j:Int)+1).toNat<a0_k.1.length - (j:Int).toNat:=fun h hne=>by
  have hj':j<a0_k.1.length:=by omega
  refine ⟨by omega,⟨j+1,rfl,by omega,fun hm=>?_⟩,by omega⟩
  rw [List.take_add_one,List.getElem?_eq_getElem hj',Option.toList_some,List.mem_append,List.mem_singleton] at hm
  rcases hm with hm | hm
  ·exact hn hm
  ·exact hne ((ixN hj').trans hm.symm)
 refine ⟨fun hlt=>⟨⟨by omega,hlt⟩,fun h1=>⟨⟨by omega,hlt⟩,fun h2=>?_,fun h2=>next hlt fun e=>h2 (by rw [e])⟩,fun h1=>next hlt fun e=>h1 (by rw [e])⟩,fun hge=>?_⟩
 ·have hj':j<a0_k.1.length:=by omega
  have hin:(a1_s,a2_b)∈a0_k.1:=by
   rw [←h1,←h2,ixN hj']
   exact List.getElem_mem hj'
  show a0_k=(addL a0_k.1 a1_s a2_b,a0_k.2)
  rw [addL,if_pos hin]
 ·obtain rfl:j=a0_k.1.length:=by omega
  rw [List.take_length] at hn
  have e:a0_k.1++ [(a1_s,a2_b)]=addL a0_k.1 a1_s a2_b:=by rw [addL,if_neg hn]
  obtain ⟨hp1,hp2⟩:=hp
  have h1:a0_k.1.length *48≤140737488355328:=by omega
  have h2:(a0_k.1.length+1) *48≤140737488355328:=by omega
  simp only [List.nil_append,List.length_nil,List.length_cons,Nat.zero_add,e,h1,h2,and_self]
theorem qqG:(∀a,qfj.pre a→PM.wfP qfj.pm a (fvc qpL 200 101 qfj a (eqO qfj a)))=(∀a:((List ((List UInt8)×List UInt8))×Int)×(List UInt8)×(List UInt8)×Unit,(((a.1).1.length+1) *64≤140737488355328∧(a.2.2.1).length≤140737488355328)→(Ty.kd (.pr (.sl (.pr (.arr 32 .byte) .str)) (.int .i64))).wf a.1→(Ty.kd (.arr 32 .byte)).wf a.2.1→(Ty.kd (.sl .byte)).wf a.2.2.1→qiM a.1 a.2.1 a.2.2.1 (fun o0=>o0=(addL (a.1).1 (a.2.1) (a.2.2.1),(a.1).2))):=by kernel_rfl
theorem qpM:qfj.valid Try.prog 101:=qaC (X:=qpL) (qaZ qau (fun b hb=>by cases hb;exact qaA) qaD trivial) 200 (qqG.mpr fun a hp w_0 w_1 w_2=> @qqH a.1 a.2.1 a.2.2.1 w_0 w_1 w_2 hp)
noncomputable def qgc:Ctr:=⟨[.bx (.pr (.sl (.pr (.arr 32 .byte) .str)) (.int .i64)) true,.v (.int .i64),.v (.sl (.sl .byte))],[.v (.arr 32 .byte)],some (fun a=>(fun (a0_k:(List ((List UInt8)×List UInt8))×Int) (a1_kind:Int) (a2_parts:List (List UInt8))=>(1+qah a2_parts≤70368744177664∧(a0_k.1.length+1) *64≤140737488355328:Prop)) a.1 a.2.1 a.2.2.1),fun a=>(fun (a0_k:(List ((List UInt8)×List UInt8))×Int) (a1_kind:Int) (a2_parts:List (List UInt8))=>(((qaj a1_kind a2_parts),()),((addL a0_k.1 (qaj a1_kind a2_parts) (preimage a1_kind a2_parts),IntKind.i64.wrap (a0_k.2+1)),()))) a.1 a.2.1 a.2.2.1⟩
noncomputable def qpO:Fx:=⟨seat,some bkT,fns,[(68,qkT),(103,qba),(101,qfj)],[],[],[(2,[0],[.o 0 2,.o 1 2,.o 2 2,.o 3 2,.o 4 0,.o 5 1])]⟩
def qiO (a0_k:(List ((List UInt8)×List UInt8))×Int) (a1_kind:Int) (a2_parts:List (List UInt8)) (Q:(List UInt8)→((List ((List UInt8)×List UInt8))×Int)→Prop):Prop:=
 (1:Nat)+qah a2_parts≤(70368744177664:Nat)∧((Ty.arr (32:Nat) Ty.byte).kd.wf (qaj a1_kind a2_parts)→(1:Nat)+qah a2_parts≤(140737488355328:Nat)∧(Ty.byte.kd.sl.wf (preimage a1_kind a2_parts)→((a0_k.fst.length+(1:Nat)) *(64:Nat)≤(140737488355328:Nat)∧(preimage a1_kind a2_parts).length≤(140737488355328:Nat))∧Q (qaj a1_kind a2_parts) (addL a0_k.fst (qaj a1_kind a2_parts) (preimage a1_kind a2_parts),IntKind.i64.wrap (a0_k.snd+(1:Int)))))
theorem qqL {a0_k:(List ((List UInt8)×List UInt8))×Int} {a1_kind:Int} {a2_parts:List (List UInt8)} (w_0:(Ty.kd (.pr (.sl (.pr (.arr 32 .byte) .str)) (.int .i64))).wf a0_k) (w_1:(Ty.kd (.int .i64)).wf a1_kind) (w_2:(Ty.kd (.sl (.sl .byte))).wf a2_parts) (hp:1+qah a2_parts≤70368744177664∧(a0_k.1.length+1) *64≤140737488355328):qiO a0_k a1_kind a2_parts (fun o0 o1=>o0=(qaj a1_kind a2_parts)∧o1=(addL a0_k.1 (qaj a1_kind a2_parts) (preimage a1_kind a2_parts),IntKind.i64.wrap (a0_k.2+1))):=by
 unfold qiO
 have h:=hp.1
 refine ⟨by omega,fun _=>⟨by omega,fun _=>⟨⟨hp.2,?_⟩,rfl,rfl⟩⟩⟩
 have:=qbu a1_kind (l:=a2_parts) (by omega)
 omega
theorem qqK:(∀a,qgc.pre a→PM.wfP qgc.pm a (fvc qpO 200 102 qgc a (eqO qgc a)))=(∀a:((List ((List UInt8)×List UInt8))×Int)×Int×(List (List UInt8))×Unit,(1+qah (a.2.2.1)≤70368744177664∧((a.1).1.length+1) *64≤140737488355328)→(Ty.kd (.pr (.sl (.pr (.arr 32 .byte) .str)) (.int .i64))).wf a.1→(Ty.kd (.int .i64)).wf a.2.1→(Ty.kd (.sl (.sl .byte))).wf a.2.2.1→qiO a.1 a.2.1 a.2.2.1 (fun o0 o1=>o0=(qaj (a.2.1) (a.2.2.1))∧o1=(addL (a.1).1 (qaj (a.2.1) (a.2.2.1)) (preimage (a.2.1) (a.2.2.1)),IntKind.i64.wrap ((a.1).2+1)))):=by kernel_rfl
theorem qsd:qgc.valid Try.prog 102:=qaC (X:=qpO) (qaZ qau (fun b hb=>by cases hb;exact qaA) qaD ⟨qtG,qdB,qpM,trivial⟩) 200 (qqK.mpr fun a hp w_0 w_1 w_2=> @qqL a.1 a.2.1 a.2.2.1 w_0 w_1 w_2 hp)
def qnI:List UInt8:=[]
noncomputable def qcA:Ctr:=⟨[.bx (.pr (.sl (.pr (.arr 32 .byte) .str)) (.int .i64)) false,.v (.arr 32 .byte)],[.v .str,.v .bool],none,fun a=>(fun (a0_k:(List ((List UInt8)×List UInt8))×Int) (a1_s:List UInt8)=>(((qbL a0_k.1 a1_s),(qao a1_s a0_k.1 0).isSome,()),(()))) a.1 a.2.1⟩
noncomputable def qjN:Fx:=⟨seat,some bkT,fns,[],[],[],[(4,[],[.o 0 2,.o 1 2,.o 2 2,.o 3 2,.o 4 2,.o 5 2,.o 6 2,.o 7 2,.o 8 2,.o 9 2])]⟩
def qfk (a0_k:(List ((List UInt8)×List UInt8))×Int) (a1_s:List UInt8) (Q:(List UInt8)→Bool→Prop):Prop:=
 ∃(x0:List UInt8→Bool→Int→Prop),∃(x1:List UInt8→Bool→Int→Nat),x0 qnI false (0:Int)∧∀(x2:List UInt8) (x3:Bool) (x4:Int),x0 x2 x3 x4→x2.length≤LM→(Kd.int IntKind.i64).wf x4→(x4<(a0_k.fst.length:Int)→((0:Int)≤x4∧x4<(a0_k.fst.length:Int))∧((ix a0_k.fst x4).fst=a1_s→((0:Int)≤x4∧x4<(a0_k.fst.length:Int))∧Q (ix a0_k.fst x4).snd true)∧(¬(ix a0_k.fst x4).fst=a1_s→x4<(9223372036854775807:Int)∧x0 x2 x3 (x4+(1:Int))∧x1 x2 x3 (x4+(1:Int))<x1 x2 x3 x4))∧(¬x4<(a0_k.fst.length:Int)→Q qnI false)
theorem qlW {a0_k:(List ((List UInt8)×List UInt8))×Int} {a1_s:List UInt8} (w_0:(Ty.kd (.pr (.sl (.pr (.arr 32 .byte) .str)) (.int .i64))).wf a0_k) (w_1:(Ty.kd (.arr 32 .byte)).wf a1_s):qfk a0_k a1_s (fun o0 o1=>o0=(qbL a0_k.1 a1_s)∧o1=(qao a1_s a0_k.1 0).isSome):=by
 unfold qfk
 refine ⟨fun _ _ i=> ∃j:Nat,i=(j:Int)∧j≤a0_k.1.length∧qao a1_s (a0_k.1.drop j) (j:Int)=qao a1_s a0_k.1 0,fun _ _ i=>a0_k.1.length - i.toNat,⟨0,rfl,Nat.zero_le _,rfl⟩,?_⟩
 have hL:a0_k.1.length≤LM:=w_0.1.1
 unfold LM at hL
 have dec: ∀j:Nat,(j:Int)<(a0_k.1.length:Int)→a0_k.1.length - ((j:Int)+1).toNat<a0_k.1.length - (j:Int).toNat:=fun j h=>by omega
 rintro _ _ _ ⟨j,rfl,hj,hf⟩ _ _
 refine ⟨fun hlt=>?_,fun hge=>?_⟩
 ·have hj':j<a0_k.1.length:=by omega
  rw [List.drop_eq_getElem_cons hj',qao] at hf
  rw [ixN hj']
  refine ⟨⟨by omega,hlt⟩,fun h=>⟨⟨by omega,hlt⟩,?_⟩,fun h=>⟨by omega,⟨j+1,rfl,by omega,?_⟩,dec j hlt⟩⟩
  ·rw [if_pos h.symm] at hf
   unfold qbL
   rw [←hf]
   exact ⟨congrArg Prod.snd (ixN hj').symm,rfl⟩
  ·rw [if_neg fun e=>h e.symm] at hf
   exact hf
 ·obtain rfl:j=a0_k.1.length:=by omega
  rw [List.drop_length] at hf
  unfold qbL
  rw [←hf]
  exact ⟨rfl,rfl⟩
theorem qlV:(∀a,qcA.pre a→PM.wfP qcA.pm a (fvc qjN 200 53 qcA a (eqO qcA a)))=(∀a:((List ((List UInt8)×List UInt8))×Int)×(List UInt8)×Unit,True→(Ty.kd (.pr (.sl (.pr (.arr 32 .byte) .str)) (.int .i64))).wf a.1→(Ty.kd (.arr 32 .byte)).wf a.2.1→qfk a.1 a.2.1 (fun o0 o1=>o0=(qbL (a.1).1 (a.2.1))∧o1=(qao (a.2.1) (a.1).1 0).isSome)):=by kernel_rfl
theorem qjO:qcA.valid Try.prog 53:=qaC (X:=qjN) (qaZ qau (fun b hb=>by cases hb;exact qaA) qaD trivial) 200 (qlV.mpr fun a hp w_0 w_1=> @qlW a.1 a.2.1 w_0 w_1)
end Go.Proofs.Ytmjjkpiglbpkhaa

set_option linter.unusedVariables false
set_option maxRecDepth 100000
set_option maxHeartbeats 20000000
namespace Go.Proofs.Ytmjjkpiglbpkhaa
open Go Go.RowKit Go.Inc
noncomputable def qek:Ctr:=⟨[.bk 146 true,.bx (.pr (.sl (.pr (.arr 32 .byte) .str)) (.int .i64)) true,.v (.pr (.int .i64) (.pr (.int .i64) (.pr (.sl (.sl .byte)) (.pr (.arr 32 .byte) (.sl .byte)))))],[.v .bool],some (fun a=>(fun (a0_k:qaw) (a1_r:(List ((List UInt8)×List UInt8))×Int) (a2_x:Int×Int×(List (List UInt8))×(List UInt8)×List UInt8)=>(a0_k=some a1_r∧1+qah a2_x.2.2.1≤1048576∧a2_x.2.2.2.2.length≤1048576∧(a1_r.1.length+1) *64≤140737488355328:Prop)) a.1 a.2.1 a.2.2.1),fun a=>(fun (a0_k:qaw) (a1_r:(List ((List UInt8)×List UInt8))×Int) (a2_x:Int×Int×(List (List UInt8))×(List UInt8)×List UInt8)=>((true,()),((some (actB a2_x a1_r)),(actB a2_x a1_r),()))) a.1 a.2.1 a.2.2.1⟩
noncomputable def qmH:Fx:=⟨{ seat with rws:=[5,1000005,2000032,9000048] },some bkT,fns,[(56,qiI),(56,qlS),(101,qfj),(67,Of_C),(67,qsa),(98,qbB),(102,qgc),(103,qba)],[],[(15,[4],[])],[(17,[],[.o 0 2,.o 1 2,.o 2 2,.o 3 2,.o 4 2,.o 5 2,.o 6 2,.o 7 2,.o 8 2,.o 9 2,.o 10 2,.o 11 2]),(20,[1],[.o 0 3,.o 1 2,.o 2 2,.o 3 2,.o 4 2,.o 5 2,.o 6 1,.o 7 3,.o 8 3,.o 9 3,.o 10 3,.o 11 3,.o 12 3,.o 13 3,.o 14 3,.o 15 1,.o 16 3,.o 17 3,.o 18 3,.o 19 3])]⟩
def qg7 (a0_k:qaw) (a1_r:(List ((List UInt8)×List UInt8))×Int) (a2_x:Int×Int×(List (List UInt8))×(List UInt8)×List UInt8) (Q:Bool→qaw→((List ((List UInt8)×List UInt8))×Int)→Prop):Prop:=
 (band IntKind.i64 a2_x.fst (1:Int)=(1:Int)→(([]:List UInt8).length+a2_x.snd.snd.snd.snd.length) *(1:Nat)≤(140737488355328:Nat)∧((([]:List UInt8)++a2_x.snd.snd.snd.snd).length≤(140737488355328:Nat)∧qaV a0_k)∧((a1_r.fst.length+(1:Nat)) *(64:Nat)≤(140737488355328:Nat)∧a2_x.snd.snd.snd.snd.length≤(140737488355328:Nat))∧Q true (qam a0_k a2_x.snd.snd.snd.fst (([]:List UInt8)++a2_x.snd.snd.snd.snd)) (addL a1_r.fst a2_x.snd.snd.snd.fst a2_x.snd.snd.snd.snd,a1_r.snd))∧(¬band IntKind.i64 a2_x.fst (1:Int)=(1:Int)→∃(x0:List (List UInt8)→Int→Prop),∃(x1:List (List UInt8)→Int→Nat),x0 ([]:List (List UInt8)) (0:Int)∧∀(x2:List (List UInt8)) (x3:Int),x0 x2 x3→Ty.byte.sl.kd.sl.wf x2→(Kd.int IntKind.i64).wf x3→(x3<(a2_x.snd.snd.fst.length:Int)→((0:Int)≤x3∧x3<(a2_x.snd.snd.fst.length:Int))∧(([]:List UInt8).length+(ix a2_x.snd.snd.fst x3).length) *(1:Nat)≤(140737488355328:Nat)∧(x2.length+((([]:List UInt8)++ix a2_x.snd.snd.fst x3)::([]:List (List UInt8))).length) *(24:Nat)≤(140737488355328:Nat)∧x3<(9223372036854775807:Int)∧x0 (x2++(([]:List UInt8)++ix a2_x.snd.snd.fst x3)::([]:List (List UInt8))) (x3+(1:Int))∧x1 (x2++(([]:List UInt8)++ix a2_x.snd.snd.fst x3)::([]:List (List UInt8))) (x3+(1:Int))<x1 x2 x3)∧(¬x3<(a2_x.snd.snd.fst.length:Int)→((1:Nat)+qah x2≤(140737488355328:Nat)∧qaV a0_k)∧((Ty.arr (32:Nat) Ty.byte).kd.wf (qaj a2_x.snd.fst x2)→(1:Nat)+qah x2≤(140737488355328:Nat)∧(Ty.byte.kd.sl.wf (preimage a2_x.snd.fst x2)→∃(x10:Bool→Int→List (List UInt8)→Prop),∃(x11:Bool→Int→List (List UInt8)→Nat),x10 false (0:Int) x2∧∀(x12:Bool) (x13:Int) (x14:List (List UInt8)),x10 x12 x13 x14→(Kd.int IntKind.i64).wf x13→Ty.byte.sl.kd.sl.wf x14→(x13<(x14.length:Int)→((0:Int)≤x13∧x13<(x14.length:Int))∧((0:Int)≤x13∧x13<(a2_x.snd.snd.fst.length:Int))∧(ix x14 x13≠ix a2_x.snd.snd.fst x13→Q false (qaH a0_k a2_x.snd.fst x2) a1_r)∧(¬ix x14 x13≠ix a2_x.snd.snd.fst x13→((0:Int)≤x13∧x13<(x14.length:Int))∧x13<(9223372036854775807:Int)∧x10 x12 (x13+(1:Int)) (x14.set x13.toNat (List.replicate (ix x14 x13).length Ty.byte.kd.z))∧x11 x12 (x13+(1:Int)) (x14.set x13.toNat (List.replicate (ix x14 x13).length Ty.byte.kd.z))<x11 x12 x13 x14))∧(¬x13<(x14.length:Int)→((1:Nat)+qah a2_x.snd.snd.fst≤(70368744177664:Nat)∧(a1_r.fst.length+(1:Nat)) *(64:Nat)≤(140737488355328:Nat))∧((Ty.arr (32:Nat) Ty.byte).kd.wf (qaj a2_x.snd.fst a2_x.snd.snd.fst)→(qaj a2_x.snd.fst x2=qaj a2_x.snd.fst a2_x.snd.snd.fst→(1:Nat)+qah a2_x.snd.snd.fst≤(140737488355328:Nat)∧(Ty.byte.kd.sl.wf (preimage a2_x.snd.fst a2_x.snd.snd.fst)→Q (decide (preimage a2_x.snd.fst x2=preimage a2_x.snd.fst a2_x.snd.snd.fst)) (qaH a0_k a2_x.snd.fst x2) (addL a1_r.fst (qaj a2_x.snd.fst a2_x.snd.snd.fst) (preimage a2_x.snd.fst a2_x.snd.snd.fst),IntKind.i64.wrap (a1_r.snd+(1:Int)))))∧(¬qaj a2_x.snd.fst x2=qaj a2_x.snd.fst a2_x.snd.snd.fst→Q false (qaH a0_k a2_x.snd.fst x2) (addL a1_r.fst (qaj a2_x.snd.fst a2_x.snd.snd.fst) (preimage a2_x.snd.fst a2_x.snd.snd.fst),IntKind.i64.wrap (a1_r.snd+(1:Int))))))))))
theorem qoQ {a0_k:qaw} {a1_r:(List ((List UInt8)×List UInt8))×Int} {a2_x:Int×Int×(List (List UInt8))×(List UInt8)×List UInt8} (w_0:(Ty.kd (.pr (.sl (.pr (.arr 32 .byte) .str)) (.int .i64))).wf a1_r) (w_1:(Ty.kd (.pr (.int .i64) (.pr (.int .i64) (.pr (.sl (.sl .byte)) (.pr (.arr 32 .byte) (.sl .byte)))))).wf a2_x) (hp:a0_k=some a1_r∧1+qah a2_x.2.2.1≤1048576∧a2_x.2.2.2.2.length≤1048576∧(a1_r.1.length+1) *64≤140737488355328):qg7 a0_k a1_r a2_x (fun o0 o1 o2=>o0=true∧o1=(some (actB a2_x a1_r))∧o2=(actB a2_x a1_r)):=by
 obtain ⟨rfl,h1,h2,h3⟩:=hp
 have hr:qaV (some a1_r):=fun y hy=>by cases hy;exact h3
 unfold qg7
 simp only [List.nil_append]
 refine ⟨fun hb=>⟨?_,⟨by omega,hr⟩,⟨h3,by omega⟩,trivial,?_,?_⟩,fun hb=>?_⟩
 ·simp only [List.length_nil]
  omega
 ·show some (addL _ _ _,_)=_
  rw [actB,if_pos hb]
 ·rw [actB,if_pos hb]
 have ea:actB a2_x a1_r=(addL a1_r.1 (qaj a2_x.2.1 a2_x.2.2.1) (preimage a2_x.2.1 a2_x.2.2.1),IntKind.i64.wrap (a1_r.2+1)):=by rw [actB,if_neg hb]
 generalize hP:a2_x.2.2.1=P at *
 have hlen: ∀n:Nat,n<P.length→(ix P (n:Int)).length≤1048576:=fun n hn=>by
  have:=qkl (List.getElem_mem hn)
  rw [ixN hn]
  omega
 have hPl:P.length≤LM:=by
  have:=w_1.2.2.1.1
  rw [hP] at this
  exact this
 unfold LM at hPl
 refine ⟨fun o i=> ∃j:Nat,i=(j:Int)∧j≤P.length∧o=P.take j,fun _ i=>P.length - i.toNat,⟨0,rfl,Nat.zero_le _,rfl⟩,?_⟩
 have dec: ∀j:Nat,(j:Int)<(P.length:Int)→P.length - ((j:Int)+1).toNat<P.length - (j:Int).toNat:=fun j h=>by omega
 have hcnt:P.length≤qah P:=by
  have: ∀l:List (List UInt8),l.length≤qah l:=fun l=>by
   induction l with
   | nil=>exact Nat.zero_le _
   | cons a l ih=>simp only [qah,List.map_cons,List.sum_cons,List.length_cons] at*;omega
  exact this P
 rintro _ _ ⟨j,rfl,hj,rfl⟩ _ _
 refine ⟨fun hlt=>?_,fun hge=>?_⟩
 ·have hj':j<P.length:=by omega
  have:=hlen j hj'
  refine ⟨⟨by omega,hlt⟩,?_,?_,by omega,⟨j+1,rfl,by omega,?_⟩,dec j hlt⟩
  ·simp only [List.length_nil]
   omega
  ·simp only [List.length_take,List.length_cons,List.length_nil]
   omega
  ·rw [ixN hj',List.take_add_one,List.getElem?_eq_getElem hj']
   rfl
 ·obtain rfl:j=P.length:=by omega
  rw [List.take_length]
  refine ⟨⟨by omega,hr⟩,fun _=>⟨by omega,fun _=>?_⟩⟩
  refine ⟨fun _ i o=> ∃m:Nat,i=(m:Int)∧m≤P.length∧o.length=P.length∧∀n:Nat,m≤n→n<P.length→ix o (n:Int)=ix P (n:Int),fun _ i _=>P.length - i.toNat,⟨0,rfl,Nat.zero_le _,rfl,fun _ _ _=>rfl⟩,?_⟩
  rintro _ _ o ⟨m,rfl,hm,hol,ho⟩ _ _
  refine ⟨fun hlt=>⟨⟨by omega,hlt⟩,⟨by omega,by omega⟩,fun hne=>absurd (ho m (Nat.le_refl _) (by omega)) hne,fun _=>⟨⟨by omega,hlt⟩,by omega,⟨m+1,rfl,by omega,by rw [List.length_set];exact hol,fun n hn hn2=>?_⟩,dec m (by omega)⟩⟩,fun hge=>⟨⟨by omega,h3⟩,fun _=>⟨fun _=>⟨by omega,fun _=>⟨decide_eq_true rfl,?_,ea.symm⟩⟩,fun h=>absurd rfl h⟩⟩⟩
  ·rw [ixN (by rw [List.length_set];omega),List.getElem_set_ne (by omega),←ho n (by omega) hn2]
   exact (ixN _).symm
  ·rw [ea]
   rfl
theorem qoP:(∀a,qek.pre a→PM.wfP qek.pm a (fvc qmH 200 51 qek a (eqO qek a)))=(∀a:qaw×((List ((List UInt8)×List UInt8))×Int)×(Int×Int×(List (List UInt8))×(List UInt8)×List UInt8)×Unit,((a.1)=some (a.2.1)∧1+qah (a.2.2.1).2.2.1≤1048576∧(a.2.2.1).2.2.2.2.length≤1048576∧((a.2.1).1.length+1) *64≤140737488355328)→(Ty.kd (.pr (.sl (.pr (.arr 32 .byte) .str)) (.int .i64))).wf a.2.1→(Ty.kd (.pr (.int .i64) (.pr (.int .i64) (.pr (.sl (.sl .byte)) (.pr (.arr 32 .byte) (.sl .byte)))))).wf a.2.2.1→qg7 a.1 a.2.1 a.2.2.1 (fun o0 o1 o2=>o0=true∧o1=(some (actB (a.2.2.1) (a.2.1)))∧o2=(actB (a.2.2.1) (a.2.1)))):=by kernel_rfl
theorem qq1:qek.valid Try.prog 51:=qaC (X:=qmH) (qaZ (qau.rows [5,1000005,2000032,9000048]) (fun b hb=>by cases hb;exact qaA) qaD ⟨qlR,qqE,qpM,Of_k,qtE,qef,qsd,qdB,trivial⟩) 200 (qoP.mpr fun a hp w_0 w_1=> @qoQ a.1 a.2.1 a.2.2.1 w_0 w_1 hp)
noncomputable def qcw:Ctr:=⟨[.bk 146 false,.bx (.pr (.sl (.pr (.arr 32 .byte) .str)) (.int .i64)) false],[.v .bool],some (fun a=>(fun (a0_k:qaw) (a1_r:(List ((List UInt8)×List UInt8))×Int)=>(a0_k=some a1_r∧qaP a0_k:Prop)) a.1 a.2.1),fun a=>(fun (a0_k:qaw) (a1_r:(List ((List UInt8)×List UInt8))×Int)=>((true,()),(()))) a.1 a.2.1⟩
noncomputable def qio:Fx:=⟨seat,some bkT,fns,[(100,qf6),(99,qgI),(52,qiC),(53,qcA)],[],[(5,[2],[])],[(2,[],[.o 0 2,.o 1 2,.o 2 2,.o 3 2,.o 4 2,.o 5 2,.o 6 2,.o 7 2,.o 8 2,.o 9 2,.o 11 2,.o 12 2,.o 13 2,.o 14 2,.o 10 0,.o 15 2,.o 16 2]),(9,[],[.o 0 2,.o 1 2,.o 2 2,.o 3 2,.o 4 2,.o 5 2,.o 6 2,.o 7 2,.o 8 2,.o 9 2,.o 10 2,.o 11 2,.o 12 2,.o 13 2,.o 14 2,.o 15 2,.o 16 2,.o 17 2,.o 18 2,.o 19 2,.o 20 2,.o 21 2,.o 22 2,.o 23 2,.o 24 2])]⟩
def qew (a0_k:qaw) (a1_r:(List ((List UInt8)×List UInt8))×Int) (Q:Bool→Prop):Prop:=
 qm1 (Option.map (fun (x0:List Nt×Int)=>((x0.fst,()),x0.snd)) a0_k)∧(Ty.byte.sl.kd.sl.wf (allF (Option.map (fun (x0:List Nt×Int)=>((x0.fst,()),x0.snd)) a0_k))→(((allF (Option.map (fun (x0:List Nt×Int)=>((x0.fst,()),x0.snd)) a0_k)).length:Int)≠(a1_r.fst.length:Int)→Q false)∧(¬((allF (Option.map (fun (x0:List Nt×Int)=>((x0.fst,()),x0.snd)) a0_k)).length:Int)≠(a1_r.fst.length:Int)→(Ty.int IntKind.i64).kd.wf (qbo a0_k)→(qbo a0_k≠a1_r.snd→Q false)∧(¬qbo a0_k≠a1_r.snd→∃(x0:Bool→Int→List (List UInt8)→Prop),∃(x1:Bool→Int→List (List UInt8)→Nat),x0 false (0:Int) (allF (Option.map (fun (x2:List Nt×Int)=>((x2.fst,()),x2.snd)) a0_k))∧∀(x2:Bool) (x3:Int) (x4:List (List UInt8)),x0 x2 x3 x4→(Kd.int IntKind.i64).wf x3→Ty.byte.sl.kd.sl.wf x4→(x3<(x4.length:Int)→((0:Int)≤x3∧x3<(a1_r.fst.length:Int))∧qaP a0_k∧(Ty.byte.kd.sl.wf (qa8 a0_k (ix a1_r.fst x3).fst)→((0:Int)≤x3∧x3<(a1_r.fst.length:Int))∧(Ty.str.kd.wf (qbL a1_r.fst (ix a1_r.fst x3).fst)→((0:Int)≤x3∧x3<(x4.length:Int))∧((0:Int)≤x3∧x3<(a1_r.fst.length:Int))∧(ix x4 x3≠(ix a1_r.fst x3).snd→Q false)∧(¬ix x4 x3≠(ix a1_r.fst x3).snd→(qa8 a0_k (ix a1_r.fst x3).fst≠qbL a1_r.fst (ix a1_r.fst x3).fst→Q false)∧(¬qa8 a0_k (ix a1_r.fst x3).fst≠qbL a1_r.fst (ix a1_r.fst x3).fst→(qbZ a0_k (ix a1_r.fst x3).fst≠(qao (ix a1_r.fst x3).fst a1_r.fst (0:Int)).isSome→Q false)∧(¬qbZ a0_k (ix a1_r.fst x3).fst≠(qao (ix a1_r.fst x3).fst a1_r.fst (0:Int)).isSome→((0:Int)≤x3∧x3<(x4.length:Int))∧x3<(9223372036854775807:Int)∧x0 x2 (x3+(1:Int)) (x4.set x3.toNat (List.replicate (ix x4 x3).length Ty.byte.kd.z))∧x1 x2 (x3+(1:Int)) (x4.set x3.toNat (List.replicate (ix x4 x3).length Ty.byte.kd.z))<x1 x2 x3 x4))))))∧(¬x3<(x4.length:Int)→Q true))))
theorem qli {a0_k:qaw} {a1_r:(List ((List UInt8)×List UInt8))×Int} (w_0:(Ty.kd (.pr (.sl (.pr (.arr 32 .byte) .str)) (.int .i64))).wf a1_r) (hp:a0_k=some a1_r∧qaP a0_k):qew a0_k a1_r (fun o0=>o0=true):=by
 obtain ⟨rfl,hf⟩:=hp
 have e:allF (Option.map (fun x:List Nt×Int=>((x.1,()),x.2)) (some a1_r))=a1_r.1.map Prod.snd:=rfl
 unfold qew
 refine ⟨qm2 hf,?_⟩
 rw [e]
 refine fun _=>⟨fun h=>absurd (by rw [List.length_map]) h,fun _ _=>⟨fun h=>absurd rfl h,fun _=>?_⟩⟩
 refine ⟨fun _ i o=> ∃m:Nat,i=(m:Int)∧m≤a1_r.1.length∧o.length=a1_r.1.length∧∀n:Nat,m≤n→n<a1_r.1.length→ix o (n:Int)=(ix a1_r.1 (n:Int)).2,fun _ i _=>a1_r.1.length - i.toNat,⟨0,rfl,Nat.zero_le _,List.length_map _,fun n _ hn=>?_⟩,?_⟩
 ·rw [ixN (by rw [List.length_map];exact hn),ixN hn,List.getElem_map]
 have hL:a1_r.1.length≤LM:=w_0.1.1
 unfold LM at hL
 have dec: ∀j:Nat,j<a1_r.1.length→a1_r.1.length - ((j:Int)+1).toNat<a1_r.1.length - (j:Int).toNat:=fun j h=>by omega
 rintro _ _ o ⟨m,rfl,hm,hol,ho⟩ _ _
 refine ⟨fun hlt=>⟨⟨by omega,by omega⟩,hf,fun _=>⟨⟨by omega,by omega⟩,fun _=>⟨⟨by omega,hlt⟩,⟨by omega,by omega⟩,fun h=>absurd (ho m (Nat.le_refl _) (by omega)) h,fun _=>⟨fun h=>absurd rfl h,fun _=>⟨fun h=>absurd rfl h,fun _=>⟨⟨by omega,hlt⟩,by omega,⟨m+1,rfl,by omega,by rw [List.length_set];exact hol,fun n hn hn2=>?_⟩,dec m (by omega)⟩⟩⟩⟩⟩⟩,fun _=>rfl⟩
 rw [ixN (by rw [List.length_set];omega),List.getElem_set_ne (by omega),←ho n (by omega) hn2]
 exact (ixN _).symm
theorem qlh:(∀a,qcw.pre a→PM.wfP qcw.pm a (fvc qio 200 54 qcw a (eqO qcw a)))=(∀a:qaw×((List ((List UInt8)×List UInt8))×Int)×Unit,((a.1)=some (a.2.1)∧qaP (a.1))→(Ty.kd (.pr (.sl (.pr (.arr 32 .byte) .str)) (.int .i64))).wf a.2.1→qew a.1 a.2.1 (fun o0=>o0=true)):=by kernel_rfl
theorem qnH:qcw.valid Try.prog 54:=qaC (X:=qio) (qaZ qau (fun b hb=>by cases hb;exact qaA) qaD ⟨qrR,qjD,qlG,qjO,trivial⟩) 200 (qlh.mpr fun a hp w_0=> @qli a.1 a.2.1 w_0 hp)
noncomputable def qbW:Ctr:=⟨[.v (.sl (.pr (.int .i64) (.pr (.int .i64) (.pr (.sl (.sl .byte)) (.pr (.arr 32 .byte) (.sl .byte)))))),.v (.arr 32 .byte)],[.v .bool],none,fun a=>(fun (a0_l:List (Int×Int×(List (List UInt8))×(List UInt8)×List UInt8)) (a1_s:List UInt8)=>((true,()),(()))) a.1 a.2.1⟩
noncomputable def qfn:Fx:=⟨seat,some bkT,fns,[(49,qes),(50,qdc),(51,qek),(52,qiC),(53,qcA),(54,qcw)],[],[(5,[1,2],[])],[]⟩
def qcS (a0_l:List (Int×Int×(List (List UInt8))×(List UInt8)×List UInt8)) (a1_s:List UInt8) (Q:Bool→Prop):Prop:=
 ((decide ¬light a0_l)=true→Q true)∧((decide ¬light a0_l)=false→∃(x0:Bool→Int→qaw→List (List UInt8×List UInt8)×Int→Prop),∃(x1:Bool→Int→qaw→List (List UInt8×List UInt8)×Int→Nat),x0 false (0:Int) (some (([]:List Nt),(0:Int))) (((Ty.arr (32:Nat) Ty.byte).pr Ty.str).sl.pr (Ty.int IntKind.i64)).kd.z∧∀(x2:Bool) (x3:Int) (x4:qaw) (x5:List (List UInt8×List UInt8)×Int),x0 x2 x3 x4 x5→(Kd.int IntKind.i64).wf x3→(((Ty.arr (32:Nat) Ty.byte).pr Ty.str).sl.pr (Ty.int IntKind.i64)).kd.wf x5→(x3<(a0_l.length:Int)→((0:Int)≤x3∧x3<(a0_l.length:Int))∧(x4=some x5∧(1:Nat)+qah (ix a0_l x3).snd.snd.fst≤(1048576:Nat)∧(ix a0_l x3).snd.snd.snd.snd.length≤(1048576:Nat)∧(x5.fst.length+(1:Nat)) *(64:Nat)≤(140737488355328:Nat))∧(¬true=true→Q false)∧(true=true→x3<(9223372036854775807:Int)∧x0 x2 (x3+(1:Int)) (some (actB (ix a0_l x3) x5)) (actB (ix a0_l x3) x5)∧x1 x2 (x3+(1:Int)) (some (actB (ix a0_l x3) x5)) (actB (ix a0_l x3) x5)<x1 x2 x3 x4 x5))∧(¬x3<(a0_l.length:Int)→qaP x4∧(Ty.byte.kd.sl.wf (qa8 x4 a1_s)→Ty.str.kd.wf (qbL x5.fst a1_s)→(qa8 x4 a1_s=qbL x5.fst a1_s→(qbZ x4 a1_s=(qao a1_s x5.fst (0:Int)).isSome→(x4=some x5∧qaP x4)∧(true=true→(x4=some x5∧qaP x4)∧(true=true→Q true)∧(true=false→Q false))∧(true=false→Q false))∧(¬qbZ x4 a1_s=(qao a1_s x5.fst (0:Int)).isSome→Q false))∧(¬qa8 x4 a1_s=qbL x5.fst a1_s→Q false))))
theorem qhO {a0_l:List (Int×Int×(List (List UInt8))×(List UInt8)×List UInt8)} {a1_s:List UInt8} (w_0:(Ty.kd (.sl (.pr (.int .i64) (.pr (.int .i64) (.pr (.sl (.sl .byte)) (.pr (.arr 32 .byte) (.sl .byte))))))).wf a0_l) (w_1:(Ty.kd (.arr 32 .byte)).wf a1_s):qcS a0_l a1_s (fun o0=>o0=true):=by
 unfold qcS
 refine ⟨fun _=>rfl,fun hl=>?_⟩
 have hl:light a0_l:=Decidable.not_not.1 (of_decide_eq_false hl)
 refine ⟨fun _ i x y=>x=some y∧∃j:Nat,i=(j:Int)∧j≤a0_l.length∧y.1.length≤j∧∀z∈y.1,z.2.length≤1048576,fun _ i _ _=>a0_l.length - i.toNat,⟨rfl,0,rfl,Nat.zero_le _,Nat.le_refl _,fun z hz=>by cases hz⟩,?_⟩
 have dec: ∀j:Nat,j<a0_l.length→a0_l.length - ((j:Int)+1).toNat<a0_l.length - (j:Int).toNat:=fun j h=>by omega
 rintro _ _ _ y ⟨rfl,j,rfl,hj,hy,hz⟩ _ _
 have h200:=hl.1
 have hfit:qaP (some y):=fun y' e=>by
  cases e
  exact ⟨by omega,fun z h=>Nat.le_trans (hz z h) (by omega)⟩
 refine ⟨fun hlt=>?_,fun hge=>⟨hfit,fun _ _=>⟨fun _=>⟨fun _=>⟨⟨rfl,hfit⟩,fun _=>⟨⟨rfl,hfit⟩,fun _=>rfl,fun h=>(by cases h)⟩,fun h=>(by cases h)⟩,fun h=>absurd rfl h⟩,fun h=>absurd rfl h⟩⟩⟩
 have hj':j<a0_l.length:=by omega
 have hr:=qlb hl (List.getElem_mem hj')
 rw [ixN hj']
 have hpre:=qbu a0_l[j].2.1 (l:=a0_l[j].2.2.1) (by omega)
 refine ⟨⟨by omega,hlt⟩,⟨rfl,by omega,by omega,by omega⟩,fun h=>absurd rfl h,fun _=>⟨by omega,⟨rfl,j+1,rfl,by omega,?_,?_⟩,dec j hj'⟩⟩
 ·rw [actB]
  split<;>exact Nat.le_trans (qgZ _ _ _) (by omega)
 ·intro z h
  rw [actB] at h
  split at h
  ·rcases qeT h with h | h
   ·exact hz z h
   ·rw [h]
    show a0_l[j].2.2.2.2.length≤1048576
    omega
  ·rcases qeT h with h | h
   ·exact hz z h
   ·rw [h]
    show (preimage _ _).length≤1048576
    omega
theorem qhN:(∀a,qbW.pre a→PM.wfP qbW.pm a (fvc qfn 200 11 qbW a (eqO qbW a)))=(∀a:(List (Int×Int×(List (List UInt8))×(List UInt8)×List UInt8))×(List UInt8)×Unit,True→(Ty.kd (.sl (.pr (.int .i64) (.pr (.int .i64) (.pr (.sl (.sl .byte)) (.pr (.arr 32 .byte) (.sl .byte))))))).wf a.1→(Ty.kd (.arr 32 .byte)).wf a.2.1→qcS a.1 a.2.1 (fun o0=>o0=true)):=by kernel_rfl
theorem qiT:qbW.valid Try.prog 11:=qaC (X:=qfn) (qaZ qau (fun b hb=>by cases hb;exact qaA) qaD ⟨qrd,qoD,qq1,qlG,qjO,qnH,trivial⟩) 200 (qhN.mpr fun a hp w_0 w_1=> @qhO a.1 a.2.1 w_0 w_1)
end Go.Proofs.Ytmjjkpiglbpkhaa

set_option linter.unusedVariables false
namespace Go.Proofs.Ytmjjkpiglbpkhaa
open Go Go.RowKit Go.Inc Go.ChangeShapes Go.WideShapes Go.ChangeAt
theorem qtf {H:Type} (d:DataW H):1≤Rows.uptoBulk d:=by
 cases d with
 | lit l=>cases l<;>simp [Rows.uptoBulk]
 | nil=>simp [Rows.uptoBulk]
 | ptr d=>simp [Rows.uptoBulk]
 | slice elems spare=>simp [Rows.uptoBulk]
 | agg parts=>simp [Rows.uptoBulk]
 | iface t d=>simp [Rows.uptoBulk]
 | map entries=>simp [Rows.uptoBulk]
 | held h=>simp [Rows.uptoBulk]
theorem qjn {H:Type} {d:DataW H} {l:List (DataW H)} (h:d∈l):Rows.uptoBulk d≤Rows.uptoBulkAll l:=by
 induction l with
 | nil=>cases h
 | cons x r ih=>
   simp only [Rows.uptoBulkAll]
   cases List.mem_cons.1 h with
   | inl e=>subst e;omega
   | inr e=>have:=ih e;omega
theorem qh8 {H:Type} (l:List (DataW H)):l.length≤Rows.uptoBulkAll l:=by
 induction l with
 | nil=>simp [Rows.uptoBulkAll]
 | cons x r ih=>have:=qtf x;simp only [Rows.uptoBulkAll,List.length_cons];omega
theorem qpq {H:Type} {l:List (DataW H)} (hk:Rows.uptoSmall H l=true):Rows.uptoBulkAll l≤1048576:=by
 simpa [Rows.uptoSmall] using hk
def qdS (w:World):Ghost:=fun b=>match w.heap[b]? with
 | some (.cells c t _)=>some (t,c.toList)
 | _=>none
theorem Models.ofW (w:World):Models w (qdS w):=fun b t l h=>by
 unfold qdS at h
 split at h
 ·rename_i c t' fr hh
  cases h
  exact ⟨c,fr,hh,List.prefix_refl _⟩
 ·cases h
section
variable {P:Program} {α β:Type} {k:Kd α} {k':Kd β} {t e:TypeId} {by_:Nat} {S:α→Prop} {S':β→Prop}
def sm0 {α:Type}:α→Prop:=fun _=>True
def smL {α:Type} (S:α→Prop):List α→Prop:=fun l=>l.length≤1048576∧∀x∈l,S x
def smP {α β:Type} (S:α→Prop) (T:β→Prop):α×β→Prop:=fun x=>S x.1∧T x.2
def Rds (P:Program) (t:TypeId) (k:Kd α) (S:α→Prop):Prop:=∀(H:Type) (enc:TypeId×Value→H) (w:World) (base:Nat) (held:Bool) (fuel:Nat) (cs:List Value) (x:DataW H×List MemPlace),
 DataW.trod enc P w base (fun _=>true) held fuel t cs=some x→Rows.uptoBulk x.1≤1048576→∃a,k.R (qdS w) a cs∧S a
theorem qbT (h:TyOk P t k by_):P.cellsOf t=k.sz:=by
 obtain ⟨i,z,hi,hs,_⟩:=h.info
 simp [Program.cellsOf,hi,hs]
theorem qru {ik:IntKind} (ht:P.underlying t=some (.int ik)):Rds P t (Kd.int ik) sm0:=fun H enc w base held fuel cs x h hb=>by
 obtain ⟨n,rfl,_,hw⟩:=DataW.trod_int ht h
 refine ⟨n,⟨rfl,?_⟩,trivial⟩
 simpa [Lit.wf] using hw
theorem qpk (ht:P.underlying t=some (.int .u8)):Rds P t Kd.byte sm0:=fun H enc w base held fuel cs x h hb=>by
 obtain ⟨n,rfl,_,hw⟩:=DataW.trod_int ht h
 have hw:0≤n∧n≤255:=by simpa [Lit.wf,IntKind.min,IntKind.max,IntKind.signed,IntKind.bits] using hw
 refine ⟨UInt8.ofNat n.toNat,?_,trivial⟩
 show [Value.int .u8 n]=[.int .u8 _]
 congr 2
 have:(UInt8.ofNat n.toNat).toNat=n.toNat:=by simp;omega
 omega
theorem qfC {w:World} {base n:Nat} {a:Addr} {cs:List Value} (h:w.cells? base a n=some cs) (hn:0<n):
 a.spot=none∧∃e l,qdS w a.block=some (e,l)∧a.off+n≤l.length∧(l.drop a.off).take n=cs:=by
 unfold World.cells? at h
 split at h
 case isFalse=>cases h
 case isTrue hb=>
 have hl:=mapM_some_length h
 have hg:=fun i (hi:i<n)=>mapM_some_get h i i (by simp [hi])
 have h0:=hg 0 hn
 have hc0:0<cs.length:=by rw [hl];simpa using hn
 rw [List.getElem?_eq_getElem hc0] at h0
 unfold World.cell? at h0
 have ea: ∀i,(a.add i).block=a.block:=fun i=>by unfold Addr.add;split<;>rfl
 have eo: ∀i,(a.add i).off=a.off+i:=fun i=>by unfold Addr.add;split<;>simp_all
 have ha0:a.add 0=a:=by simp [Addr.add]
 rw [ha0] at h0
 cases hh:w.heap[a.block]? with
 | none=>rw [hh] at h0;cases h0
 | some o=>
   rw [hh] at h0
   cases o with
   | cells c e fr=>
     simp only at h0
     split at h0
     ·cases h0
     ·rename_i hs
      have hs:a.spot=none:=by simpa using hs
      refine ⟨hs,e,c.toList,by simp [qdS,hh],?_⟩
      have hgc: ∀i,i<n→c[a.off+i]?=cs[i]?:=fun i hi=>by
       have:=hg i hi
       unfold World.cell? at this
       rw [ea,eo,hh] at this
       have hs':(a.add i).spot.isSome=false:=by unfold Addr.add;split<;>simp_all
       simpa [hs'] using this
      have hlen:cs.length=n:=by rw [hl];simp
      have hbound:a.off+n≤c.toList.length:=by
       have h1:=hgc (n - 1) (by omega)
       rw [List.getElem?_eq_getElem (by omega)] at h1
       have:=(Array.getElem?_eq_some_iff.1 h1).1
       simp only [Array.length_toList]
       omega
      refine ⟨hbound,?_⟩
      apply List.ext_getElem?
      intro i
      rcases Nat.lt_or_ge i n with hi | hi
      ·rw [List.getElem?_take,if_pos hi,List.getElem?_drop,←hgc i hi]
       simp
      ·rw [List.getElem?_take,if_neg (by omega),List.getElem?_eq_none (by omega)]
   | _=>simp at h0
theorem qiP {R:α→List Value→Prop}: ∀(n:Nat) (f:Nat→List Value),(∀i,i<n→∃a,R a (f i)∧S a)→∃l,l.length=n∧RL R l ((List.range n).map f).flatten∧∀x∈l,S x
 | 0,f,_=>⟨[],rfl,by simp [RL],by simp⟩
 | n+1,f,h=>by
   obtain ⟨l,hl,hR,hS⟩:=qiP n f (fun i hi=>h i (by omega))
   obtain ⟨a,ha,hs⟩:=h n (by omega)
   refine ⟨l++ [a],by simp [hl],?_,fun x hx=>(List.mem_append.1 hx).elim (hS x) (fun h=>by rw [List.mem_singleton.1 h];exact hs)⟩
   rw [List.range_succ]
   simp only [List.map_append,List.map_cons,List.map_nil,List.flatten_append,List.flatten_cons,List.flatten_nil,List.append_nil]
   exact RL.append hR (RL.single ha)
theorem qev (s:Nat): ∀(n:Nat) (l:List Value),n *s≤l.length→((List.range n).map fun i=>(l.drop (i *s)).take s).flatten=l.take (n *s)
 | 0,l,_=>by simp
 | n+1,l,h=>by
   have e:(n+1) *s=n *s+s:=Nat.succ_mul n s
   rw [List.range_succ]
   simp only [List.map_append,List.map_cons,List.map_nil,List.flatten_append,List.flatten_cons,List.flatten_nil,List.append_nil]
   rw [qev s n l (by omega),e,List.take_add]
theorem qnx (ht:P.underlying t=some (.slice e)) (hT:TyOk P e k by_) (h0:Nat.blt 0 k.sz=true) (hR:Rds P e k S):Rds P t (Kd.sl k) (smL S):=fun H enc w base held fuel cs x h hb=>by
 have h0:0<k.sz:=Nat.le_of_ble_eq_true h0
 rcases DataW.trod_slice ht h with ⟨rfl,rfl⟩ | ⟨a,len,cap,elems,rest,n,_,rfl,rfl,hbs,hl,hm,hlen,hel,_,_⟩
 ·exact ⟨[],⟨none,0,rfl,by simp,by simp [LM],by simp,.inl rfl⟩,by simp,by simp⟩
 ·rw [qbT hT] at hel
  have hbulk:elems.length≤1048576:=by
   have:=qh8 (elems.map (·.1))
   simp only [Rows.uptoBulk,List.length_map] at hb this
   omega
  have hparts: ∀i,i<len→∃cs' y,w.cells? base (a.add (i *k.sz)) k.sz=some cs'∧DataW.trod enc P w base (fun _=>true) held n e cs'=some y∧Rows.uptoBulk y.1≤1048576:=fun i hi=>by
   have h1:=hel i hi
   rw [List.getElem?_eq_getElem (by omega)] at h1
   obtain ⟨cs',h2,h3⟩:=Option.bind_eq_some_iff.1 h1
   refine ⟨cs',_,h2,h3,?_⟩
   have:=qjn (l:=elems.map (·.1)) (d:=(elems[i]'(by omega)).1) (List.mem_map.2 ⟨_,List.getElem_mem _,rfl⟩)
   simp only [Rows.uptoBulk] at hb
   omega
  rcases Nat.eq_zero_or_pos len with hz | hp
  ·exact ⟨[],⟨some a,cap,by simp [hz],by simp,by simp [LM],by simp,.inl rfl⟩,by simp,by simp⟩
  ·obtain ⟨cs0,y0,hc0,_,_⟩:=hparts 0 hp
   rw [Nat.zero_mul,show a.add 0=a by simp [Addr.add]] at hc0
   obtain ⟨hs,e',l,hg,_,_⟩:=qfC hc0 h0
   have ea:a=⟨a.block,a.off,none⟩:=by cases a;simp_all
   have key: ∀i,i<len→a.off+i *k.sz+k.sz≤l.length∧w.cells? base (a.add (i *k.sz)) k.sz=some (((l.drop a.off).drop (i *k.sz)).take k.sz):=fun i hi=>by
    obtain ⟨cs',y,hc,_,_⟩:=hparts i hi
    obtain ⟨_,e2,l2,hg2,hle,htk⟩:=qfC hc h0
    rw [ea,qbb] at hg2 hle htk
    simp only at hg2 hle htk
    rw [hg] at hg2
    cases hg2
    refine ⟨hle,?_⟩
    rw [hc,List.drop_drop,←htk]
   have hlast:=(key (len - 1) (by omega)).1
   have hall:a.off+len *k.sz≤l.length:=by
    have:len *k.sz=(len - 1) *k.sz+k.sz:=by
     conv=>lhs;rw [show len=(len - 1)+1 by omega]
     exact Nat.succ_mul _ _
    omega
   obtain ⟨xs,hxl,hxR,hxS⟩:=qiP (S:=S) (R:=k.R (qdS w)) len (fun i=>((l.drop a.off).drop (i *k.sz)).take k.sz) (fun i hi=>by
    obtain ⟨cs',y,hc,ht',hb'⟩:=hparts i hi
    rw [(key i hi).2] at hc
    cases hc
    exact hR _ _ _ _ _ _ _ _ ht' hb')
   rw [qev k.sz len (l.drop a.off) (by rw [List.length_drop];omega)] at hxR
   refine ⟨xs,⟨some a,cap,by rw [hxl],by omega,by simp only [LM];omega,fun x hx=>?_,.inr ⟨a.block,e',l.take a.off,(l.drop a.off).take (len *k.sz),(l.drop a.off).drop (len *k.sz),?_,?_,hxR⟩⟩,by omega,hxS⟩
   ·exact RL.all (p:=k.wf) (fun _ _=>k.hwf) hxR x hx
   ·rw [List.length_take,Nat.min_eq_left (by omega)]
    exact congrArg some ea
   ·rw [hg,List.append_assoc,List.take_append_drop,List.take_append_drop]
theorem qrt {n by_':Nat} (ht:P.underlying t=some (.array n e)) (hT:TyOk P e k by_) (hT':TyOk P t (Kd.arr n k) by_') (hR:Rds P e k S):Rds P t (Kd.arr n k) (smL S):=fun H enc w base held fuel cs x h hb=>by
 obtain ⟨xs,m,_,rfl,hlen,hxl,hx⟩:=DataW.trod_array ht h
 rw [qbT hT] at hx
 rw [qbT hT'] at hlen
 have hlen:cs.length=n *k.sz:=hlen
 obtain ⟨l,hl,hlR,hlS⟩:=qiP (S:=S) (R:=k.R (qdS w)) n (fun i=>(cs.drop (i *k.sz)).take k.sz) (fun i hi=>by
  have h1:=hx i hi
  rw [List.getElem?_eq_getElem (by omega)] at h1
  refine hR _ _ _ _ _ _ _ _ h1 ?_
  have:=qjn (l:=xs.map (·.1)) (d:=(xs[i]'(by omega)).1) (List.mem_map.2 ⟨_,List.getElem_mem _,rfl⟩)
  simp only [Rows.uptoBulk] at hb
  omega)
 rw [qev k.sz n cs (by omega),List.take_of_length_le (by omega)] at hlR
 have hbulk:xs.length≤1048576:=by
  have:=qh8 (xs.map (·.1))
  simp only [Rows.uptoBulk,List.length_map] at hb this
  omega
 exact ⟨l,⟨hl,hlR⟩,by omega,hlS⟩
def RdsF (P:Program) (fs:List Field) (off:Nat) (k:Kd α) (S:α→Prop):Prop:=∀(H:Type) (enc:TypeId×Value→H) (w:World) (base:Nat) (held:Bool) (fuel:Nat) (cs:List Value),
 (∀f∈fs,∃x:DataW H×List MemPlace,DataW.trod enc P w base (fun _=>true) held fuel f.type ((cs.drop f.offset).take (P.cellsOf f.type))=some x∧Rows.uptoBulk x.1≤1048576)→∃a,k.R (qdS w) a ((cs.drop off).take k.sz)∧S a
theorem qpj {f:Field} {off:Nat} (hT:TyOk P f.type k by_) (ho:Nat.beq f.offset off=true) (hR:Rds P f.type k S):RdsF P [f] off k S:=fun H enc w base held fuel cs h=>by
 obtain ⟨x,h1,h2⟩:=h f (.head _)
 rw [Nat.eq_of_beq_eq_true ho,qbT hT] at h1
 exact hR _ _ _ _ _ _ _ _ h1 h2
theorem qd4 {fs:List Field} {f:Field} {off:Nat} (hT:TyOk P f.type k by_) (ho:Nat.beq f.offset off=true) (hR:Rds P f.type k S) (hF:RdsF P fs (off+k.sz) k' S'):RdsF P (f::fs) off (Kd.pr k k') (smP S S'):=fun H enc w base held fuel cs h=>by
 obtain ⟨b,hb,hbS⟩:=hF H enc w base held fuel cs (fun f hf=>h f (.tail _ hf))
 obtain ⟨x,h1,h2⟩:=h f (.head _)
 rw [Nat.eq_of_beq_eq_true ho,qbT hT] at h1
 obtain ⟨a,ha,haS⟩:=hR _ _ _ _ _ _ _ _ h1 h2
 refine ⟨(a,b),⟨_,_,?_,ha,hb⟩,haS,hbS⟩
 show (cs.drop off).take (k.sz+k'.sz)=_
 rw [List.take_add,List.drop_drop]
theorem qk9 {fs:Array Field} (ht:P.underlying t=some (.struct fs)) (hT:TyOk P t k by_) (hF:RdsF P fs.toList 0 k S):Rds P t k S:=fun H enc w base held fuel cs x h hb=>by
 obtain ⟨xs,n,_,rfl,hlen,hxl,hx⟩:=DataW.trod_struct ht h
 rw [qbT hT] at hlen
 obtain ⟨a,ha,haS⟩:=hF H enc w base held n cs (fun f hf=>by
  obtain ⟨i,hi,rfl⟩:=List.getElem_of_mem hf
  have hi':i<fs.size:=by simpa using hi
  have h1:=hx i fs[i] (by simp [hi'])
  rw [List.getElem?_eq_getElem (by omega)] at h1
  refine ⟨xs[i]'(by omega),by simpa using h1,?_⟩
  have:=qjn (l:=xs.map (·.1)) (d:=(xs[i]'(by omega)).1) (List.mem_map.2 ⟨_,List.getElem_mem _,rfl⟩)
  simp only [Rows.uptoBulk] at hb
  omega)
 rw [List.drop_zero,List.take_of_length_le (by omega)] at ha
 exact ⟨a,ha,haS⟩
theorem qko {H:Type} {enc:TypeId×Value→H} {w:World} {r:Reach} {b0 base:Nat} {held:Bool} {v:Value} {d:DataW H} {ps:List MemPlace} (hR:Rds P t k S) (hT:TyOk P t k by_)
 (hval:Value.okWide P w r b0 t v) (h:DataW.Trod enc P w base (fun _=>true) held t v d ps) (hb:Rows.uptoBulk d≤1048576): ∃a,k.V (qdS w) a v∧S a:=by
 obtain ⟨fuel,h⟩:=h
 obtain ⟨a,ha,haS⟩:=hR _ _ _ _ _ _ _ _ h hb
 refine ⟨a,⟨v.cells.toList,ha,?_⟩,haS⟩
 obtain ⟨dd,hd,hagg⟩:=hT.desc
 unfold Value.okWide at hval
 rw [hd] at hval
 cases hk:k.agg with
 | true=>
   rw [hk] at hagg
   have: ∃cs,v= .agg cs:=by
    cases dd<;>first | (cases hagg;done) | (obtain ⟨cs,rfl,_⟩:=hval;exact ⟨cs,rfl⟩)
   obtain ⟨cs,rfl⟩:=this
   simp [Value.cells]
 | false=>
   have hlen:=k.len ha
   rw [k.hs hk] at hlen
   have hna: ∀cs,v≠ .agg cs:=fun cs e=>by
    subst e
    rw [hk] at hagg
    cases dd<;>first | (cases hagg;done) | (simp [Cell.okWide,hd,Cell.ok] at hval)
   cases v<;>first | rfl | exact absurd rfl (hna _)
end
section
variable {H:Type} {enc:TypeId×Value→H} {P:Program}
theorem qoE {w w':World} {K K':Ghost} (h:Ext NX w K w' K'):Below w.heap.size w w':=⟨h.os,h.tape,h.output,h.size,fun b hb=>h.heap b hb (fun x=>x)⟩
theorem qeJ {W W':World} {sp:Nat→Bool} (hl:laidOutB P=true) (hb:Below W.heap.size W W'): ∀ {ts:List TypeId} {vs:List Value} {ds:List (DataW H)} {ps:List MemPlace},
 (ts.all fun t=>P.readableRec t && decide (t<P.types.size))=true→DataW.TrodAll enc P W 0 (fun _=>true) true ts vs ds ps→(∀p∈ps,p.block<W.heap.size)→(∀p∈ps,sp p.block=true)→DataW.TrodAll enc P W' 0 sp true ts vs ds ps
 | [],[],[],ps,_,h,_,_=>h
 | t::ts,v::vs,d::ds,ps,hr,⟨p,q,h1,h2,e⟩,hlt,hs=>by
   subst e
   simp only [List.all_cons,Bool.and_eq_true,decide_eq_true_eq] at hr
   exact ⟨p,q,WideElems.Trod_stays hl hr.1.1 hr.1.2 h1 (fun x hx=>hb.same (hlt x (List.mem_append.2 (.inl hx)))) (fun x hx=>hs x (List.mem_append.2 (.inl hx))),
    qeJ hl hb (ts:=ts) hr.2 h2 (fun x hx=>hlt x (List.mem_append.2 (.inr hx))) (fun x hx=>hs x (List.mem_append.2 (.inr hx))),rfl⟩
 | [],_::_,_,_,_,h,_,_=>h.elim
 | [],[],_::_,_,_,h,_,_=>h.elim
 | _::_,[],_,_,_,h,_,_=>h.elim
 | _::_,_::_,[],_,_,h,_,_=>h.elim
theorem qns {f:Func} {s:ChangeSpec} {apart fresh handsOn again:Bool} {W W':World} {args:Array Value} {ds gs:List (DataW H)} {before:List MemPlace} {tb:TypeId}
 (hW:DataW.Whole enc P f.params.toList s.vars apart W args.toList ds gs before) (hl:laidOutB P=true) (hr:(f.params.toList.all fun t=>P.readableRec t && decide (t<P.types.size))=true)
 (hrt:f.resultTypes= #[tb]) (htb:P.underlying tb=some .bool) (hs:s.vars=[]) (hv:(s.fn H (ds++gs)).vars=[]) (hres:(s.fn H (ds++gs)).results=[.lit (.bool true)]) (hargs:(s.fn H (ds++gs)).args=ds)
 (hb:Below W.heap.size W W'):s.post enc P f apart fresh handsOn again W args (.bool true) W':=by
 have hlt: ∀p∈before,p.block<W.heap.size:=fun p hp=>hW.lt p hp
 have hW':=hW
 obtain ⟨p,q,hA,hV,e,hz,hn⟩:=hW'
 rw [hs] at hV
 have hq:q=[]∧gs=[]:=by
  cases gs with
  | nil=>exact ⟨hV,rfl⟩
  | cons g r=>exact hV.elim
 obtain ⟨rfl,rfl⟩:=hq
 rw [List.append_nil] at e
 subst e
 have ht: ∀(b:Nat) (sp:Nat→Bool) (hd:Bool),DataW.TrodAll enc P W' b sp hd f.resultTypes.toList ((Value.bool true).resultList f.resultTypes.size) (s.fn H (ds++ [])).results []:=fun b sp hd=>by
  rw [hres,hrt]
  exact ⟨[],[],shut_bool htb _,rfl,rfl⟩
 have ha: ∀sp:Nat→Bool,(∀p∈before,sp p.block=true)→DataW.TrodAll enc P W' 0 sp true f.params.toList args.toList (s.fn H (ds++ [])).args before:=fun sp hsp=>by
  rw [hargs]
  exact qeJ hl hb hr hA hlt hsp
 have hvs: ∀sp:Nat→Bool,DataW.TrodVars enc P W' sp s.vars (s.fn H (ds++ [])).vars []:=fun sp=>by
  rw [hs,hv]
  rfl
 have hold: ∀p∈before,(fun b=>decide (b<W.heap.size)) p.block=true:=fun p hp=>by simpa using hlt p hp
 refine ⟨ds,[],before,[],before,[],hW,ht _ _ _,ha _ hold,hvs _,World.keptBut_mono (fun p hp=>⟨hp,?_⟩) (hb.frame (· ∈before)),fun _=>?_⟩
 ·exact Or.inr (by simpa using hp)
 ·refine ⟨?_,_,_,([]++before)++ [],⟨[]++before,[],trodAll_append (ha _ (fun _ _=>rfl)) (ht _ _ _),hvs _,rfl,?_,?_⟩,?_⟩
  ·exact ok_one hrt rfl (okWide_bool_mk htb _)
  ·intro b off hp
   have hin:MemPlace.cell b off∈before:=by simpa using hp
   rw [hb.frozen (hlt _ hin)]
   exact hz b off hin
  ·intro hap
   simpa using hn hap
  ·intro p hp _
   simpa using hp
end
end Go.Proofs.Ytmjjkpiglbpkhaa
