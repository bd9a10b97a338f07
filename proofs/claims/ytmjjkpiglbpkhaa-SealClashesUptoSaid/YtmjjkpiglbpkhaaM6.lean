/- S5, S6, S7, P7. -/
import Derived.Test.YtmjjkpiglbpkhaaM5
import Derived.Test.YtmjjkpiglbpkhaaChecked
import Derived.Test.YtmjjkpiglbpkhaaRows
import Derived.Test.YtmjjkpiglbpkhaaM4
import Derived.WalkKit
import Derived.ProofKit
import Derived.OpenShut
import Derived.JoinedCond
import Derived.Carry
set_option linter.unusedVariables false
set_option maxRecDepth 100000
set_option maxHeartbeats 20000000
namespace Go.Proofs.Ytmjjkpiglbpkhaa
open Go Go.RowKit Go.Inc
noncomputable def qde:Ctr:=⟨[.v (.sl .byte)],[.rw 5 .byte],some (fun a=>(fun (a0_s:List UInt8)=>(a0_s.length≤140737488355328:Prop)) a.1),fun a=>(fun (a0_s:List UInt8)=>((a0_s,()),(()))) a.1⟩
noncomputable def qjL:Fx:=⟨{ seat with rws:=[5,1000005] },some bkT,fns,[],[],[],[]⟩
def qfm (a0_s:List UInt8) (Q:(List UInt8)→Prop):Prop:=
 ∀(x0:Bool),(x0=true→a0_s=([]:List UInt8))→(x0=true→Q ([]:List UInt8))∧(x0=false→(([]:List UInt8).length+a0_s.length) *(1:Nat)≤(140737488355328:Nat)∧Q (([]:List UInt8)++a0_s))
theorem qlG {a0_s:List UInt8} (w_0:(Ty.kd (.sl .byte)).wf a0_s) (hp:a0_s.length≤140737488355328):qfm a0_s (fun o0=>o0=a0_s):=by
 unfold qfm
 intro r hr
 refine ⟨fun h=>?_,fun _=>⟨?_,rfl⟩⟩
 ·rw [hr h]
 ·simpa using hp
theorem qlF:(∀a,qde.pre a→PM.wfP qde.pm a (fvc qjL 200 69 qde a (eqO qde a)))=(∀a:(List UInt8)×Unit,((a.1).length≤140737488355328)→(Ty.kd (.sl .byte)).wf a.1→qfm a.1 (fun o0=>o0=(a.1))):=by kernel_rfl
theorem qoo:qde.valid Try.prog 69:=qaB (X:=qjL) (qaY (qas.rows [5,1000005]) (fun b hb=>by cases hb;exact qaA) qaC trivial) 200 (qlF.mpr fun a hp w_0=> @qlG a.1 w_0 hp)
noncomputable def qgg:Ctr:=⟨[.v (.ptr (.pr (.pr (.sl (.pr (.arr 32 .byte) (.sl .byte))) .anm) (.int .i64)))],[.rw 1000032 (.sl .byte)],some (fun a=>(fun (a0_k:Option (((List ((List UInt8)×List UInt8))×Unit)×Int))=>(qnc a0_k:Prop)) a.1),fun a=>(fun (a0_k:Option (((List ((List UInt8)×List UInt8))×Unit)×Int))=>(((allF a0_k),()),(()))) a.1⟩
noncomputable def qpU:Fx:=⟨{ seat with rws:=[2000032,9000022] },some bkT,fns,[(69,qde)],[],[],[]⟩
def qiD (a0_k:Option (((List ((List UInt8)×List UInt8))×Unit)×Int)) (Q:(List (List UInt8))→Prop):Prop:=
 (a0_k.isNone=true→Q ([]:List (List UInt8)))∧(a0_k.isNone=false→a0_k.isSome=true∧∃(x0:List (List UInt8)→Int→Prop),∃(x1:List (List UInt8)→Int→Nat),x0 ([]:List (List UInt8)) (0:Int)∧∀(x2:List (List UInt8)) (x3:Int),x0 x2 x3→Ty.byte.sl.kd.sl.wf x2→(Kd.int IntKind.i64).wf x3→(x3<((a0_k.getD ((([]:List (List UInt8×List UInt8)),()),default)).fst.fst.length:Int)→((0:Int)≤x3∧x3<((a0_k.getD ((([]:List (List UInt8×List UInt8)),()),default)).fst.fst.length:Int))∧(ix (a0_k.getD ((([]:List (List UInt8×List UInt8)),()),default)).fst.fst x3).snd.length≤(140737488355328:Nat)∧(Ty.byte.kd.sl.wf (ix (a0_k.getD ((([]:List (List UInt8×List UInt8)),()),default)).fst.fst x3).snd→(x2.length+((ix (a0_k.getD ((([]:List (List UInt8×List UInt8)),()),default)).fst.fst x3).snd::([]:List (List UInt8))).length) *(24:Nat)≤(140737488355328:Nat)∧x3<(9223372036854775807:Int)∧x0 (x2++(ix (a0_k.getD ((([]:List (List UInt8×List UInt8)),()),default)).fst.fst x3).snd::([]:List (List UInt8))) (x3+(1:Int))∧x1 (x2++(ix (a0_k.getD ((([]:List (List UInt8×List UInt8)),()),default)).fst.fst x3).snd::([]:List (List UInt8))) (x3+(1:Int))<x1 x2 x3))∧(¬x3<((a0_k.getD ((([]:List (List UInt8×List UInt8)),()),default)).fst.fst.length:Int)→Q x2))
theorem qqy {a0_k:Option (((List ((List UInt8)×List UInt8))×Unit)×Int)} (w_0:(Ty.kd (.ptr (.pr (.pr (.sl (.pr (.arr 32 .byte) (.sl .byte))) .anm) (.int .i64)))).wf a0_k) (hp:qnc a0_k):qiD a0_k (fun o0=>o0=(allF a0_k)):=by
 unfold qiD
 cases a0_k with
 | none=>exact ⟨fun _=>rfl,fun h=>by cases h⟩
 | some y=>
   obtain ⟨hl,hb⟩:=hp y rfl
   refine ⟨fun h=>(by cases h),fun _=>⟨rfl,?_⟩⟩
   simp only [Option.getD_some]
   refine ⟨fun o i=> ∃j:Nat,i=(j:Int)∧j≤y.1.1.length∧o=(y.1.1.take j).map Prod.snd,fun _ i=>y.1.1.length - i.toNat,⟨0,rfl,Nat.zero_le _,rfl⟩,?_⟩
   have dec: ∀j:Nat,(j:Int)<(y.1.1.length:Int)→y.1.1.length - ((j:Int)+1).toNat<y.1.1.length - (j:Int).toNat:=fun j h=>by omega
   rintro _ _ ⟨j,rfl,hj,rfl⟩ _ _
   refine ⟨fun hlt=>?_,fun hge=>?_⟩
   ·have hj':j<y.1.1.length:=by omega
    rw [ixN hj']
    refine ⟨⟨by omega,hlt⟩,hb _ (List.getElem_mem hj'),fun _=>⟨?_,by omega,⟨j+1,rfl,by omega,?_⟩,dec j hlt⟩⟩
    ·simp only [List.length_map,List.length_take,List.length_cons,List.length_nil]
     omega
    ·rw [List.take_add_one,List.getElem?_eq_getElem hj',Option.toList_some,List.map_append]
     rfl
   ·obtain rfl:j=y.1.1.length:=by omega
    rw [List.take_length]
    rfl
theorem qqx:(∀a,qgg.pre a→PM.wfP qgg.pm a (fvc qpU 200 100 qgg a (eqO qgg a)))=(∀a:(Option (((List ((List UInt8)×List UInt8))×Unit)×Int))×Unit,(qnc (a.1))→(Ty.kd (.ptr (.pr (.pr (.sl (.pr (.arr 32 .byte) (.sl .byte))) .anm) (.int .i64)))).wf a.1→qiD a.1 (fun o0=>o0=(allF (a.1)))):=by kernel_rfl
theorem qr6:qgg.valid Try.prog 100:=qaB (X:=qpU) (qaY (qas.rows [2000032,9000022]) (fun b hb=>by cases hb;exact qaA) qaC ⟨qoo,trivial⟩) 200 (qqx.mpr fun a hp w_0=> @qqy a.1 w_0 hp)
noncomputable def qdR:Ctr:=⟨[.v (.int .i64)],[.v (.int .u32)],some (fun a=>(fun (a0_n:Int)=>((0:Int)≤a0_n∧a0_n≤(31:Int):Prop)) a.1),fun a=>(fun (a0_n:Int)=>(((2^a0_n.toNat:Int),()),(()))) a.1⟩
noncomputable def qnE:Fx:=⟨seat,some bkT,fns,[],[],[],[]⟩
def qhE (a0_n:Int) (Q:Int→Prop):Prop:=
 ∃(x0:Int→Int→Prop),∃(x1:Int→Int→Nat),x0 (1:Int) (0:Int)∧∀(x2 x3:Int),x0 x2 x3→(Kd.int IntKind.u32).wf x2→(Kd.int IntKind.i64).wf x3→(x3<a0_n→x3<(9223372036854775807:Int)∧x0 (IntKind.u32.wrap ((2:Int) *x2)) (x3+(1:Int))∧x1 (IntKind.u32.wrap ((2:Int) *x2)) (x3+(1:Int))<x1 x2 x3)∧(¬x3<a0_n→Q x2)
theorem qpx {a0_n:Int} (w_0:(Ty.kd (.int .i64)).wf a0_n) (hp:(0:Int)≤a0_n∧a0_n≤(31:Int)):qhE a0_n (fun o0=>o0=(2^a0_n.toNat:Int)):=by
 unfold qhE
 refine ⟨fun x i=> ∃j:Nat,i=(j:Int)∧(j:Int)≤a0_n∧x=((2^j:Nat):Int),fun _ i=>(a0_n - i).toNat,⟨0,rfl,by omega,rfl⟩,?_⟩
 rintro x i ⟨j,rfl,hj,rfl⟩ _ _
 refine ⟨fun hlt=>⟨by omega,⟨j+1,by omega,by omega,?_⟩,by show (a0_n - ((j:Int)+1)).toNat<(a0_n - (j:Int)).toNat;omega⟩,fun hge=>?_⟩
 ·have hp:2^(j+1)≤2^31:=Nat.pow_le_pow_right (by omega) (by omega)
  have e:2 *((2^j:Nat):Int)=((2^(j+1):Nat):Int):=by rw [Nat.pow_succ];omega
  rw [e,qa8 (by omega)]
 ·have:a0_n.toNat=j:=by omega
  rw [this]
  simp
theorem qpw:(∀a,qdR.pre a→PM.wfP qdR.pm a (fvc qnE 200 129 qdR a (eqO qdR a)))=(∀a:Int×Unit,((0:Int)≤(a.1)∧(a.1)≤(31:Int))→(Ty.kd (.int .i64)).wf a.1→qhE a.1 (fun o0=>o0=(2^(a.1).toNat:Int))):=by kernel_rfl
theorem qnF:qdR.valid Try.prog 129:=qaB (X:=qnE) (qaY qas (fun b hb=>by cases hb;exact qaA) qaC trivial) 200 (qpw.mpr fun a hp w_0=> @qpx a.1 w_0 hp)
noncomputable def qf2:Ctr:=⟨[.v (.int .u32),.v (.int .i64)],[.v (.int .u32)],some (fun a=>(fun (a0_x:Int) (a1_n:Int)=>((1:Int)≤a1_n∧a1_n≤(31:Int):Prop)) a.1 a.2.1),fun a=>(fun (a0_x:Int) (a1_n:Int)=>(((qar a0_x a1_n),()),(()))) a.1 a.2.1⟩
noncomputable def qqq:Fx:=⟨seat,some bkT,fns,[(129,qdR)],[],[],[(1,[],[.o 0 2,.o 1 2,.o 4 2,.o 5 2,.o 8 2,.o 9 2,.o 2 0,.o 3 2,.o 6 0,.o 7 2,.o 10 0,.o 11 2,.o 12 2,.o 13 2])]⟩
def qjz (a0_x:Int) (a1_n:Int) (Q:Int→Prop):Prop:=
 ((0:Int)≤a1_n∧a1_n≤(31:Int))∧((Ty.int IntKind.u32).kd.wf ((2:Int)^a1_n.toNat)→(2:Int)^a1_n.toNat≠(0:Int)∧((0:Int)≤a1_n∧a1_n≤(31:Int))∧((Ty.int IntKind.u32).kd.wf ((2:Int)^a1_n.toNat)→(2:Int)^a1_n.toNat≠(0:Int)∧((0:Int)≤IntKind.i64.wrap ((32:Int) - a1_n)∧IntKind.i64.wrap ((32:Int) - a1_n)≤(31:Int))∧((Ty.int IntKind.u32).kd.wf ((2:Int)^(IntKind.i64.wrap ((32:Int) - a1_n)).toNat)→Q (IntKind.u32.wrap (IntKind.u32.wrap (a0_x.tdiv ((2:Int)^a1_n.toNat))+IntKind.u32.wrap (a0_x.tmod ((2:Int)^a1_n.toNat) *(2:Int)^(IntKind.i64.wrap ((32:Int) - a1_n)).toNat))))))
theorem qrT {a0_x:Int} {a1_n:Int} (w_0:(Ty.kd (.int .u32)).wf a0_x) (w_1:(Ty.kd (.int .i64)).wf a1_n) (hp:(1:Int)≤a1_n∧a1_n≤(31:Int)):qjz a0_x a1_n (fun o0=>o0=(qar a0_x a1_n)):=by
 have w:IntKind.i64.wrap (32 - a1_n)=32 - a1_n:=qaw (wf64 (by omega) (by omega))
 have hp: ∀k:Nat,(2^k:Int)≠0:=fun k=>by
  have:(2^k:Int)=((2^k:Nat):Int):=by simp
  rw [this]
  have:=Nat.two_pow_pos k
  omega
 unfold qjz
 rw [w]
 exact ⟨by omega,fun _=>⟨hp _,by omega,fun _=>⟨hp _,by omega,fun _=>rfl⟩⟩⟩
theorem qrS:(∀a,qf2.pre a→PM.wfP qf2.pm a (fvc qqq 200 143 qf2 a (eqO qf2 a)))=(∀a:Int×Int×Unit,((1:Int)≤(a.2.1)∧(a.2.1)≤(31:Int))→(Ty.kd (.int .u32)).wf a.1→(Ty.kd (.int .i64)).wf a.2.1→qjz a.1 a.2.1 (fun o0=>o0=(qar (a.1) (a.2.1)))):=by kernel_rfl
theorem qqr:qf2.valid Try.prog 143:=qaB (X:=qqq) (qaY qas (fun b hb=>by cases hb;exact qaA) qaC ⟨qnF,trivial⟩) 200 (qrS.mpr fun a hp w_0 w_1=> @qrT a.1 a.2.1 w_0 w_1 hp)
noncomputable def qdW:Ctr:=⟨[.v (.int .u32),.v (.int .u32),.v (.int .u32)],[.v (.int .u32)],none,fun a=>(fun (a0_a:Int) (a1_b:Int) (a2_c:Int)=>(((bxor .u32 (bxor .u32 a0_a a1_b) a2_c),()),(()))) a.1 a.2.1 a.2.2.1⟩
noncomputable def qnU:Fx:=⟨seat,some bkT,fns,[],[],[],[]⟩
def qkI (a0_a:Int) (a1_b:Int) (a2_c:Int) (Q:Int→Prop):Prop:=
 Q (bxor IntKind.u32 (bxor IntKind.u32 a0_a a1_b) a2_c)
theorem qpL {a0_a:Int} {a1_b:Int} {a2_c:Int} (w_0:(Ty.kd (.int .u32)).wf a0_a) (w_1:(Ty.kd (.int .u32)).wf a1_b) (w_2:(Ty.kd (.int .u32)).wf a2_c):qkI a0_a a1_b a2_c (fun o0=>o0=(bxor .u32 (bxor .u32 a0_a a1_b) a2_c)):=by
 rfl
theorem qpK:(∀a,qdW.pre a→PM.wfP qdW.pm a (fvc qnU 200 142 qdW a (eqO qdW a)))=(∀a:Int×Int×Int×Unit,True→(Ty.kd (.int .u32)).wf a.1→(Ty.kd (.int .u32)).wf a.2.1→(Ty.kd (.int .u32)).wf a.2.2.1→qkI a.1 a.2.1 a.2.2.1 (fun o0=>o0=(bxor .u32 (bxor .u32 (a.1) (a.2.1)) (a.2.2.1)))):=by kernel_rfl
theorem qnV:qdW.valid Try.prog 142:=qaB (X:=qnU) (qaY qas (fun b hb=>by cases hb;exact qaA) qaC trivial) 200 (qpK.mpr fun a hp w_0 w_1 w_2=> @qpL a.1 a.2.1 a.2.2.1 w_0 w_1 w_2)
noncomputable def qbJ:Ctr:=⟨[],[.ow 189 (.int .u32)],none,fun _=>((shaK,()),(()))⟩
noncomputable def qfF:Fx:=⟨seat,some bkT,fns,[],[],[],[]⟩
def qeO (Q:(List Int)→Prop):Prop:=
 Q ((1116352408:Int)::(1899447441:Int)::(3049323471:Int)::(3921009573:Int)::(961987163:Int)::(1508970993:Int)::(2453635748:Int)::(2870763221:Int)::(3624381080:Int)::(310598401:Int)::(607225278:Int)::(1426881987:Int)::(1925078388:Int)::(2162078206:Int)::(2614888103:Int)::(3248222580:Int)::(3835390401:Int)::(4022224774:Int)::(264347078:Int)::(604807628:Int)::(770255983:Int)::(1249150122:Int)::(1555081692:Int)::(1996064986:Int)::(2554220882:Int)::(2821834349:Int)::(2952996808:Int)::(3210313671:Int)::(3336571891:Int)::(3584528711:Int)::(113926993:Int)::(338241895:Int)::(666307205:Int)::(773529912:Int)::(1294757372:Int)::(1396182291:Int)::(1695183700:Int)::(1986661051:Int)::(2177026350:Int)::(2456956037:Int)::(2730485921:Int)::(2820302411:Int)::(3259730800:Int)::(3345764771:Int)::(3516065817:Int)::(3600352804:Int)::(4094571909:Int)::(275423344:Int)::(430227734:Int)::(506948616:Int)::(659060556:Int)::(883997877:Int)::(958139571:Int)::(1322822218:Int)::(1537002063:Int)::(1747873779:Int)::(1955562222:Int)::(2024104815:Int)::(2227730452:Int)::(2361852424:Int)::(2428436474:Int)::(2756734187:Int)::(3204031479:Int)::(3329325298:Int)::([]:List Int))
theorem qh2  :qeO  (fun o0=>o0=shaK):=by
 rfl
theorem qh1:(∀a,qbJ.pre a→PM.wfP qbJ.pm a (fvc qfF 200 141 qbJ a (eqO qbJ a)))=(∀a:Unit,True→qeO  (fun o0=>o0=shaK)):=by kernel_rfl
theorem qi6:qbJ.valid Try.prog 141:=qaB (X:=qfF) (qaY qas (fun b hb=>by cases hb;exact qaA) qaC trivial) 200 (qh1.mpr fun a hp  => @qh2 )
noncomputable def qcn:Ctr:=⟨[.v (.sl .byte)],[.ow 5 .byte],some (fun a=>(fun (a0_b:List UInt8)=>(a0_b.length≤70368744177664:Prop)) a.1),fun a=>(fun (a0_b:List UInt8)=>(((qcr a0_b),()),(()))) a.1⟩
noncomputable def qhR:Fx:=⟨seat,some bkT,fns,[],[],[],[]⟩
def qek (a0_b:List UInt8) (Q:(List UInt8)→Prop):Prop:=
 (([]:List UInt8).length+a0_b.length) *(1:Nat)≤(140737488355328:Nat)∧((([]:List UInt8)++a0_b).length+(toB (128:Int)::([]:List UInt8)).length) *(1:Nat)≤(140737488355328:Nat)∧∃(x0:List UInt8→Prop),∃(x1:List UInt8→Nat),x0 (([]:List UInt8)++a0_b++toB (128:Int)::([]:List UInt8))∧∀(x2:List UInt8),x0 x2→Ty.byte.kd.sl.wf x2→((x2.length:Int).tmod (64:Int)≠(56:Int)→(x2.length+(toB (0:Int)::([]:List UInt8)).length) *(1:Nat)≤(140737488355328:Nat)∧x0 (x2++toB (0:Int)::([]:List UInt8))∧x1 (x2++toB (0:Int)::([]:List UInt8))<x1 x2)∧(¬(x2.length:Int).tmod (64:Int)≠(56:Int)→∃(x6:Int→List UInt8→Int→Prop),∃(x7:Int→List UInt8→Int→Nat),x6 (IntKind.u64.wrap ((8:Int) *IntKind.u64.wrap (a0_b.length:Int))) ([]:List UInt8) (0:Int)∧∀(x8:Int) (x9:List UInt8) (x10:Int),x6 x8 x9 x10→(Kd.int IntKind.u64).wf x8→Ty.byte.kd.sl.wf x9→(Kd.int IntKind.i64).wf x10→(x10<(8:Int)→((toB (IntKind.u8.wrap (x8.tmod (256:Int)))::([]:List UInt8)).length+x9.length) *(1:Nat)≤(140737488355328:Nat)∧x10<(9223372036854775807:Int)∧x6 (IntKind.u64.wrap (x8.tdiv (256:Int))) (toB (IntKind.u8.wrap (x8.tmod (256:Int)))::([]:List UInt8)++x9) (x10+(1:Int))∧x7 (IntKind.u64.wrap (x8.tdiv (256:Int))) (toB (IntKind.u8.wrap (x8.tmod (256:Int)))::([]:List UInt8)++x9) (x10+(1:Int))<x7 x8 x9 x10)∧(¬x10<(8:Int)→(x2.length+x9.length) *(1:Nat)≤(140737488355328:Nat)∧Q (x2++x9)))
theorem qkU {a0_b:List UInt8} (w_0:(Ty.kd (.sl .byte)).wf a0_b) (hp:a0_b.length≤70368744177664):qek a0_b (fun o0=>o0=(qcr a0_b)):=by
 have hz:qa4 a0_b.length<64∧(a0_b.length+1+qa4 a0_b.length)%64=56:=by unfold qa4;omega
 have hzm: ∀k,k<qa4 a0_b.length→(a0_b.length+1+k)%64≠56:=fun k hk=>by unfold qa4 at hk;omega
 have hb0:toB 0=0:=by decide
 have wu: ∀a:Int,0≤a→a≤18446744073709551615→IntKind.u64.wrap a=a:=fun a h1 h2=>qaw ⟨by show (0:Int)≤_;omega,by show _≤(18446744073709551615:Int);omega⟩
 unfold qek
 rw [hb0,wu (a0_b.length:Int) (by omega) (by omega),wu (8 *(a0_b.length:Int)) (by omega) (by omega)]
 simp only [List.nil_append]
 refine ⟨by simp;omega,by simp;omega,fun m=> ∃k,k≤qa4 a0_b.length∧m=a0_b++ [toB 128]++List.replicate k 0,fun m=>qa4 a0_b.length - (m.length - (a0_b.length+1)),⟨0,by omega,by simp⟩,?_⟩
 rintro m ⟨k,hk,rfl⟩ _
 have hl:(a0_b++ [toB 128]++List.replicate k 0).length=a0_b.length+1+k:=by simp;omega
 have hmod:Int.tmod ((a0_b++ [toB 128]++List.replicate k 0).length:Int) 64=(((a0_b.length+1+k)%64:Nat):Int):=by
  rw [hl,Int.tmod_eq_emod_of_nonneg (by omega)]
  omega
 rw [hmod]
 refine ⟨fun hne=>⟨by simp;omega,⟨k+1,?_,?_⟩,?_⟩,fun heq=>?_⟩
 ·rcases Nat.lt_or_eq_of_le hk with h | h
  ·omega
  ·exfalso;apply hne;rw [h,hz.2];rfl
 ·rw [List.replicate_succ'];simp
 ·rcases Nat.lt_or_eq_of_le hk with h | h
  ·simp only [List.length_append,List.length_cons,List.length_nil,List.length_replicate]
   omega
  ·exfalso;apply hne;rw [h,hz.2];rfl
 ·have hk':k=qa4 a0_b.length:=by
   rcases Nat.lt_or_eq_of_le hk with h | h
   ·exact absurd (hzm k h) (by intro hx;apply heq;intro hy;apply hx;omega)
   ·exact h
  subst hk'
  refine ⟨fun n last i=> ∃j:Nat,j≤8∧i=(j:Int)∧n=((8 *a0_b.length/2^(8 *j):Nat):Int)∧last=be (8 *a0_b.length) j,fun _ _ i=>8 - i.toNat,⟨0,by omega,rfl,by simp,rfl⟩,?_⟩
  rintro n last i ⟨j,hj,rfl,rfl,rfl⟩ _ _ _
  have hle:8 *a0_b.length/2^(8 *j)≤8 *a0_b.length:=Nat.div_le_self _ _
  refine ⟨fun hlt=>⟨by simp [qa1];omega,by omega,⟨j+1,by omega,by omega,?_,?_⟩,?_⟩,fun hge=>⟨?_,?_⟩⟩
  ·have e:(8 *a0_b.length)/2^(8 *(j+1))=8 *a0_b.length/2^(8 *j)/256:=by
    rw [Nat.div_div_eq_div_mul,show 8 *(j+1)=8 *j+8 by omega,Nat.pow_add]
   rw [e]
   generalize 8 *a0_b.length/2^(8 *j)=A at *
   rw [show (256:Int)=((256:Nat):Int) from rfl,←Int.ofNat_tdiv,wu _ (by omega) (by omega)]
  ·show toB (IntKind.u8.wrap (Int.tmod _ 256))::be _ j=UInt8.ofNat (8 *a0_b.length/2^(8 *j))::be _ j
   congr 1
   generalize 8 *a0_b.length/2^(8 *j)=A
   rw [show (256:Int)=((256:Nat):Int) from rfl,←Int.ofNat_tmod,qaw ⟨by show (0:Int)≤_;omega,by show _≤(255:Int);omega⟩]
   unfold toB
   rw [Int.toNat_natCast]
   apply UInt8.toNat_inj.1
   simp
  ·show 8 - ((j:Int)+1).toNat<8 - (j:Int).toNat
   omega
  ·simp [qa1];omega
  ·have:j=8:=by omega
   subst this
   simp [qcr]
theorem qkT:(∀a,qcn.pre a→PM.wfP qcn.pm a (fvc qhR 200 126 qcn a (eqO qcn a)))=(∀a:(List UInt8)×Unit,((a.1).length≤70368744177664)→(Ty.kd (.sl .byte)).wf a.1→qek a.1 (fun o0=>o0=(qcr (a.1)))):=by kernel_rfl
theorem qlY:qcn.valid Try.prog 126:=qaB (X:=qhR) (qaY qas (fun b hb=>by cases hb;exact qaA) qaC trivial) 200 (qkT.mpr fun a hp w_0=> @qkU a.1 w_0 hp)
noncomputable def qbZ:Ctr:=⟨[.v (.sl .byte)],[.ow 189 (.int .u32)],some (fun a=>(fun (a0_b:List UInt8)=>(a0_b.length=64:Prop)) a.1),fun a=>(fun (a0_b:List UInt8)=>(((qax a0_b 64),()),(()))) a.1⟩
noncomputable def qgJ:Fx:=⟨seat,some bkT,fns,[(143,qf2),(142,qdW)],[],[],[(14,[],[.o 0 2,.o 1 2,.o 2 2,.o 3 2,.o 4 2,.o 5 2,.o 6 2,.o 7 2,.o 8 2,.o 9 2,.o 10 2,.o 11 2]),(17,[0,1,2,3,4,5,6,7,8,9,10,11,12],[.o 0 2,.o 1 2,.o 2 2,.o 3 2,.o 4 2,.o 5 2,.o 6 2,.o 7 2,.o 8 2,.o 9 2,.o 10 2,.o 11 2,.o 12 2,.o 13 2,.o 14 2,.o 15 2,.o 16 0,.o 17 1,.o 18 3])]⟩
def qdS (a0_b:List UInt8) (Q:(List Int)→Prop):Prop:=
 ∃(x0:List Int→Int→Prop),∃(x1:List Int→Int→Nat),x0 ([]:List Int) (0:Int)∧∀(x2:List Int) (x3:Int),x0 x2 x3→(Ty.int IntKind.u32).kd.sl.wf x2→(Kd.int IntKind.i64).wf x3→(x3<(16:Int)→∃(x8:Int→Int→Prop),∃(x9:Int→Int→Nat),x8 (0:Int) (0:Int)∧∀(x10 x11:Int),x8 x10 x11→(Kd.int IntKind.u32).wf x10→(Kd.int IntKind.i64).wf x11→(x11<(4:Int)→((0:Int)≤IntKind.i64.wrap (IntKind.i64.wrap ((4:Int) *x3)+x11)∧IntKind.i64.wrap (IntKind.i64.wrap ((4:Int) *x3)+x11)<(a0_b.length:Int))∧x11<(9223372036854775807:Int)∧x8 (IntKind.u32.wrap (IntKind.u32.wrap ((256:Int) *x10)+bI (ix a0_b (IntKind.i64.wrap (IntKind.i64.wrap ((4:Int) *x3)+x11))))) (x11+(1:Int))∧x9 (IntKind.u32.wrap (IntKind.u32.wrap ((256:Int) *x10)+bI (ix a0_b (IntKind.i64.wrap (IntKind.i64.wrap ((4:Int) *x3)+x11))))) (x11+(1:Int))<x9 x10 x11)∧(¬x11<(4:Int)→(x2.length+(x10::([]:List Int)).length) *(4:Nat)≤(140737488355328:Nat)∧x3<(9223372036854775807:Int)∧x0 (x2++x10::([]:List Int)) (x3+(1:Int))∧x1 (x2++x10::([]:List Int)) (x3+(1:Int))<x1 x2 x3))∧(¬x3<(16:Int)→∃(x8:List Int→Int→Prop),∃(x9:List Int→Int→Nat),x8 x2 (16:Int)∧∀(x10:List Int) (x11:Int),x8 x10 x11→(Ty.int IntKind.u32).kd.sl.wf x10→(Kd.int IntKind.i64).wf x11→(x11<(64:Int)→((0:Int)≤IntKind.i64.wrap (x11 - (15:Int))∧IntKind.i64.wrap (x11 - (15:Int))<(x10.length:Int))∧((0:Int)≤IntKind.i64.wrap (x11 - (2:Int))∧IntKind.i64.wrap (x11 - (2:Int))<(x10.length:Int))∧((1:Int)≤(7:Int)∧(7:Int)≤(31:Int))∧((Ty.int IntKind.u32).kd.wf (qar (ix x10 (IntKind.i64.wrap (x11 - (15:Int)))) (7:Int))→((1:Int)≤(18:Int)∧(18:Int)≤(31:Int))∧((Ty.int IntKind.u32).kd.wf (qar (ix x10 (IntKind.i64.wrap (x11 - (15:Int)))) (18:Int))→(Ty.int IntKind.u32).kd.wf (bxor IntKind.u32 (bxor IntKind.u32 (qar (ix x10 (IntKind.i64.wrap (x11 - (15:Int)))) (7:Int)) (qar (ix x10 (IntKind.i64.wrap (x11 - (15:Int)))) (18:Int))) (IntKind.u32.wrap ((ix x10 (IntKind.i64.wrap (x11 - (15:Int)))).tdiv (8:Int))))→((1:Int)≤(17:Int)∧(17:Int)≤(31:Int))∧((Ty.int IntKind.u32).kd.wf (qar (ix x10 (IntKind.i64.wrap (x11 - (2:Int)))) (17:Int))→((1:Int)≤(19:Int)∧(19:Int)≤(31:Int))∧((Ty.int IntKind.u32).kd.wf (qar (ix x10 (IntKind.i64.wrap (x11 - (2:Int)))) (19:Int))→(Ty.int IntKind.u32).kd.wf (bxor IntKind.u32 (bxor IntKind.u32 (qar (ix x10 (IntKind.i64.wrap (x11 - (2:Int)))) (17:Int)) (qar (ix x10 (IntKind.i64.wrap (x11 - (2:Int)))) (19:Int))) (IntKind.u32.wrap ((ix x10 (IntKind.i64.wrap (x11 - (2:Int)))).tdiv (1024:Int))))→((0:Int)≤IntKind.i64.wrap (x11 - (16:Int))∧IntKind.i64.wrap (x11 - (16:Int))<(x10.length:Int))∧((0:Int)≤IntKind.i64.wrap (x11 - (7:Int))∧IntKind.i64.wrap (x11 - (7:Int))<(x10.length:Int))∧(x10.length+(IntKind.u32.wrap (IntKind.u32.wrap (IntKind.u32.wrap (ix x10 (IntKind.i64.wrap (x11 - (16:Int)))+bxor IntKind.u32 (bxor IntKind.u32 (qar (ix x10 (IntKind.i64.wrap (x11 - (15:Int)))) (7:Int)) (qar (ix x10 (IntKind.i64.wrap (x11 - (15:Int)))) (18:Int))) (IntKind.u32.wrap ((ix x10 (IntKind.i64.wrap (x11 - (15:Int)))).tdiv (8:Int))))+ix x10 (IntKind.i64.wrap (x11 - (7:Int))))+bxor IntKind.u32 (bxor IntKind.u32 (qar (ix x10 (IntKind.i64.wrap (x11 - (2:Int)))) (17:Int)) (qar (ix x10 (IntKind.i64.wrap (x11 - (2:Int)))) (19:Int))) (IntKind.u32.wrap ((ix x10 (IntKind.i64.wrap (x11 - (2:Int)))).tdiv (1024:Int))))::([]:List Int)).length) *(4:Nat)≤(140737488355328:Nat)∧x11<(9223372036854775807:Int)∧x8 (x10++IntKind.u32.wrap (IntKind.u32.wrap (IntKind.u32.wrap (ix x10 (IntKind.i64.wrap (x11 - (16:Int)))+bxor IntKind.u32 (bxor IntKind.u32 (qar (ix x10 (IntKind.i64.wrap (x11 - (15:Int)))) (7:Int)) (qar (ix x10 (IntKind.i64.wrap (x11 - (15:Int)))) (18:Int))) (IntKind.u32.wrap ((ix x10 (IntKind.i64.wrap (x11 - (15:Int)))).tdiv (8:Int))))+ix x10 (IntKind.i64.wrap (x11 - (7:Int))))+bxor IntKind.u32 (bxor IntKind.u32 (qar (ix x10 (IntKind.i64.wrap (x11 - (2:Int)))) (17:Int)) (qar (ix x10 (IntKind.i64.wrap (x11 - (2:Int)))) (19:Int))) (IntKind.u32.wrap ((ix x10 (IntKind.i64.wrap (x11 - (2:Int)))).tdiv (1024:Int))))::([]:List Int)) (x11+(1:Int))∧x9 (x10++IntKind.u32.wrap (IntKind.u32.wrap (IntKind.u32.wrap (ix x10 (IntKind.i64.wrap (x11 - (16:Int)))+bxor IntKind.u32 (bxor IntKind.u32 (qar (ix x10 (IntKind.i64.wrap (x11 - (15:Int)))) (7:Int)) (qar (ix x10 (IntKind.i64.wrap (x11 - (15:Int)))) (18:Int))) (IntKind.u32.wrap ((ix x10 (IntKind.i64.wrap (x11 - (15:Int)))).tdiv (8:Int))))+ix x10 (IntKind.i64.wrap (x11 - (7:Int))))+bxor IntKind.u32 (bxor IntKind.u32 (qar (ix x10 (IntKind.i64.wrap (x11 - (2:Int)))) (17:Int)) (qar (ix x10 (IntKind.i64.wrap (x11 - (2:Int)))) (19:Int))) (IntKind.u32.wrap ((ix x10 (IntKind.i64.wrap (x11 - (2:Int)))).tdiv (1024:Int))))::([]:List Int)) (x11+(1:Int))<x9 x10 x11)))))∧(¬x11<(64:Int)→Q x10))
theorem qjw {a0_b:List UInt8} (w_0:(Ty.kd (.sl .byte)).wf a0_b) (hp:a0_b.length=64):qdS a0_b (fun o0=>o0=(qax a0_b 64)):=by
 have w64: ∀a:Int, -1000≤a→a≤1000→IntKind.i64.wrap a=a:=fun a h1 h2=>qaw (wf64 (by omega) (by omega))
 have hacc: ∀(i:Int) (m:Nat),0≤accB a0_b i m∧accB a0_b i m<256^m:=fun i m=>by
  induction m with
  | zero=>simp [accB]
  | succ m ih=>
    have hb:=qk5 (ix a0_b (4 *i+(m:Int)))
    have e:(256:Int)^(m+1)=256 *256^m:=by rw [Int.pow_succ,Int.mul_comm]
    simp only [accB]
    rw [e]
    generalize (256:Int)^m=Z at *
    omega
 unfold qdS
 refine ⟨fun w i=> ∃n:Nat,i=(n:Int)∧n≤16∧w=(qax a0_b n).take n,fun _ i=>16 - i.toNat,⟨0,rfl,by omega,by simp⟩,?_⟩
 rintro w i ⟨n,rfl,hn,rfl⟩ _ _
 refine ⟨fun hlt=>?_,fun hge=>?_⟩
 ·refine ⟨fun x j=> ∃m:Nat,j=(m:Int)∧m≤4∧x=accB a0_b n m,fun _ j=>4 - j.toNat,⟨0,rfl,by omega,rfl⟩,?_⟩
  rintro x j ⟨m,rfl,hm,rfl⟩ _ _
  have e4:IntKind.i64.wrap (IntKind.i64.wrap (4 *(n:Int))+(m:Int))=4 *(n:Int)+(m:Int):=by rw [w64 (4 *(n:Int)) (by omega) (by omega),w64 _ (by omega) (by omega)]
  rw [e4]
  refine ⟨fun hj=>⟨⟨by omega,by omega⟩,by omega,⟨m+1,by omega,by omega,?_⟩,by show 4 - ((m:Int)+1).toNat<4 - (m:Int).toNat;omega⟩,fun hj=>?_⟩
  ·have h1:=hacc n m
   have hb:=qk5 (ix a0_b (4 *(n:Int)+(m:Int)))
   have h2:(256:Int)^m≤16777216:=by
    rcases (by omega:m=0∨m=1∨m=2∨m=3) with h | h | h | h<;>rw [h]<;>decide
   simp only [accB]
   rw [wr32 (256 *_),wr32]
   omega
  ·have:m=4:=by omega
   subst this
   have hl:=qcA a0_b n
   refine ⟨by simp only [List.length_take,List.length_cons,List.length_nil];omega,by omega,⟨n+1,by omega,by omega,?_⟩,by show 16 - ((n:Int)+1).toNat<16 - (n:Int).toNat;omega⟩
   rw [qf4 _ (by omega),if_pos (by omega),qlv]
 ·have hn16:n=16:=by omega
  subst hn16
  refine ⟨fun w i=> ∃n:Nat,i=(n:Int)∧16≤n∧n≤64∧w=(qax a0_b n).take n,fun _ i=>64 - i.toNat,⟨16,rfl,by omega,by omega,rfl⟩,?_⟩
  rintro w i ⟨n,rfl,hn1,hn2,rfl⟩ hwf _
  have hl:=qcA a0_b n
  have hlt:((qax a0_b n).take n).length=n:=by rw [List.length_take];omega
  refine ⟨fun hlt64=>?_,fun hge64=>?_⟩
  ·rw [w64 ((n:Int) - 15) (by omega) (by omega),w64 ((n:Int) - 2) (by omega) (by omega),w64 ((n:Int) - 16) (by omega) (by omega),w64 ((n:Int) - 7) (by omega) (by omega),hlt]
   have hx: ∀d:Int,0<d→d≤16→0≤ix ((qax a0_b n).take n) ((n:Int) - d)∧ix ((qax a0_b n).take n) ((n:Int) - d)<4294967296:=fun d h1 h2=>wf32 (hwf.2 _ (qce (by omega) (by rw [hlt];omega)))
   have ht: ∀d:Int,0<d→d≤16→ix ((qax a0_b n).take n) ((n:Int) - d)=ix (qax a0_b n) ((n:Int) - d):=fun d h1 h2=>qrx (by omega)
   refine ⟨by omega,by omega,by omega,fun _=>⟨by omega,fun _ _=>⟨by omega,fun _=>⟨by omega,fun _ _=>⟨by omega,by omega,?_,by omega,⟨n+1,by omega,by omega,by omega,?_⟩,by show 64 - ((n:Int)+1).toNat<64 - (n:Int).toNat;omega⟩⟩⟩⟩⟩
   ·simp only [List.length_cons,List.length_nil];omega
   ·rw [qf4 _ (by omega),if_neg (by omega)]
    congr 2
    have x15:=hx 15 (by omega) (by omega)
    have x2:=hx 2 (by omega) (by omega)
    unfold qoh
    rw [←ht 15 (by omega) (by omega),←ht 2 (by omega) (by omega),←ht 16 (by omega) (by omega),←ht 7 (by omega) (by omega),qtL x15,qtM x2,
     show (3:Int)=((3:Nat):Int) from rfl,show (10:Int)=((10:Nat):Int) from rfl,qkD x15 3 (by omega),qkD x2 10 (by omega)]
    show IntKind.u32.wrap (IntKind.u32.wrap (IntKind.u32.wrap (_+bxor .u32 _ (IntKind.u32.wrap (Int.tdiv _ 8)))+_)+bxor .u32 _ (IntKind.u32.wrap (Int.tdiv _ 1024)))=IntKind.u32.wrap (IntKind.u32.wrap (IntKind.u32.wrap (_+_)+bxor .u32 _ (IntKind.u32.wrap (Int.tdiv _ 8)))+bxor .u32 _ (IntKind.u32.wrap (Int.tdiv _ 1024)))
    generalize bxor .u32 _ (IntKind.u32.wrap (Int.tdiv _ 8))=S
    generalize bxor .u32 _ (IntKind.u32.wrap (Int.tdiv _ 1024))=T
    simp only [wr32]
    omega
  ·have:n=64:=by omega
   subst this
   rw [List.take_of_length_le (by omega)]
theorem qjv:(∀a,qbZ.pre a→PM.wfP qbZ.pm a (fvc qgJ 200 140 qbZ a (eqO qbZ a)))=(∀a:(List UInt8)×Unit,((a.1).length=64)→(Ty.kd (.sl .byte)).wf a.1→qdS a.1 (fun o0=>o0=(qax (a.1) 64))):=by kernel_rfl
theorem qlk:qbZ.valid Try.prog 140:=qaB (X:=qgJ) (qaY qas (fun b hb=>by cases hb;exact qaA) qaC ⟨qqr,qnV,trivial⟩) 200 (qjv.mpr fun a hp w_0=> @qjw a.1 w_0 hp)
noncomputable def qdd:Ctr:=⟨[.v (.sl (.int .u32)),.v (.sl .byte)],[.rw 189 (.int .u32)],some (fun a=>(fun (a0_old:List Int) (a1_b:List UInt8)=>(a0_old.length=8∧a1_b.length=64:Prop)) a.1 a.2.1),fun a=>(fun (a0_old:List Int) (a1_b:List UInt8)=>(((qbM a0_old a1_b),()),(()))) a.1 a.2.1⟩
noncomputable def qjH:Fx:=⟨{ seat with rws:=[1000189] },some bkT,fns,[(140,qbZ),(141,qbJ),(143,qf2),(142,qdW)],[],[(13,[4],[])],[(6,[],[.o 0 2,.o 1 2,.o 2 2,.o 3 2,.o 4 2,.o 5 2,.o 6 2,.o 7 2]),(7,[],[.o 0 2,.o 1 2,.o 2 2,.o 3 2,.o 5 2,.o 7 2,.o 11 2,.o 12 2,.o 13 2,.o 14 2,.o 15 2,.o 16 2,.o 17 2,.o 18 2,.o 19 2,.o 20 2,.o 21 2,.o 22 2,.o 24 2,.o 25 2,.o 26 2,.o 27 2,.o 29 2,.o 30 2,.o 31 2,.o 32 2,.o 4 0,.o 6 0,.o 8 0,.o 9 0,.o 10 2,.o 23 2,.o 28 2,.o 33 2,.o 34 2]),(8,[],[.o 0 2,.o 1 2,.o 2 2,.o 3 2,.o 4 2,.o 5 2,.o 6 2,.o 7 2,.o 8 2,.o 9 2,.o 10 2,.o 11 2,.o 12 2,.o 13 2,.o 14 2,.o 15 2,.o 16 2,.o 17 2,.o 18 2,.o 19 2]),(15,[4],[.o 0 2,.o 1 2,.o 2 2,.o 3 2,.o 4 2,.o 5 2,.o 6 2,.o 7 2,.o 8 2,.o 9 2,.o 10 2,.o 11 2,.o 12 1])]⟩
def qfk (a0_old:List Int) (a1_b:List UInt8) (Q:(List Int)→Prop):Prop:=
 (([]:List Int).length+a0_old.length) *(4:Nat)≤(140737488355328:Nat)∧a1_b.length=(64:Nat)∧((Ty.int IntKind.u32).kd.sl.wf (qax a1_b (64:Nat))→(Ty.int IntKind.u32).kd.sl.wf shaK→∃(x0:List Int→Int→Prop),∃(x1:List Int→Int→Nat),x0 (([]:List Int)++a0_old) (0:Int)∧∀(x2:List Int) (x3:Int),x0 x2 x3→(Ty.int IntKind.u32).kd.sl.wf x2→(Kd.int IntKind.i64).wf x3→(x3<(64:Int)→((0:Int)≤(0:Int)∧(0:Int)<(x2.length:Int))∧((0:Int)≤(4:Int)∧(4:Int)<(x2.length:Int))∧((0:Int)≤(7:Int)∧(7:Int)<(x2.length:Int))∧((0:Int)≤(5:Int)∧(5:Int)<(x2.length:Int))∧((0:Int)≤(6:Int)∧(6:Int)<(x2.length:Int))∧((0:Int)≤x3∧x3<(shaK.length:Int))∧((0:Int)≤x3∧x3<((qax a1_b (64:Nat)).length:Int))∧((1:Int)≤(6:Int)∧(6:Int)≤(31:Int))∧((Ty.int IntKind.u32).kd.wf (qar (ix x2 (4:Int)) (6:Int))→((1:Int)≤(11:Int)∧(11:Int)≤(31:Int))∧((Ty.int IntKind.u32).kd.wf (qar (ix x2 (4:Int)) (11:Int))→((1:Int)≤(25:Int)∧(25:Int)≤(31:Int))∧((Ty.int IntKind.u32).kd.wf (qar (ix x2 (4:Int)) (25:Int))→(Ty.int IntKind.u32).kd.wf (bxor IntKind.u32 (bxor IntKind.u32 (qar (ix x2 (4:Int)) (6:Int)) (qar (ix x2 (4:Int)) (11:Int))) (qar (ix x2 (4:Int)) (25:Int)))→((0:Int)≤(1:Int)∧(1:Int)<(x2.length:Int))∧((0:Int)≤(2:Int)∧(2:Int)<(x2.length:Int))∧((0:Int)≤(1:Int)∧(1:Int)<(x2.length:Int))∧((0:Int)≤(2:Int)∧(2:Int)<(x2.length:Int))∧((1:Int)≤(2:Int)∧(2:Int)≤(31:Int))∧((Ty.int IntKind.u32).kd.wf (qar (ix x2 (0:Int)) (2:Int))→((1:Int)≤(13:Int)∧(13:Int)≤(31:Int))∧((Ty.int IntKind.u32).kd.wf (qar (ix x2 (0:Int)) (13:Int))→((1:Int)≤(22:Int)∧(22:Int)≤(31:Int))∧((Ty.int IntKind.u32).kd.wf (qar (ix x2 (0:Int)) (22:Int))→(Ty.int IntKind.u32).kd.wf (bxor IntKind.u32 (bxor IntKind.u32 (qar (ix x2 (0:Int)) (2:Int)) (qar (ix x2 (0:Int)) (13:Int))) (qar (ix x2 (0:Int)) (22:Int)))→((0:Int)≤(3:Int)∧(3:Int)<(x2.length:Int))∧((0:Int)≤(3:Int)∧(3:Int)<(x2.length:Int))∧((0:Int)≤(0:Int)∧(0:Int)≤(7:Int)∧(7:Int)≤((x2.set (Int.toNat (3:Int)) (IntKind.u32.wrap (ix x2 (3:Int)+IntKind.u32.wrap (IntKind.u32.wrap (IntKind.u32.wrap (IntKind.u32.wrap (ix x2 (7:Int)+bxor IntKind.u32 (bxor IntKind.u32 (qar (ix x2 (4:Int)) (6:Int)) (qar (ix x2 (4:Int)) (11:Int))) (qar (ix x2 (4:Int)) (25:Int)))+bor IntKind.u32 (band IntKind.u32 (ix x2 (4:Int)) (ix x2 (5:Int))) (band IntKind.u32 (bxor IntKind.u32 (4294967295:Int) (ix x2 (4:Int))) (ix x2 (6:Int))))+ix shaK x3)+ix (qax a1_b (64:Nat)) x3)))).length:Int))∧((IntKind.u32.wrap (IntKind.u32.wrap (IntKind.u32.wrap (IntKind.u32.wrap (IntKind.u32.wrap (ix x2 (7:Int)+bxor IntKind.u32 (bxor IntKind.u32 (qar (ix x2 (4:Int)) (6:Int)) (qar (ix x2 (4:Int)) (11:Int))) (qar (ix x2 (4:Int)) (25:Int)))+bor IntKind.u32 (band IntKind.u32 (ix x2 (4:Int)) (ix x2 (5:Int))) (band IntKind.u32 (bxor IntKind.u32 (4294967295:Int) (ix x2 (4:Int))) (ix x2 (6:Int))))+ix shaK x3)+ix (qax a1_b (64:Nat)) x3)+IntKind.u32.wrap (bxor IntKind.u32 (bxor IntKind.u32 (qar (ix x2 (0:Int)) (2:Int)) (qar (ix x2 (0:Int)) (13:Int))) (qar (ix x2 (0:Int)) (22:Int))+bor IntKind.u32 (bor IntKind.u32 (band IntKind.u32 (ix x2 (0:Int)) (ix x2 (1:Int))) (band IntKind.u32 (ix x2 (0:Int)) (ix x2 (2:Int)))) (band IntKind.u32 (ix x2 (1:Int)) (ix x2 (2:Int)))))::([]:List Int)).length+(List.drop (Int.toNat (0:Int)) (List.take (Int.toNat (7:Int)) (x2.set (Int.toNat (3:Int)) (IntKind.u32.wrap (ix x2 (3:Int)+IntKind.u32.wrap (IntKind.u32.wrap (IntKind.u32.wrap (IntKind.u32.wrap (ix x2 (7:Int)+bxor IntKind.u32 (bxor IntKind.u32 (qar (ix x2 (4:Int)) (6:Int)) (qar (ix x2 (4:Int)) (11:Int))) (qar (ix x2 (4:Int)) (25:Int)))+bor IntKind.u32 (band IntKind.u32 (ix x2 (4:Int)) (ix x2 (5:Int))) (band IntKind.u32 (bxor IntKind.u32 (4294967295:Int) (ix x2 (4:Int))) (ix x2 (6:Int))))+ix shaK x3)+ix (qax a1_b (64:Nat)) x3)))))).length) *(4:Nat)≤(140737488355328:Nat)∧x3<(9223372036854775807:Int)∧x0 (IntKind.u32.wrap (IntKind.u32.wrap (IntKind.u32.wrap (IntKind.u32.wrap (IntKind.u32.wrap (ix x2 (7:Int)+bxor IntKind.u32 (bxor IntKind.u32 (qar (ix x2 (4:Int)) (6:Int)) (qar (ix x2 (4:Int)) (11:Int))) (qar (ix x2 (4:Int)) (25:Int)))+bor IntKind.u32 (band IntKind.u32 (ix x2 (4:Int)) (ix x2 (5:Int))) (band IntKind.u32 (bxor IntKind.u32 (4294967295:Int) (ix x2 (4:Int))) (ix x2 (6:Int))))+ix shaK x3)+ix (qax a1_b (64:Nat)) x3)+IntKind.u32.wrap (bxor IntKind.u32 (bxor IntKind.u32 (qar (ix x2 (0:Int)) (2:Int)) (qar (ix x2 (0:Int)) (13:Int))) (qar (ix x2 (0:Int)) (22:Int))+bor IntKind.u32 (bor IntKind.u32 (band IntKind.u32 (ix x2 (0:Int)) (ix x2 (1:Int))) (band IntKind.u32 (ix x2 (0:Int)) (ix x2 (2:Int)))) (band IntKind.u32 (ix x2 (1:Int)) (ix x2 (2:Int)))))::([]:List Int)++List.drop (Int.toNat (0:Int)) (List.take (Int.toNat (7:Int)) (x2.set (Int.toNat (3:Int)) (IntKind.u32.wrap (ix x2 (3:Int)+IntKind.u32.wrap (IntKind.u32.wrap (IntKind.u32.wrap (IntKind.u32.wrap (ix x2 (7:Int)+bxor IntKind.u32 (bxor IntKind.u32 (qar (ix x2 (4:Int)) (6:Int)) (qar (ix x2 (4:Int)) (11:Int))) (qar (ix x2 (4:Int)) (25:Int)))+bor IntKind.u32 (band IntKind.u32 (ix x2 (4:Int)) (ix x2 (5:Int))) (band IntKind.u32 (bxor IntKind.u32 (4294967295:Int) (ix x2 (4:Int))) (ix x2 (6:Int))))+ix shaK x3)+ix (qax a1_b (64:Nat)) x3)))))) (x3+(1:Int))∧x1 (IntKind.u32.wrap (IntKind.u32.wrap (IntKind.u32.wrap (IntKind.u32.wrap (IntKind.u32.wrap (ix x2 (7:Int)+bxor IntKind.u32 (bxor IntKind.u32 (qar (ix x2 (4:Int)) (6:Int)) (qar (ix x2 (4:Int)) (11:Int))) (qar (ix x2 (4:Int)) (25:Int)))+bor IntKind.u32 (band IntKind.u32 (ix x2 (4:Int)) (ix x2 (5:Int))) (band IntKind.u32 (bxor IntKind.u32 (4294967295:Int) (ix x2 (4:Int))) (ix x2 (6:Int))))+ix shaK x3)+ix (qax a1_b (64:Nat)) x3)+IntKind.u32.wrap (bxor IntKind.u32 (bxor IntKind.u32 (qar (ix x2 (0:Int)) (2:Int)) (qar (ix x2 (0:Int)) (13:Int))) (qar (ix x2 (0:Int)) (22:Int))+bor IntKind.u32 (bor IntKind.u32 (band IntKind.u32 (ix x2 (0:Int)) (ix x2 (1:Int))) (band IntKind.u32 (ix x2 (0:Int)) (ix x2 (2:Int)))) (band IntKind.u32 (ix x2 (1:Int)) (ix x2 (2:Int)))))::([]:List Int)++List.drop (Int.toNat (0:Int)) (List.take (Int.toNat (7:Int)) (x2.set (Int.toNat (3:Int)) (IntKind.u32.wrap (ix x2 (3:Int)+IntKind.u32.wrap (IntKind.u32.wrap (IntKind.u32.wrap (IntKind.u32.wrap (ix x2 (7:Int)+bxor IntKind.u32 (bxor IntKind.u32 (qar (ix x2 (4:Int)) (6:Int)) (qar (ix x2 (4:Int)) (11:Int))) (qar (ix x2 (4:Int)) (25:Int)))+bor IntKind.u32 (band IntKind.u32 (ix x2 (4:Int)) (ix x2 (5:Int))) (band IntKind.u32 (bxor IntKind.u32 (4294967295:Int) (ix x2 (4:Int))) (ix x2 (6:Int))))+ix shaK x3)+ix (qax a1_b (64:Nat)) x3)))))) (x3+(1:Int))<x1 x2 x3)))))))∧(¬x3<(64:Int)→∃(x8:Int→List Int→Prop),∃(x9:Int→List Int→Nat),x8 (0:Int) x2∧∀(x10:Int) (x11:List Int),x8 x10 x11→(Kd.int IntKind.i64).wf x10→(Ty.int IntKind.u32).kd.sl.wf x11→(x10<(8:Int)→((0:Int)≤x10∧x10<(x11.length:Int))∧((0:Int)≤x10∧x10<(a0_old.length:Int))∧((0:Int)≤x10∧x10<(x11.length:Int))∧x10<(9223372036854775807:Int)∧x8 (x10+(1:Int)) (x11.set x10.toNat (IntKind.u32.wrap (ix x11 x10+ix a0_old x10)))∧x9 (x10+(1:Int)) (x11.set x10.toNat (IntKind.u32.wrap (ix x11 x10+ix a0_old x10)))<x9 x10 x11)∧(¬x10<(8:Int)→Q x11)))
theorem qlz {a0_old:List Int} {a1_b:List UInt8} (w_0:(Ty.kd (.sl (.int .u32))).wf a0_old) (w_1:(Ty.kd (.sl .byte)).wf a1_b) (hp:a0_old.length=8∧a1_b.length=64):qfk a0_old a1_b (fun o0=>o0=(qbM a0_old a1_b)):=by
 obtain ⟨hp1,hp2⟩:=hp
 have w64: ∀a:Int, -1000≤a→a≤1000→IntKind.i64.wrap a=a:=fun a h1 h2=>qaw (wf64 (by omega) (by omega))
 have hk:shaK.length=64:=by decide
 have hwl:=qcA a1_b 64
 have hrl: ∀n,(qbu (qax a1_b 64) a0_old n).length=8:=fun n=>by
  cases n with
  | zero=>exact hp1
  | succ n=>rfl
 unfold qfk
 simp only [List.nil_append]
 refine ⟨by simp;omega,hp2,fun _ _=>⟨fun x i=> ∃n:Nat,i=(n:Int)∧n≤64∧x=qbu (qax a1_b 64) a0_old n,fun _ i=>64 - i.toNat,⟨0,rfl,by omega,rfl⟩,?_⟩⟩
 rintro x i ⟨n,rfl,hn,rfl⟩ hwf _
 have hx:=hrl n
 refine ⟨fun hlt=>?_,fun hge=>?_⟩
 ·have x4:=wf32 (hwf.2 _ (qce (l:=qbu (qax a1_b 64) a0_old n) (i:=4) (by omega) (by rw [hx];decide)))
  have x0:=wf32 (hwf.2 _ (qce (l:=qbu (qax a1_b 64) a0_old n) (i:=0) (by omega) (by rw [hx];decide)))
  have hnext:qbu (qax a1_b 64) a0_old (n+1)=qnO (qax a1_b 64) (qbu (qax a1_b 64) a0_old n) n:=rfl
  rw [←qtJ x4,←qtK x0,qun,qtq]
  generalize hX:qbu (qax a1_b 64) a0_old n=X at *
  rw [hx,hk,hwl]
  refine ⟨by omega,by omega,by omega,by omega,by omega,by omega,by omega,by omega,fun _=>⟨by omega,fun _=>⟨by omega,fun _ _=>?_⟩⟩⟩
  refine ⟨by omega,by omega,by omega,by omega,by omega,fun _=>⟨by omega,fun _=>⟨by omega,fun _ _=>?_⟩⟩⟩
  refine ⟨by omega,by omega,?_,?_,by omega,⟨n+1,by omega,by omega,?_⟩,(by show 64 - ((n:Int)+1).toNat<64 - (n:Int).toNat;omega)⟩
  ·rw [List.length_set,hx];decide
  ·simp only [List.length_cons,List.length_nil,List.length_drop,List.length_take,List.length_set,hx];decide
  ·rw [hnext]
   match X,hx with
   | [y0,y1,y2,y3,y4,y5,y6,y7],_=>rfl
 ·have hn64:n=64:=by omega
  subst hn64
  have hT:qbM a0_old a1_b=addN a0_old (qbu (qax a1_b 64) a0_old 64) 8:=by unfold qbM;rfl
  rw [hT]
  have hTl:(addN a0_old (qbu (qax a1_b 64) a0_old 64) 8).length=8:=by rw [qe3,hp1]
  have hadd:=qoP (x:=qbu (qax a1_b 64) a0_old 64) hp1
  clear hrl hT hwf hn hge
  generalize qbu (qax a1_b 64) a0_old 64=R at *
  refine ⟨fun i x=> ∃n:Nat,i=(n:Int)∧n≤8∧x.length=8∧∀j:Nat,j<8→x[j]?=if j<n then (addN a0_old R 8)[j]? else R[j]?,fun i _=>8 - i.toNat,⟨0,rfl,by omega,hx,fun j hj=>by rw [if_neg (by omega)]⟩,?_⟩
  rintro i x ⟨n,rfl,hn,hxl,hxj⟩ _ _
  refine ⟨fun hlt=>⟨by omega,by omega,by omega,by omega,⟨n+1,by omega,by omega,by rw [List.length_set];exact hxl,fun j hj=>?_⟩,by show 8 - ((n:Int)+1).toNat<8 - (n:Int).toNat;omega⟩,fun hge=>?_⟩
  ·have hi:ix x (n:Int)=ix R (n:Int):=by
    have h:=hxj n (by omega)
    rw [if_neg (by omega)] at h
    unfold ix
    simp only [List.getD_eq_getElem?_getD,Int.toNat_natCast]
    rw [h]
   rw [hi,List.getElem?_set,Int.toNat_natCast]
   by_cases h:n=j
   ·subst h
    rw [if_pos rfl,if_pos (by omega),if_pos (by omega),hadd 8 n (by omega) (by omega),if_pos (by omega),Int.add_comm]
   ·rw [if_neg h,hxj j hj]
    by_cases h2:j<n
    ·rw [if_pos h2,if_pos (by omega)]
    ·rw [if_neg h2,if_neg (by omega)]
  ·have hn8:n=8:=by omega
   subst hn8
   apply List.ext_getElem?
   intro j
   by_cases hj:j<8
   ·rw [hxj j hj,if_pos hj]
   ·rw [List.getElem?_eq_none (by omega),List.getElem?_eq_none (by omega)]
theorem qly:(∀a,qdd.pre a→PM.wfP qdd.pm a (fvc qjH 200 128 qdd a (eqO qdd a)))=(∀a:(List Int)×(List UInt8)×Unit,((a.1).length=8∧(a.2.1).length=64)→(Ty.kd (.sl (.int .u32))).wf a.1→(Ty.kd (.sl .byte)).wf a.2.1→qfk a.1 a.2.1 (fun o0=>o0=(qbM (a.1) (a.2.1)))):=by kernel_rfl
theorem qjI:qdd.valid Try.prog 128:=qaB (X:=qjH) (qaY (qas.rows [1000189]) (fun b hb=>by cases hb;exact qaA) qaC ⟨qlk,qi6,qqr,qnV,trivial⟩) 200 (qly.mpr fun a hp w_0 w_1=> @qlz a.1 a.2.1 w_0 w_1 hp)
noncomputable def qlA:Ctr:=⟨[.v (.sl (.int .u32)),.v (.sl .byte)],[.ow 189 (.int .u32)],some (fun a=>(fun (a0_old:List Int) (a1_b:List UInt8)=>(a0_old.length=8∧a1_b.length=64:Prop)) a.1 a.2.1),fun a=>(fun (a0_old:List Int) (a1_b:List UInt8)=>(((qbM a0_old a1_b),()),(()))) a.1 a.2.1⟩
theorem qqC:qlA.valid Try.prog 128:=qpv qjI
noncomputable def qgl:Ctr:=⟨[.v (.sl (.sl .byte))],[.ow 5 .byte],some (fun a=>(fun (a0_parts:List (List UInt8))=>(a0_parts.flatten.length≤70368744177664:Prop)) a.1),fun a=>(fun (a0_parts:List (List UInt8))=>((a0_parts.flatten,()),(()))) a.1⟩
noncomputable def qp2:Fx:=⟨seat,some bkT,fns,[],[],[],[]⟩
def qiU (a0_parts:List (List UInt8)) (Q:(List UInt8)→Prop):Prop:=
 ∃(x0:List UInt8→Int→Prop),∃(x1:List UInt8→Int→Nat),x0 ([]:List UInt8) (0:Int)∧∀(x2:List UInt8) (x3:Int),x0 x2 x3→Ty.byte.kd.sl.wf x2→(Kd.int IntKind.i64).wf x3→(x3<(a0_parts.length:Int)→((0:Int)≤x3∧x3<(a0_parts.length:Int))∧(x2.length+(ix a0_parts x3).length) *(1:Nat)≤(140737488355328:Nat)∧x3<(9223372036854775807:Int)∧x0 (x2++ix a0_parts x3) (x3+(1:Int))∧x1 (x2++ix a0_parts x3) (x3+(1:Int))<x1 x2 x3)∧(¬x3<(a0_parts.length:Int)→Q x2)
theorem qqY {a0_parts:List (List UInt8)} (w_0:(Ty.kd (.sl (.sl .byte))).wf a0_parts) (hp:a0_parts.flatten.length≤70368744177664):qiU a0_parts (fun o0=>o0=a0_parts.flatten):=by
 have hL:a0_parts.length≤LM:=w_0.1
 unfold LM at hL
 unfold qiU
 refine ⟨fun out i=> ∃j:Nat,i=(j:Int)∧j≤a0_parts.length∧out=(a0_parts.take j).flatten,fun _ i=>a0_parts.length - i.toNat,⟨0,rfl,by omega,by simp⟩,?_⟩
 rintro out i ⟨j,rfl,hj,rfl⟩ _ _
 refine ⟨fun hlt=>⟨⟨by omega,hlt⟩,?_,by omega,⟨j+1,by omega,by omega,(qc2 hlt).symm⟩,?_⟩,fun hge=>?_⟩
 ·have h1:=qfJ (l:=a0_parts) (j+1)
  rw [qc2 hlt,List.length_append] at h1
  omega
 ·show a0_parts.length - ((j:Int)+1).toNat<a0_parts.length - (j:Int).toNat
  omega
 ·have:j=a0_parts.length:=by omega
  subst this
  rw [List.take_length]
theorem qqX:(∀a,qgl.pre a→PM.wfP qgl.pm a (fvc qp2 200 127 qgl a (eqO qgl a)))=(∀a:(List (List UInt8))×Unit,((a.1).flatten.length≤70368744177664)→(Ty.kd (.sl (.sl .byte))).wf a.1→qiU a.1 (fun o0=>o0=(a.1).flatten)):=by kernel_rfl
theorem qsr:qgl.valid Try.prog 127:=qaB (X:=qp2) (qaY qas (fun b hb=>by cases hb;exact qaA) qaC trivial) 200 (qqX.mpr fun a hp w_0=> @qqY a.1 w_0 hp)
noncomputable def qgn:Ctr:=⟨[.v (.sl (.sl .byte))],[.v (.arr 32 .byte)],some (fun a=>(fun (a0_parts:List (List UInt8))=>(a0_parts.flatten.length≤70368744177664:Prop)) a.1),fun a=>(fun (a0_parts:List (List UInt8))=>(((qaT a0_parts),()),(()))) a.1⟩
noncomputable def qp4:Fx:=⟨seat,some bkT,fns,[(127,qgl),(126,qcn),(128,qlA),(128,qdd),(129,qdR)],[],[(9,[5],[])],[(11,[5],[.o 0 2,.o 1 2,.o 2 2,.o 3 2,.o 4 2,.o 5 2,.o 6 2,.o 7 2,.o 8 2,.o 9 2,.o 10 0,.o 11 2,.o 12 2,.o 13 2,.o 14 2,.o 15 1])]⟩
def qiX (a0_parts:List (List UInt8)) (Q:(List UInt8)→Prop):Prop:=
 a0_parts.flatten.length≤(70368744177664:Nat)∧(Ty.byte.kd.sl.wf a0_parts.flatten→a0_parts.flatten.length≤(70368744177664:Nat)∧(Ty.byte.kd.sl.wf (qcr a0_parts.flatten)→∃(x0:List Int→Int→Prop),∃(x1:List Int→Int→Nat),x0 ((1779033703:Int)::(3144134277:Int)::(1013904242:Int)::(2773480762:Int)::(1359893119:Int)::(2600822924:Int)::(528734635:Int)::(1541459225:Int)::([]:List Int)) (0:Int)∧∀(x2:List Int) (x3:Int),x0 x2 x3→(Ty.int IntKind.u32).kd.sl.wf x2→(Kd.int IntKind.i64).wf x3→(x3<((qcr a0_parts.flatten).length:Int)→((0:Int)≤x3∧x3≤IntKind.i64.wrap (x3+(64:Int))∧IntKind.i64.wrap (x3+(64:Int))≤((qcr a0_parts.flatten).length:Int))∧(x2.length=(8:Nat)∧(List.drop x3.toNat (List.take (IntKind.i64.wrap (x3+(64:Int))).toNat (qcr a0_parts.flatten))).length=(64:Nat))∧((Ty.int IntKind.u32).kd.sl.wf (qbM x2 (List.drop x3.toNat (List.take (IntKind.i64.wrap (x3+(64:Int))).toNat (qcr a0_parts.flatten))))→x0 (qbM x2 (List.drop x3.toNat (List.take (IntKind.i64.wrap (x3+(64:Int))).toNat (qcr a0_parts.flatten)))) (IntKind.i64.wrap (x3+(64:Int)))∧x1 (qbM x2 (List.drop x3.toNat (List.take (IntKind.i64.wrap (x3+(64:Int))).toNat (qcr a0_parts.flatten)))) (IntKind.i64.wrap (x3+(64:Int)))<x1 x2 x3))∧(¬x3<((qcr a0_parts.flatten).length:Int)→∃(x8:Int→List UInt8→Prop),∃(x9:Int→List UInt8→Nat),x8 (0:Int) (Ty.arr (32:Nat) Ty.byte).kd.z∧∀(x10:Int) (x11:List UInt8),x8 x10 x11→(Kd.int IntKind.i64).wf x10→(Ty.arr (32:Nat) Ty.byte).kd.wf x11→(x10<(32:Int)→((0:Int)≤IntKind.i64.wrap (x10.tdiv (4:Int))∧IntKind.i64.wrap (x10.tdiv (4:Int))<(x2.length:Int))∧((0:Int)≤IntKind.i64.wrap ((24:Int) - IntKind.i64.wrap (x10.tmod (4:Int) *(8:Int)))∧IntKind.i64.wrap ((24:Int) - IntKind.i64.wrap (x10.tmod (4:Int) *(8:Int)))≤(31:Int))∧((Ty.int IntKind.u32).kd.wf ((2:Int)^(IntKind.i64.wrap ((24:Int) - IntKind.i64.wrap (x10.tmod (4:Int) *(8:Int)))).toNat)→(2:Int)^(IntKind.i64.wrap ((24:Int) - IntKind.i64.wrap (x10.tmod (4:Int) *(8:Int)))).toNat≠(0:Int)∧((0:Int)≤x10∧x10<((32:Nat):Int))∧x10<(9223372036854775807:Int)∧x8 (x10+(1:Int)) (x11.set x10.toNat (toB (IntKind.u8.wrap ((IntKind.u32.wrap ((ix x2 (IntKind.i64.wrap (x10.tdiv (4:Int)))).tdiv ((2:Int)^(IntKind.i64.wrap ((24:Int) - IntKind.i64.wrap (x10.tmod (4:Int) *(8:Int)))).toNat))).tmod (256:Int)))))∧x9 (x10+(1:Int)) (x11.set x10.toNat (toB (IntKind.u8.wrap ((IntKind.u32.wrap ((ix x2 (IntKind.i64.wrap (x10.tdiv (4:Int)))).tdiv ((2:Int)^(IntKind.i64.wrap ((24:Int) - IntKind.i64.wrap (x10.tmod (4:Int) *(8:Int)))).toNat))).tmod (256:Int)))))<x9 x10 x11))∧(¬x10<(32:Int)→Q x11))))
theorem qq2 {a0_parts:List (List UInt8)} (w_0:(Ty.kd (.sl (.sl .byte))).wf a0_parts) (hp:a0_parts.flatten.length≤70368744177664):qiX a0_parts (fun o0=>o0=(qaT a0_parts)):=by
 have w64: ∀a:Int,0≤a→a≤140737488355328→IntKind.i64.wrap a=a:=fun a h1 h2=>qaw (wf64 (by omega) (by omega))
 unfold qiX
 refine ⟨hp,fun _=>⟨hp,fun _=>?_⟩⟩
 rw [qlm _ hp]
 have hml:=qij a0_parts.flatten
 have hz:qa4 a0_parts.flatten.length<64∧(a0_parts.flatten.length+(1+(qa4 a0_parts.flatten.length+8)))%64=0:=by unfold qa4;omega
 generalize hM:qcr a0_parts.flatten=M at *
 have hM64:M.length%64=0:=by omega
 have hMle:M.length≤70368744177664+100:=by omega
 clear hml hz hM
 refine ⟨fun x i=> ∃k:Nat,i=((64 *k:Nat):Int)∧64 *k≤M.length∧x=blkN shaH M k,fun _ i=>M.length - i.toNat,⟨0,rfl,by omega,rfl⟩,?_⟩
 rintro x i ⟨k,rfl,hk,rfl⟩ hwx _
 have hbl:(blkN shaH M k).length=8:=by rw [qj9];rfl
 refine ⟨fun hlt=>?_,fun hge=>?_⟩
 ·rw [w64 _ (by omega) (by omega)]
  have e1:(((64 *k:Nat):Int)+64).toNat=64 *k+64:=by omega
  rw [e1,Int.toNat_natCast]
  have hd:(M.take (64 *k+64)).drop (64 *k)=(M.drop (64 *k)).take 64:=by rw [List.drop_take];congr 1;omega
  rw [hd]
  refine ⟨by omega,⟨hbl,by rw [List.length_take,List.length_drop];omega⟩,fun _=>⟨⟨k+1,by omega,by omega,rfl⟩,?_⟩⟩
  show M.length - (((64 *k:Nat):Int)+64).toNat<M.length - ((64 *k:Nat):Int).toNat
  omega
 ·have hk2:M.length/64=k:=by omega
  rw [hk2,qpH]
  generalize blkN shaH M k=X at *
  refine ⟨fun i b=> ∃n:Nat,i=(n:Int)∧n≤32∧b.length=32∧∀j:Nat,j<n→b[j]?=some (outB X j),fun i _=>32 - i.toNat,⟨0,rfl,by omega,rfl,fun j hj=>by omega⟩,?_⟩
  rintro i b ⟨n,rfl,hn,hb,hbj⟩ _ _
  refine ⟨fun hlt=>?_,fun hge=>?_⟩
  ·have w64': ∀a:Int, -1000≤a→a≤1000→IntKind.i64.wrap a=a:=fun a h1 h2=>qaw (wf64 (by omega) (by omega))
   have d1:Int.tdiv (n:Int) 4=((n/4:Nat):Int):=(Int.ofNat_tdiv n 4).symm
   have d2:Int.tmod (n:Int) 4=((n%4:Nat):Int):=(Int.ofNat_tmod n 4).symm
   rw [d1,d2,w64' ((n/4:Nat):Int) (by omega) (by omega),w64' (((n%4:Nat):Int) *8) (by omega) (by omega),w64' (24 - ((n%4:Nat):Int) *8) (by omega) (by omega)]
   have e3:(24 - ((n%4:Nat):Int) *8).toNat=24 - n%4 *8:=by omega
   rw [e3]
   have hpos:=Nat.two_pow_pos (24 - n%4 *8)
   have e4:(2^(24 - n%4 *8):Int)=((2^(24 - n%4 *8):Nat):Int):=by simp
   rw [e4]
   refine ⟨by omega,by omega,fun _=>⟨by omega,by omega,by omega,⟨n+1,by omega,by omega,by rw [List.length_set];exact hb,fun j hj=>?_⟩,by show 32 - ((n:Int)+1).toNat<32 - (n:Int).toNat;omega⟩⟩
   rw [List.getElem?_set,Int.toNat_natCast]
   by_cases h:n=j
   ·subst h
    rw [if_pos rfl,if_pos (by omega)]
    congr 1
    unfold outB
    have hxw:=wf32 (hwx.2 _ (qce (l:=X) (i:=((n/4:Nat):Int)) (by omega) (by omega)))
    obtain ⟨A,hA⟩:=Int.eq_ofNat_of_zero_le hxw.1
    rw [hA] at hxw⊢
    have hle:A/2^(24 - n%4 *8)≤A:=Nat.div_le_self _ _
    rw [←Int.ofNat_tdiv,Int.toNat_natCast]
    generalize A/2^(24 - n%4 *8)=D at *
    rw [qa8 (by omega),show (256:Int)=((256:Nat):Int) from rfl,←Int.ofNat_tmod,qaw ⟨by show (0:Int)≤_;omega,by show _≤(255:Int);omega⟩]
    unfold toB
    rw [Int.toNat_natCast]
    apply UInt8.toNat_inj.1
    simp
   ·rw [if_neg h]
    exact hbj j (by omega)
  ·have:n=32:=by omega
   subst this
   apply List.ext_getElem?
   intro j
   by_cases hj:j<32
   ·rw [hbj j hj]
    simp [hj]
   ·rw [List.getElem?_eq_none (by omega),List.getElem?_eq_none (by simp;omega)]
theorem qq1:(∀a,qgn.pre a→PM.wfP qgn.pm a (fvc qp4 200 111 qgn a (eqO qgn a)))=(∀a:(List (List UInt8))×Unit,((a.1).flatten.length≤70368744177664)→(Ty.kd (.sl (.sl .byte))).wf a.1→qiX a.1 (fun o0=>o0=(qaT (a.1)))):=by kernel_rfl
theorem qsw:qgn.valid Try.prog 111:=qaB (X:=qp4) (qaY qas (fun b hb=>by cases hb;exact qaA) qaC ⟨qsr,qlY,qqC,qjI,qnF,trivial⟩) 200 (qq1.mpr fun a hp w_0=> @qq2 a.1 w_0 hp)
noncomputable def qco:Ctr:=⟨[.v (.int .u64)],[.ow 5 .byte],none,fun a=>(fun (a0_x:Int)=>(((numB a0_x.toNat),()),(()))) a.1⟩
noncomputable def qhS:Fx:=⟨seat,some bkT,fns,[],[],[],[]⟩
def qen (a0_x:Int) (Q:(List UInt8)→Prop):Prop:=
 ∃(x0:Int→List UInt8→Prop),∃(x1:Int→List UInt8→Nat),x0 a0_x ([]:List UInt8)∧∀(x2:Int) (x3:List UInt8),x0 x2 x3→(Kd.int IntKind.u64).wf x2→Ty.byte.kd.sl.wf x3→((0:Int)<x2→(x3.length+(toB (IntKind.u8.wrap (x2.tmod (256:Int)))::([]:List UInt8)).length) *(1:Nat)≤(140737488355328:Nat)∧x0 (IntKind.u64.wrap (x2.tdiv (256:Int))) (x3++toB (IntKind.u8.wrap (x2.tmod (256:Int)))::([]:List UInt8))∧x1 (IntKind.u64.wrap (x2.tdiv (256:Int))) (x3++toB (IntKind.u8.wrap (x2.tmod (256:Int)))::([]:List UInt8))<x1 x2 x3)∧(¬(0:Int)<x2→∃(x8:List UInt8→Int→Prop),∃(x9:List UInt8→Int→Nat),x8 (toB (IntKind.u8.wrap (x3.length:Int))::([]:List UInt8)) (x3.length:Int)∧∀(x10:List UInt8) (x11:Int),x8 x10 x11→Ty.byte.kd.sl.wf x10→(Kd.int IntKind.i64).wf x11→((0:Int)<x11→((0:Int)≤IntKind.i64.wrap (x11 - (1:Int))∧IntKind.i64.wrap (x11 - (1:Int))<(x3.length:Int))∧(x10.length+(ix x3 (IntKind.i64.wrap (x11 - (1:Int)))::([]:List UInt8)).length) *(1:Nat)≤(140737488355328:Nat)∧x8 (x10++ix x3 (IntKind.i64.wrap (x11 - (1:Int)))::([]:List UInt8)) (IntKind.i64.wrap (x11 - (1:Int)))∧x9 (x10++ix x3 (IntKind.i64.wrap (x11 - (1:Int)))::([]:List UInt8)) (IntKind.i64.wrap (x11 - (1:Int)))<x9 x10 x11)∧(¬(0:Int)<x11→Q x10))
theorem qkZ {a0_x:Int} (w_0:(Ty.kd (.int .u64)).wf a0_x):qen a0_x (fun o0=>o0=(numB a0_x.toNat)):=by
 obtain ⟨n,rfl⟩:=Int.eq_ofNat_of_zero_le w_0.1
 have hn:n<18446744073709551616:=by have h:(n:Int)≤18446744073709551615:=w_0.2;omega
 rw [Int.toNat_natCast]
 have w64: ∀a:Int, -1000≤a→a≤1000→IntKind.i64.wrap a=a:=fun a h1 h2=>qaw (wf64 (by omega) (by omega))
 unfold qen
 refine ⟨fun x low=> ∃j:Nat,j≤8∧x=((n/2^(8 *j):Nat):Int)∧low=(List.range j).map (fun i=>UInt8.ofNat (n/2^(8 *i)))∧(j=0∨0<n/2^(8 *(j - 1))),fun x _=>x.toNat,⟨0,by omega,by simp,rfl,.inl rfl⟩,?_⟩
 rintro x low ⟨j,hj,rfl,rfl,hlow⟩ _ _
 have hdd:n/2^(8 *(j+1))=n/2^(8 *j)/256:=by
  rw [Nat.div_div_eq_div_mul,show 8 *(j+1)=8 *j+8 by omega,Nat.pow_add]
 refine ⟨fun hpos=>?_,fun hz=>?_⟩
 ·have hj8:j<8:=by
   rcases Nat.lt_or_eq_of_le hj with h | h
   ·exact h
   ·subst h
    rw [Nat.div_eq_of_lt (by simpa using hn)] at hpos
    omega
  have hle:n/2^(8 *j)≤n:=Nat.div_le_self _ _
  have e1:IntKind.u64.wrap (Int.tdiv ((n/2^(8 *j):Nat):Int) 256)=((n/2^(8 *(j+1)):Nat):Int):=by
   rw [hdd]
   clear hdd hlow hpos
   generalize n/2^(8 *j)=A at *
   rw [show (256:Int)=((256:Nat):Int) from rfl,←Int.ofNat_tdiv,qaw ⟨by show (0:Int)≤_;omega,by show _≤(18446744073709551615:Int);omega⟩]
  have e2:toB (IntKind.u8.wrap (Int.tmod ((n/2^(8 *j):Nat):Int) 256))=UInt8.ofNat (n/2^(8 *j)):=by
   generalize n/2^(8 *j)=A
   rw [show (256:Int)=((256:Nat):Int) from rfl,←Int.ofNat_tmod,qaw ⟨by show (0:Int)≤_;omega,by show _≤(255:Int);omega⟩]
   unfold toB
   rw [Int.toNat_natCast]
   apply UInt8.toNat_inj.1
   simp
  rw [e1,e2]
  refine ⟨by simp;omega,⟨j+1,by omega,rfl,by rw [List.range_succ];simp,.inr ?_⟩,?_⟩
  ·rw [show j+1 - 1=j by omega]
   clear hdd hlow e1 e2
   generalize n/2^(8 *j)=A at *
   omega
  ·show ((n/2^(8 *(j+1)):Nat):Int).toNat<((n/2^(8 *j):Nat):Int).toNat
   rw [hdd]
   clear hdd hlow e1 e2
   generalize n/2^(8 *j)=A at *
   omega
 ·have hz0:n/2^(8 *j)=0:=by
   revert hz
   generalize n/2^(8 *j)=A
   intro hz
   omega
  have hlt:n<2^(8 *j):=by
   rcases Nat.lt_or_ge n (2^(8 *j)) with h | h
   ·exact h
   ·have:=Nat.div_pos h (Nat.two_pow_pos (8 *j));omega
  have hk:(blen n+7)/8=j:=by
   have h1:=qfC (8 *j) hlt
   rcases hlow with h | h
   ·subst h;omega
   ·have h2:2^(8 *(j - 1))≤n:=by
     rcases Nat.lt_or_ge n (2^(8 *(j - 1))) with hq | hq
     ·rw [Nat.div_eq_of_lt hq] at h;omega
     ·exact hq
    have h3:=Nat.lt_of_le_of_lt h2 (qrA n)
    have h4:8 *(j - 1)<blen n:=(Nat.pow_lt_pow_iff_right (by omega)).1 h3
    rcases Nat.eq_zero_or_pos j with hj0 | hj0
    ·subst hj0;omega
    ·omega
  have hlen:((List.range j).map (fun i=>UInt8.ofNat (n/2^(8 *i)))).length=j:=by simp
  have hix: ∀i:Nat,i<j→ix ((List.range j).map (fun i=>UInt8.ofNat (n/2^(8 *i)))) (i:Int)=UInt8.ofNat (n/2^(8 *i)):=fun i hi=>by
   unfold ix
   simp [hi]
  have hn0:numB n=toB (IntKind.u8.wrap (j:Int))::be n j:=by
   unfold numB
   simp only [hk]
   congr 1
   rw [qaw ⟨by show (0:Int)≤_;omega,by show _≤(255:Int);omega⟩]
   unfold toB
   rw [Int.toNat_natCast]
  rw [hlen,hn0]
  refine ⟨fun out i=> ∃m:Nat,i=(m:Int)∧m≤j∧out++be n m=toB (IntKind.u8.wrap (j:Int))::be n j,fun _ i=>i.toNat,⟨j,rfl,by omega,rfl⟩,?_⟩
  rintro out i ⟨m,rfl,hm,hout⟩ _ _
  have hol:=congrArg List.length hout
  simp only [List.length_append,List.length_cons,qa1] at hol
  refine ⟨fun hpos=>?_,fun h0=>?_⟩
  ·obtain ⟨m,rfl⟩: ∃m',m=m'+1:=⟨m - 1,by omega⟩
   have e:IntKind.i64.wrap (((m+1:Nat):Int) - 1)=(m:Int):=by rw [w64 _ (by omega) (by omega)];omega
   rw [e,hix m (by omega)]
   refine ⟨by omega,by simp only [List.length_cons,List.length_nil];omega,⟨m,rfl,by omega,?_⟩,by show (m:Int).toNat<((m+1:Nat):Int).toNat;omega⟩
   rw [←hout]
   simp [be]
  ·have:m=0:=by omega
   subst this
   simpa [be] using hout
theorem qkY:(∀a,qco.pre a→PM.wfP qco.pm a (fvc qhS 200 109 qco a (eqO qco a)))=(∀a:Int×Unit,True→(Ty.kd (.int .u64)).wf a.1→qen a.1 (fun o0=>o0=(numB (a.1).toNat))):=by kernel_rfl
theorem qmb:qco.valid Try.prog 109:=qaB (X:=qhS) (qaY qas (fun b hb=>by cases hb;exact qaA) qaC trivial) 200 (qkY.mpr fun a hp w_0=> @qkZ a.1 w_0)
noncomputable def qdg:Ctr:=⟨[.v (.sl .byte),.v (.sl (.sl .byte))],[.ow 5 .byte],some (fun a=>(fun (a0_b:List UInt8) (a1_l:List (List UInt8))=>(a0_b.length+qah a1_l≤140737488355328:Prop)) a.1 a.2.1),fun a=>(fun (a0_b:List UInt8) (a1_l:List (List UInt8))=>(((a0_b++qaP a1_l),()),(()))) a.1 a.2.1⟩
noncomputable def qjV:Fx:=⟨seat,some bkT,fns,[(109,qco)],[],[],[]⟩
def qft (a0_b:List UInt8) (a1_l:List (List UInt8)) (Q:(List UInt8)→Prop):Prop:=
 (([]:List UInt8).length+a0_b.length) *(1:Nat)≤(140737488355328:Nat)∧∃(x0:List UInt8→Int→Prop),∃(x1:List UInt8→Int→Nat),x0 (([]:List UInt8)++a0_b) (0:Int)∧∀(x2:List UInt8) (x3:Int),x0 x2 x3→Ty.byte.kd.sl.wf x2→(Kd.int IntKind.i64).wf x3→(x3<(a1_l.length:Int)→((0:Int)≤x3∧x3<(a1_l.length:Int))∧(Ty.byte.kd.sl.wf (numB (IntKind.u64.wrap ((ix a1_l x3).length:Int)).toNat)→(x2.length+(numB (IntKind.u64.wrap ((ix a1_l x3).length:Int)).toNat).length) *(1:Nat)≤(140737488355328:Nat)∧((0:Int)≤x3∧x3<(a1_l.length:Int))∧((x2++numB (IntKind.u64.wrap ((ix a1_l x3).length:Int)).toNat).length+(ix a1_l x3).length) *(1:Nat)≤(140737488355328:Nat)∧x3<(9223372036854775807:Int)∧x0 (x2++numB (IntKind.u64.wrap ((ix a1_l x3).length:Int)).toNat++ix a1_l x3) (x3+(1:Int))∧x1 (x2++numB (IntKind.u64.wrap ((ix a1_l x3).length:Int)).toNat++ix a1_l x3) (x3+(1:Int))<x1 x2 x3))∧(¬x3<(a1_l.length:Int)→Q x2)
theorem ql7 {a0_b:List UInt8} {a1_l:List (List UInt8)} (w_0:(Ty.kd (.sl .byte)).wf a0_b) (w_1:(Ty.kd (.sl (.sl .byte))).wf a1_l) (hp:a0_b.length+qah a1_l≤140737488355328):qft a0_b a1_l (fun o0=>o0=(a0_b++qaP a1_l)):=by
 have hw: ∀x∈a1_l,x.length≤LM:=fun x hx=>(w_1.2 x hx).1
 have hL:a1_l.length≤LM:=w_1.1
 unfold LM at hL
 unfold qft
 simp only [List.nil_append]
 refine ⟨by simp only [List.length_nil];omega,fun out i=> ∃j:Nat,i=(j:Int)∧j≤a1_l.length∧out=a0_b++qaP (a1_l.take j),fun _ i=>a1_l.length - i.toNat,⟨0,rfl,by omega,by simp [qaP]⟩,?_⟩
 rintro out i ⟨j,rfl,hj,rfl⟩ _ _
 refine ⟨fun hlt=>?_,fun hge=>?_⟩
 ·have h1:=qbq (a1_l.take j) (fun y hy=>by have:=hw y (List.mem_of_mem_take hy);unfold LM at this;omega)
  have h2:=qcD hlt
  have h3:=hw _ (qce (by omega) hlt)
  have h4:IntKind.u64.wrap ((ix a1_l (j:Int)).length:Int)=((ix a1_l (j:Int)).length:Int):=qaw ⟨by show (0:Int)≤_;omega,by unfold LM at h3;show _≤(18446744073709551615:Int);omega⟩
  have h5:=qcL (n:=(ix a1_l (j:Int)).length) (by unfold LM at h3;omega)
  rw [h4,Int.toNat_natCast]
  refine ⟨⟨by omega,hlt⟩,fun _=>⟨?_,⟨by omega,hlt⟩,?_,by omega,⟨j+1,by omega,by omega,?_⟩,?_⟩⟩
  ·simp only [List.length_append];omega
  ·simp only [List.length_append];omega
  ·rw [qbh hlt]
   simp [qaP]
  ·show a1_l.length - ((j:Int)+1).toNat<a1_l.length - (j:Int).toNat
   omega
 ·have:j=a1_l.length:=by omega
  subst this
  rw [List.take_length]
theorem ql6:(∀a,qdg.pre a→PM.wfP qdg.pm a (fvc qjV 200 96 qdg a (eqO qdg a)))=(∀a:(List UInt8)×(List (List UInt8))×Unit,((a.1).length+qah (a.2.1)≤140737488355328)→(Ty.kd (.sl .byte)).wf a.1→(Ty.kd (.sl (.sl .byte))).wf a.2.1→qft a.1 a.2.1 (fun o0=>o0=((a.1)++qaP (a.2.1)))):=by kernel_rfl
theorem qoF:qdg.valid Try.prog 96:=qaB (X:=qjV) (qaY qas (fun b hb=>by cases hb;exact qaA) qaC ⟨qmb,trivial⟩) 200 (ql6.mpr fun a hp w_0 w_1=> @ql7 a.1 a.2.1 w_0 w_1 hp)
noncomputable def qbd:Ctr:=⟨[.v (.int .i64),.v (.sl (.sl .byte))],[.ow 5 .byte],some (fun a=>(fun (a0_kind:Int) (a1_parts:List (List UInt8))=>(1+qah a1_parts≤140737488355328:Prop)) a.1 a.2.1),fun a=>(fun (a0_kind:Int) (a1_parts:List (List UInt8))=>(((preimage a0_kind a1_parts),()),(()))) a.1 a.2.1⟩
noncomputable def qfv:Fx:=⟨seat,some bkT,fns,[(96,qdg)],[],[],[]⟩
def qcV (a0_kind:Int) (a1_parts:List (List UInt8)) (Q:(List UInt8)→Prop):Prop:=
 (toB (IntKind.u8.wrap a0_kind)::([]:List UInt8)).length+qah a1_parts≤(140737488355328:Nat)∧(Ty.byte.kd.sl.wf (toB (IntKind.u8.wrap a0_kind)::([]:List UInt8)++qaP a1_parts)→Q (toB (IntKind.u8.wrap a0_kind)::([]:List UInt8)++qaP a1_parts))
theorem qhU {a0_kind:Int} {a1_parts:List (List UInt8)} (w_0:(Ty.kd (.int .i64)).wf a0_kind) (w_1:(Ty.kd (.sl (.sl .byte))).wf a1_parts) (hp:1+qah a1_parts≤140737488355328):qcV a0_kind a1_parts (fun o0=>o0=(preimage a0_kind a1_parts)):=by
 unfold qcV
 exact ⟨by simpa using hp,fun _=>rfl⟩
theorem qhT:(∀a,qbd.pre a→PM.wfP qbd.pm a (fvc qfv 200 103 qbd a (eqO qbd a)))=(∀a:Int×(List (List UInt8))×Unit,(1+qah (a.2.1)≤140737488355328)→(Ty.kd (.int .i64)).wf a.1→(Ty.kd (.sl (.sl .byte))).wf a.2.1→qcV a.1 a.2.1 (fun o0=>o0=(preimage (a.1) (a.2.1)))):=by kernel_rfl
theorem qdG:qbd.valid Try.prog 103:=qaB (X:=qfv) (qaY qas (fun b hb=>by cases hb;exact qaA) qaC ⟨qoF,trivial⟩) 200 (qhT.mpr fun a hp w_0 w_1=> @qhU a.1 a.2.1 w_0 w_1 hp)
noncomputable def qk0:Ctr:=⟨[.v (.int .i64),.v (.sl (.sl .byte))],[.v (.arr 32 .byte)],some (fun a=>(fun (a0_kind:Int) (a1_parts:List (List UInt8))=>(1+qah a1_parts≤70368744177664:Prop)) a.1 a.2.1),fun a=>(fun (a0_kind:Int) (a1_parts:List (List UInt8))=>(((qaj a0_kind a1_parts),()),(()))) a.1 a.2.1⟩
noncomputable def qst:Fx:=⟨seat,some bkT,fns,[(103,qbd),(111,qgn)],[],[],[]⟩
def qmc (a0_kind:Int) (a1_parts:List (List UInt8)) (Q:(List UInt8)→Prop):Prop:=
 (1:Nat)+qah a1_parts≤(140737488355328:Nat)∧(Ty.byte.kd.sl.wf (preimage a0_kind a1_parts)→(preimage a0_kind a1_parts::([]:List (List UInt8))).flatten.length≤(70368744177664:Nat)∧((Ty.arr (32:Nat) Ty.byte).kd.wf (qaT (preimage a0_kind a1_parts::([]:List (List UInt8))))→Q (qaT (preimage a0_kind a1_parts::([]:List (List UInt8))))))
theorem qsv {a0_kind:Int} {a1_parts:List (List UInt8)} (w_0:(Ty.kd (.int .i64)).wf a0_kind) (w_1:(Ty.kd (.sl (.sl .byte))).wf a1_parts) (hp:1+qah a1_parts≤70368744177664):qmc a0_kind a1_parts (fun o0=>o0=(qaj a0_kind a1_parts)):=by
 have hl:=qbw a0_kind (l:=a1_parts) (by omega)
 unfold qmc
 exact ⟨by omega,fun _=>⟨by simp;omega,fun _=>rfl⟩⟩
theorem qsu:(∀a,qk0.pre a→PM.wfP qk0.pm a (fvc qst 200 68 qk0 a (eqO qk0 a)))=(∀a:Int×(List (List UInt8))×Unit,(1+qah (a.2.1)≤70368744177664)→(Ty.kd (.int .i64)).wf a.1→(Ty.kd (.sl (.sl .byte))).wf a.2.1→qmc a.1 a.2.1 (fun o0=>o0=(qaj (a.1) (a.2.1)))):=by kernel_rfl
theorem qtV:qk0.valid Try.prog 68:=qaB (X:=qst) (qaY qas (fun b hb=>by cases hb;exact qaA) qaC ⟨qdG,qsw,trivial⟩) 200 (qsu.mpr fun a hp w_0 w_1=> @qsv a.1 a.2.1 w_0 w_1 hp)
noncomputable def qfr:Ctr:=⟨[.bx (.pr (.sl (.pr (.arr 32 .byte) .str)) (.int .i64)) true,.v (.arr 32 .byte),.v (.sl .byte)],[],some (fun a=>(fun (a0_k:(List ((List UInt8)×List UInt8))×Int) (a1_s:List UInt8) (a2_b:List UInt8)=>((a0_k.1.length+1) *64≤140737488355328∧a2_b.length≤140737488355328:Prop)) a.1 a.2.1 a.2.2.1),fun a=>(fun (a0_k:(List ((List UInt8)×List UInt8))×Int) (a1_s:List UInt8) (a2_b:List UInt8)=>((()),((addL a0_k.1 a1_s a2_b,a0_k.2),()))) a.1 a.2.1 a.2.2.1⟩
noncomputable def qp0:Fx:=⟨seat,some bkT,fns,[],[],[],[(4,[],[.o 0 2,.o 1 2,.o 2 2,.o 3 2,.o 4 2,.o 5 2,.o 6 2,.o 7 2,.o 8 2,.o 9 2,.o 10 2,.o 11 2,.o 12 2,.o 13 2,.o 14 2,.o 15 2,.o 16 2,.o 17 2,.o 18 2,.o 19 2,.o 20 2,.o 21 2,.o 22 2]),(5,[0],[.o 0 3,.o 2 3,.o 3 3,.o 4 3,.o 7 3,.o 8 3,.o 9 3,.o 10 3,.par [1,5,6,11] (.alt 1 1 (.alt 5 1 (.alt 6 1 (.one 11 1 .fin) (.alt 11 1 (.one 6 1 .fin) .fin)) (.alt 11 1 (.one 5 1 (.one 6 1 .fin)) .fin)) (.alt 5 1 (.alt 1 1 (.alt 6 1 (.one 11 1 .fin) (.alt 11 1 (.one 6 1 .fin) .fin)) (.alt 11 1 (.one 1 1 (.one 6 1 .fin)) .fin)) (.alt 11 1 (.alt 1 1 (.one 5 1 (.one 6 1 .fin)) (.alt 5 1 (.one 1 1 (.one 6 1 .fin)) .fin)) .fin))),.o 12 1,.o 13 3,.o 14 3,.o 15 1])]⟩
def qiT (a0_k:(List ((List UInt8)×List UInt8))×Int) (a1_s:List UInt8) (a2_b:List UInt8) (Q:((List ((List UInt8)×List UInt8))×Int)→Prop):Prop:=
 ∃(x0:Int→Prop),∃(x1:Int→Nat),x0 (0:Int)∧∀(x2:Int),x0 x2→(Kd.int IntKind.i64).wf x2→(x2<(a0_k.fst.length:Int)→((0:Int)≤x2∧x2<(a0_k.fst.length:Int))∧((ix a0_k.fst x2).fst=a1_s→((0:Int)≤x2∧x2<(a0_k.fst.length:Int))∧((ix a0_k.fst x2).snd=a2_b→Q a0_k)∧(¬(ix a0_k.fst x2).snd=a2_b→x2<(9223372036854775807:Int)∧x0 (x2+(1:Int))∧x1 (x2+(1:Int))<x1 x2))∧(¬(ix a0_k.fst x2).fst=a1_s→x2<(9223372036854775807:Int)∧x0 (x2+(1:Int))∧x1 (x2+(1:Int))<x1 x2))∧(¬x2<(a0_k.fst.length:Int)→((((([]:List (List UInt8×List UInt8)).length+a0_k.fst.length) *(48:Nat)≤(140737488355328:Nat)∧((([]:List (List UInt8×List UInt8))++a0_k.fst).length+((a1_s,a2_b)::([]:List (List UInt8×List UInt8))).length) *(48:Nat)≤(140737488355328:Nat)∧Q (([]:List (List UInt8×List UInt8))++a0_k.fst++(a1_s,a2_b)::([]:List (List UInt8×List UInt8)),a0_k.snd))∧((([]:List (List UInt8×List UInt8)).length+a0_k.fst.length) *(48:Nat)≤(140737488355328:Nat)∧((([]:List (List UInt8×List UInt8))++a0_k.fst).length+((a1_s,a2_b)::([]:List (List UInt8×List UInt8))).length) *(48:Nat)≤(140737488355328:Nat)∧Q (([]:List (List UInt8×List UInt8))++a0_k.fst++(a1_s,a2_b)::([]:List (List UInt8×List UInt8)),a0_k.snd))∧True)∧((([]:List (List UInt8×List UInt8)).length+a0_k.fst.length) *(48:Nat)≤(140737488355328:Nat)∧((([]:List (List UInt8×List UInt8))++a0_k.fst).length+((a1_s,a2_b)::([]:List (List UInt8×List UInt8))).length) *(48:Nat)≤(140737488355328:Nat)∧Q (([]:List (List UInt8×List UInt8))++a0_k.fst++(a1_s,a2_b)::([]:List (List UInt8×List UInt8)),a0_k.snd))∧True)∧((((([]:List (List UInt8×List UInt8)).length+a0_k.fst.length) *(48:Nat)≤(140737488355328:Nat)∧((([]:List (List UInt8×List UInt8))++a0_k.fst).length+((a1_s,a2_b)::([]:List (List UInt8×List UInt8))).length) *(48:Nat)≤(140737488355328:Nat)∧Q (([]:List (List UInt8×List UInt8))++a0_k.fst++(a1_s,a2_b)::([]:List (List UInt8×List UInt8)),a0_k.snd))∧((([]:List (List UInt8×List UInt8)).length+a0_k.fst.length) *(48:Nat)≤(140737488355328:Nat)∧((([]:List (List UInt8×List UInt8))++a0_k.fst).length+((a1_s,a2_b)::([]:List (List UInt8×List UInt8))).length) *(48:Nat)≤(140737488355328:Nat)∧Q (([]:List (List UInt8×List UInt8))++a0_k.fst++(a1_s,a2_b)::([]:List (List UInt8×List UInt8)),a0_k.snd))∧True)∧((([]:List (List UInt8×List UInt8)).length+a0_k.fst.length) *(48:Nat)≤(140737488355328:Nat)∧((([]:List (List UInt8×List UInt8))++a0_k.fst).length+((a1_s,a2_b)::([]:List (List UInt8×List UInt8))).length) *(48:Nat)≤(140737488355328:Nat)∧Q (([]:List (List UInt8×List UInt8))++a0_k.fst++(a1_s,a2_b)::([]:List (List UInt8×List UInt8)),a0_k.snd))∧True)∧(((([]:List (List UInt8×List UInt8)).length+a0_k.fst.length) *(48:Nat)≤(140737488355328:Nat)∧((([]:List (List UInt8×List UInt8))++a0_k.fst).length+((a1_s,a2_b)::([]:List (List UInt8×List UInt8))).length) *(48:Nat)≤(140737488355328:Nat)∧Q (([]:List (List UInt8×List UInt8))++a0_k.fst++(a1_s,a2_b)::([]:List (List UInt8×List UInt8)),a0_k.snd))∧((([]:List (List UInt8×List UInt8)).length+a0_k.fst.length) *(48:Nat)≤(140737488355328:Nat)∧((([]:List (List UInt8×List UInt8))++a0_k.fst).length+((a1_s,a2_b)::([]:List (List UInt8×List UInt8))).length) *(48:Nat)≤(140737488355328:Nat)∧Q (([]:List (List UInt8×List UInt8))++a0_k.fst++(a1_s,a2_b)::([]:List (List UInt8×List UInt8)),a0_k.snd))∧True)∧True)
theorem qqW {a0_k:(List ((List UInt8)×List UInt8))×Int} {a1_s:List UInt8} {a2_b:List UInt8} (w_0:(Ty.kd (.pr (.sl (.pr (.arr 32 .byte) .str)) (.int .i64))).wf a0_k) (w_1:(Ty.kd (.arr 32 .byte)).wf a1_s) (w_2:(Ty.kd (.sl .byte)).wf a2_b) (hp:(a0_k.1.length+1) *64≤140737488355328∧a2_b.length≤140737488355328):qiT a0_k a1_s a2_b (fun o0=>o0=(addL a0_k.1 a1_s a2_b,a0_k.2)):=by
 unfold qiT
 refine ⟨fun i=> ∃j:Nat,i=(j:Int)∧j≤a0_k.1.length∧(a1_s,a2_b)∉a0_k.1.take j,fun i=>a0_k.1.length - i.toNat,⟨0,rfl,Nat.zero_le _,by simp⟩,?_⟩
 rintro _ ⟨j,rfl,hj,hn⟩ _
 have next: ∀h:(j:Int)<(a0_k.1.length:Int),¬ix a0_k.1 (j:Int)=(a1_s,a2_b)→(j:Int)<9223372036854775807∧(∃m:Nat,(j:Int)+1=(m:Int)∧m≤a0_k.1.length∧(a1_s,a2_b)∉a0_k.1.take m)∧a0_k.1.length - ((j:Int)+1).toNat<a0_k.1.length - (j:Int).toNat:=fun h hne=>by
  have hj':j<a0_k.1.length:=by omega
  refine ⟨by omega,⟨j+1,rfl,by omega,fun hm=>?_⟩,by omega⟩
  rw [List.take_add_one,List.getElem?_eq_getElem hj',Option.toList_some,List.mem_append,List.mem_singleton] at hm
  rcases hm with hm | hm
  ·exact hn hm
  ·exact hne ((ixN hj').trans hm.symm)
 refine ⟨fun hlt=>⟨⟨by omega,hlt⟩,fun h1=>⟨⟨by omega,hlt⟩,fun h2=>?_,fun h2=>next hlt fun e=>h2 (by rw [e])⟩,fun h1=>next hlt fun e=>h1 (by rw [e])⟩,fun hge=>?_⟩
 ·have hj':j<a0_k.1.length:=by omega
  have hin:(a1_s,a2_b)∈a0_k.1:=by
   rw [←h1,←h2,ixN hj']
   exact List.getElem_mem hj'
  show a0_k=(addL a0_k.1 a1_s a2_b,a0_k.2)
  rw [addL,if_pos hin]
 ·obtain rfl:j=a0_k.1.length:=by omega
  rw [List.take_length] at hn
  have e:a0_k.1++ [(a1_s,a2_b)]=addL a0_k.1 a1_s a2_b:=by rw [addL,if_neg hn]
  obtain ⟨hp1,hp2⟩:=hp
  have h1:a0_k.1.length *48≤140737488355328:=by omega
  have h2:(a0_k.1.length+1) *48≤140737488355328:=by omega
  simp only [List.nil_append,List.length_nil,List.length_cons,Nat.zero_add,e,h1,h2,and_self]
theorem qqV:(∀a,qfr.pre a→PM.wfP qfr.pm a (fvc qp0 200 101 qfr a (eqO qfr a)))=(∀a:((List ((List UInt8)×List UInt8))×Int)×(List UInt8)×(List UInt8)×Unit,(((a.1).1.length+1) *64≤140737488355328∧(a.2.2.1).length≤140737488355328)→(Ty.kd (.pr (.sl (.pr (.arr 32 .byte) .str)) (.int .i64))).wf a.1→(Ty.kd (.arr 32 .byte)).wf a.2.1→(Ty.kd (.sl .byte)).wf a.2.2.1→qiT a.1 a.2.1 a.2.2.1 (fun o0=>o0=(addL (a.1).1 (a.2.1) (a.2.2.1),(a.1).2))):=by kernel_rfl
theorem qp1:qfr.valid Try.prog 101:=qaB (X:=qp0) (qaY qas (fun b hb=>by cases hb;exact qaA) qaC trivial) 200 (qqV.mpr fun a hp w_0 w_1 w_2=> @qqW a.1 a.2.1 a.2.2.1 w_0 w_1 w_2 hp)
noncomputable def qgm:Ctr:=⟨[.bx (.pr (.sl (.pr (.arr 32 .byte) .str)) (.int .i64)) true,.v (.int .i64),.v (.sl (.sl .byte))],[.v (.arr 32 .byte)],some (fun a=>(fun (a0_k:(List ((List UInt8)×List UInt8))×Int) (a1_kind:Int) (a2_parts:List (List UInt8))=>(1+qah a2_parts≤70368744177664∧(a0_k.1.length+1) *64≤140737488355328:Prop)) a.1 a.2.1 a.2.2.1),fun a=>(fun (a0_k:(List ((List UInt8)×List UInt8))×Int) (a1_kind:Int) (a2_parts:List (List UInt8))=>(((qaj a1_kind a2_parts),()),((addL a0_k.1 (qaj a1_kind a2_parts) (preimage a1_kind a2_parts),IntKind.i64.wrap (a0_k.2+1)),()))) a.1 a.2.1 a.2.2.1⟩
noncomputable def qp3:Fx:=⟨seat,some bkT,fns,[(68,qk0),(103,qbd),(101,qfr)],[],[],[(2,[0],[.o 0 2,.o 1 2,.o 2 2,.o 3 2,.o 4 0,.o 5 1])]⟩
def qiV (a0_k:(List ((List UInt8)×List UInt8))×Int) (a1_kind:Int) (a2_parts:List (List UInt8)) (Q:(List UInt8)→((List ((List UInt8)×List UInt8))×Int)→Prop):Prop:=
 (1:Nat)+qah a2_parts≤(70368744177664:Nat)∧((Ty.arr (32:Nat) Ty.byte).kd.wf (qaj a1_kind a2_parts)→(1:Nat)+qah a2_parts≤(140737488355328:Nat)∧(Ty.byte.kd.sl.wf (preimage a1_kind a2_parts)→((a0_k.fst.length+(1:Nat)) *(64:Nat)≤(140737488355328:Nat)∧(preimage a1_kind a2_parts).length≤(140737488355328:Nat))∧Q (qaj a1_kind a2_parts) (addL a0_k.fst (qaj a1_kind a2_parts) (preimage a1_kind a2_parts),IntKind.i64.wrap (a0_k.snd+(1:Int)))))
theorem qq0 {a0_k:(List ((List UInt8)×List UInt8))×Int} {a1_kind:Int} {a2_parts:List (List UInt8)} (w_0:(Ty.kd (.pr (.sl (.pr (.arr 32 .byte) .str)) (.int .i64))).wf a0_k) (w_1:(Ty.kd (.int .i64)).wf a1_kind) (w_2:(Ty.kd (.sl (.sl .byte))).wf a2_parts) (hp:1+qah a2_parts≤70368744177664∧(a0_k.1.length+1) *64≤140737488355328):qiV a0_k a1_kind a2_parts (fun o0 o1=>o0=(qaj a1_kind a2_parts)∧o1=(addL a0_k.1 (qaj a1_kind a2_parts) (preimage a1_kind a2_parts),IntKind.i64.wrap (a0_k.2+1))):=by
 unfold qiV
 have h:=hp.1
 refine ⟨by omega,fun _=>⟨by omega,fun _=>⟨⟨hp.2,?_⟩,rfl,rfl⟩⟩⟩
 have:=qbw a1_kind (l:=a2_parts) (by omega)
 omega
theorem qqZ:(∀a,qgm.pre a→PM.wfP qgm.pm a (fvc qp3 200 102 qgm a (eqO qgm a)))=(∀a:((List ((List UInt8)×List UInt8))×Int)×Int×(List (List UInt8))×Unit,(1+qah (a.2.2.1)≤70368744177664∧((a.1).1.length+1) *64≤140737488355328)→(Ty.kd (.pr (.sl (.pr (.arr 32 .byte) .str)) (.int .i64))).wf a.1→(Ty.kd (.int .i64)).wf a.2.1→(Ty.kd (.sl (.sl .byte))).wf a.2.2.1→qiV a.1 a.2.1 a.2.2.1 (fun o0 o1=>o0=(qaj (a.2.1) (a.2.2.1))∧o1=(addL (a.1).1 (qaj (a.2.1) (a.2.2.1)) (preimage (a.2.1) (a.2.2.1)),IntKind.i64.wrap ((a.1).2+1)))):=by kernel_rfl
theorem qss:qgm.valid Try.prog 102:=qaB (X:=qp3) (qaY qas (fun b hb=>by cases hb;exact qaA) qaC ⟨qtV,qdG,qp1,trivial⟩) 200 (qqZ.mpr fun a hp w_0 w_1 w_2=> @qq0 a.1 a.2.1 a.2.2.1 w_0 w_1 w_2 hp)
def qeF:List UInt8:=[]
noncomputable def qdf:Ctr:=⟨[.bx (.pr (.sl (.pr (.arr 32 .byte) .str)) (.int .i64)) false,.v (.arr 32 .byte)],[.v .str,.v .bool],none,fun a=>(fun (a0_k:(List ((List UInt8)×List UInt8))×Int) (a1_s:List UInt8)=>(((qa3 a0_k.1 a1_s),(qan a1_s a0_k.1 0).isSome,()),(()))) a.1 a.2.1⟩
noncomputable def qjU:Fx:=⟨seat,some bkT,fns,[],[],[],[(4,[],[.o 0 2,.o 1 2,.o 2 2,.o 3 2,.o 4 2,.o 5 2,.o 6 2,.o 7 2,.o 8 2,.o 9 2])]⟩
def qfs (a0_k:(List ((List UInt8)×List UInt8))×Int) (a1_s:List UInt8) (Q:(List UInt8)→Bool→Prop):Prop:=
 ∃(x0:List UInt8→Bool→Int→Prop),∃(x1:List UInt8→Bool→Int→Nat),x0 qeF false (0:Int)∧∀(x2:List UInt8) (x3:Bool) (x4:Int),x0 x2 x3 x4→x2.length≤LM→(Kd.int IntKind.i64).wf x4→(x4<(a0_k.fst.length:Int)→((0:Int)≤x4∧x4<(a0_k.fst.length:Int))∧((ix a0_k.fst x4).fst=a1_s→((0:Int)≤x4∧x4<(a0_k.fst.length:Int))∧Q (ix a0_k.fst x4).snd true)∧(¬(ix a0_k.fst x4).fst=a1_s→x4<(9223372036854775807:Int)∧x0 x2 x3 (x4+(1:Int))∧x1 x2 x3 (x4+(1:Int))<x1 x2 x3 x4))∧(¬x4<(a0_k.fst.length:Int)→Q qeF false)
theorem ql5 {a0_k:(List ((List UInt8)×List UInt8))×Int} {a1_s:List UInt8} (w_0:(Ty.kd (.pr (.sl (.pr (.arr 32 .byte) .str)) (.int .i64))).wf a0_k) (w_1:(Ty.kd (.arr 32 .byte)).wf a1_s):qfs a0_k a1_s (fun o0 o1=>o0=(qa3 a0_k.1 a1_s)∧o1=(qan a1_s a0_k.1 0).isSome):=by
 unfold qfs
 refine ⟨fun _ _ i=> ∃j:Nat,i=(j:Int)∧j≤a0_k.1.length∧qan a1_s (a0_k.1.drop j) (j:Int)=qan a1_s a0_k.1 0,fun _ _ i=>a0_k.1.length - i.toNat,⟨0,rfl,Nat.zero_le _,rfl⟩,?_⟩
 have hL:a0_k.1.length≤LM:=w_0.1.1
 unfold LM at hL
 have dec: ∀j:Nat,(j:Int)<(a0_k.1.length:Int)→a0_k.1.length - ((j:Int)+1).toNat<a0_k.1.length - (j:Int).toNat:=fun j h=>by omega
 rintro _ _ _ ⟨j,rfl,hj,hf⟩ _ _
 refine ⟨fun hlt=>?_,fun hge=>?_⟩
 ·have hj':j<a0_k.1.length:=by omega
  rw [List.drop_eq_getElem_cons hj',qan] at hf
  rw [ixN hj']
  refine ⟨⟨by omega,hlt⟩,fun h=>⟨⟨by omega,hlt⟩,?_⟩,fun h=>⟨by omega,⟨j+1,rfl,by omega,?_⟩,dec j hlt⟩⟩
  ·rw [if_pos h.symm] at hf
   unfold qa3
   rw [←hf]
   exact ⟨congrArg Prod.snd (ixN hj').symm,rfl⟩
  ·rw [if_neg fun e=>h e.symm] at hf
   exact hf
 ·obtain rfl:j=a0_k.1.length:=by omega
  rw [List.drop_length] at hf
  unfold qa3
  rw [←hf]
  exact ⟨rfl,rfl⟩
theorem ql4:(∀a,qdf.pre a→PM.wfP qdf.pm a (fvc qjU 200 53 qdf a (eqO qdf a)))=(∀a:((List ((List UInt8)×List UInt8))×Int)×(List UInt8)×Unit,True→(Ty.kd (.pr (.sl (.pr (.arr 32 .byte) .str)) (.int .i64))).wf a.1→(Ty.kd (.arr 32 .byte)).wf a.2.1→qfs a.1 a.2.1 (fun o0 o1=>o0=(qa3 (a.1).1 (a.2.1))∧o1=(qan (a.2.1) (a.1).1 0).isSome)):=by kernel_rfl
theorem qoE:qdf.valid Try.prog 53:=qaB (X:=qjU) (qaY qas (fun b hb=>by cases hb;exact qaA) qaC trivial) 200 (ql4.mpr fun a hp w_0 w_1=> @ql5 a.1 a.2.1 w_0 w_1)
end Go.Proofs.Ytmjjkpiglbpkhaa

set_option linter.unusedVariables false
set_option maxRecDepth 100000
set_option maxHeartbeats 20000000
namespace Go.Proofs.Ytmjjkpiglbpkhaa
open Go Go.RowKit Go.Inc
noncomputable def qer:Ctr:=⟨[.bk 146 true,.bx (.pr (.sl (.pr (.arr 32 .byte) .str)) (.int .i64)) true,.v (.pr (.int .i64) (.pr (.int .i64) (.pr (.sl (.sl .byte)) (.pr (.arr 32 .byte) (.sl .byte)))))],[.v .bool],some (fun a=>(fun (a0_k:qav) (a1_r:(List ((List UInt8)×List UInt8))×Int) (a2_x:Int×Int×(List (List UInt8))×(List UInt8)×List UInt8)=>(a0_k=some a1_r∧1+qah a2_x.2.2.1≤1048576∧a2_x.2.2.2.2.length≤1048576∧(a1_r.1.length+1) *64≤140737488355328:Prop)) a.1 a.2.1 a.2.2.1),fun a=>(fun (a0_k:qav) (a1_r:(List ((List UInt8)×List UInt8))×Int) (a2_x:Int×Int×(List (List UInt8))×(List UInt8)×List UInt8)=>((true,()),((some (actB a2_x a1_r)),(actB a2_x a1_r),()))) a.1 a.2.1 a.2.2.1⟩
noncomputable def qmS:Fx:=⟨{ seat with rws:=[5,1000005,2000032,9000048] },some bkT,fns,[(56,qiP),(56,ql1),(101,qfr),(67,Of_C),(67,qsp),(98,qbF),(102,qgm),(103,qbd)],[],[(15,[4],[])],[(17,[],[.o 0 2,.o 1 2,.o 2 2,.o 3 2,.o 4 2,.o 5 2,.o 6 2,.o 7 2,.o 8 2,.o 9 2,.o 10 2,.o 11 2]),(20,[1],[.o 0 3,.o 1 2,.o 2 2,.o 3 2,.o 4 2,.o 5 2,.o 6 1,.o 7 3,.o 8 3,.o 9 3,.o 10 3,.o 11 3,.o 12 3,.o 13 3,.o 14 3,.o 15 1,.o 16 3,.o 17 3,.o 18 3,.o 19 3])]⟩
def qhh (a0_k:qav) (a1_r:(List ((List UInt8)×List UInt8))×Int) (a2_x:Int×Int×(List (List UInt8))×(List UInt8)×List UInt8) (Q:Bool→qav→((List ((List UInt8)×List UInt8))×Int)→Prop):Prop:=
 (band IntKind.i64 a2_x.fst (1:Int)=(1:Int)→(([]:List UInt8).length+a2_x.snd.snd.snd.snd.length) *(1:Nat)≤(140737488355328:Nat)∧((([]:List UInt8)++a2_x.snd.snd.snd.snd).length≤(140737488355328:Nat)∧qaZ a0_k)∧((a1_r.fst.length+(1:Nat)) *(64:Nat)≤(140737488355328:Nat)∧a2_x.snd.snd.snd.snd.length≤(140737488355328:Nat))∧Q true (qam a0_k a2_x.snd.snd.snd.fst (([]:List UInt8)++a2_x.snd.snd.snd.snd)) (addL a1_r.fst a2_x.snd.snd.snd.fst a2_x.snd.snd.snd.snd,a1_r.snd))∧(¬band IntKind.i64 a2_x.fst (1:Int)=(1:Int)→∃(x0:List (List UInt8)→Int→Prop),∃(x1:List (List UInt8)→Int→Nat),x0 ([]:List (List UInt8)) (0:Int)∧∀(x2:List (List UInt8)) (x3:Int),x0 x2 x3→Ty.byte.sl.kd.sl.wf x2→(Kd.int IntKind.i64).wf x3→(x3<(a2_x.snd.snd.fst.length:Int)→((0:Int)≤x3∧x3<(a2_x.snd.snd.fst.length:Int))∧(([]:List UInt8).length+(ix a2_x.snd.snd.fst x3).length) *(1:Nat)≤(140737488355328:Nat)∧(x2.length+((([]:List UInt8)++ix a2_x.snd.snd.fst x3)::([]:List (List UInt8))).length) *(24:Nat)≤(140737488355328:Nat)∧x3<(9223372036854775807:Int)∧x0 (x2++(([]:List UInt8)++ix a2_x.snd.snd.fst x3)::([]:List (List UInt8))) (x3+(1:Int))∧x1 (x2++(([]:List UInt8)++ix a2_x.snd.snd.fst x3)::([]:List (List UInt8))) (x3+(1:Int))<x1 x2 x3)∧(¬x3<(a2_x.snd.snd.fst.length:Int)→((1:Nat)+qah x2≤(140737488355328:Nat)∧qaZ a0_k)∧((Ty.arr (32:Nat) Ty.byte).kd.wf (qaj a2_x.snd.fst x2)→(1:Nat)+qah x2≤(140737488355328:Nat)∧(Ty.byte.kd.sl.wf (preimage a2_x.snd.fst x2)→∃(x10:Bool→Int→List (List UInt8)→Prop),∃(x11:Bool→Int→List (List UInt8)→Nat),x10 false (0:Int) x2∧∀(x12:Bool) (x13:Int) (x14:List (List UInt8)),x10 x12 x13 x14→(Kd.int IntKind.i64).wf x13→Ty.byte.sl.kd.sl.wf x14→(x13<(x14.length:Int)→((0:Int)≤x13∧x13<(x14.length:Int))∧((0:Int)≤x13∧x13<(a2_x.snd.snd.fst.length:Int))∧(ix x14 x13≠ix a2_x.snd.snd.fst x13→Q false (qaH a0_k a2_x.snd.fst x2) a1_r)∧(¬ix x14 x13≠ix a2_x.snd.snd.fst x13→((0:Int)≤x13∧x13<(x14.length:Int))∧x13<(9223372036854775807:Int)∧x10 x12 (x13+(1:Int)) (x14.set x13.toNat (List.replicate (ix x14 x13).length Ty.byte.kd.z))∧x11 x12 (x13+(1:Int)) (x14.set x13.toNat (List.replicate (ix x14 x13).length Ty.byte.kd.z))<x11 x12 x13 x14))∧(¬x13<(x14.length:Int)→((1:Nat)+qah a2_x.snd.snd.fst≤(70368744177664:Nat)∧(a1_r.fst.length+(1:Nat)) *(64:Nat)≤(140737488355328:Nat))∧((Ty.arr (32:Nat) Ty.byte).kd.wf (qaj a2_x.snd.fst a2_x.snd.snd.fst)→(qaj a2_x.snd.fst x2=qaj a2_x.snd.fst a2_x.snd.snd.fst→(1:Nat)+qah a2_x.snd.snd.fst≤(140737488355328:Nat)∧(Ty.byte.kd.sl.wf (preimage a2_x.snd.fst a2_x.snd.snd.fst)→Q (decide (preimage a2_x.snd.fst x2=preimage a2_x.snd.fst a2_x.snd.snd.fst)) (qaH a0_k a2_x.snd.fst x2) (addL a1_r.fst (qaj a2_x.snd.fst a2_x.snd.snd.fst) (preimage a2_x.snd.fst a2_x.snd.snd.fst),IntKind.i64.wrap (a1_r.snd+(1:Int)))))∧(¬qaj a2_x.snd.fst x2=qaj a2_x.snd.fst a2_x.snd.snd.fst→Q false (qaH a0_k a2_x.snd.fst x2) (addL a1_r.fst (qaj a2_x.snd.fst a2_x.snd.snd.fst) (preimage a2_x.snd.fst a2_x.snd.snd.fst),IntKind.i64.wrap (a1_r.snd+(1:Int))))))))))
theorem qo5 {a0_k:qav} {a1_r:(List ((List UInt8)×List UInt8))×Int} {a2_x:Int×Int×(List (List UInt8))×(List UInt8)×List UInt8} (w_0:(Ty.kd (.pr (.sl (.pr (.arr 32 .byte) .str)) (.int .i64))).wf a1_r) (w_1:(Ty.kd (.pr (.int .i64) (.pr (.int .i64) (.pr (.sl (.sl .byte)) (.pr (.arr 32 .byte) (.sl .byte)))))).wf a2_x) (hp:a0_k=some a1_r∧1+qah a2_x.2.2.1≤1048576∧a2_x.2.2.2.2.length≤1048576∧(a1_r.1.length+1) *64≤140737488355328):qhh a0_k a1_r a2_x (fun o0 o1 o2=>o0=true∧o1=(some (actB a2_x a1_r))∧o2=(actB a2_x a1_r)):=by
 obtain ⟨rfl,h1,h2,h3⟩:=hp
 have hr:qaZ (some a1_r):=fun y hy=>by cases hy;exact h3
 unfold qhh
 simp only [List.nil_append]
 refine ⟨fun hb=>⟨?_,⟨by omega,hr⟩,⟨h3,by omega⟩,trivial,?_,?_⟩,fun hb=>?_⟩
 ·simp only [List.length_nil]
  omega
 ·show some (addL _ _ _,_)=_
  rw [actB,if_pos hb]
 ·rw [actB,if_pos hb]
 have ea:actB a2_x a1_r=(addL a1_r.1 (qaj a2_x.2.1 a2_x.2.2.1) (preimage a2_x.2.1 a2_x.2.2.1),IntKind.i64.wrap (a1_r.2+1)):=by rw [actB,if_neg hb]
 generalize hP:a2_x.2.2.1=P at *
 have hlen: ∀n:Nat,n<P.length→(ix P (n:Int)).length≤1048576:=fun n hn=>by
  have:=qks (List.getElem_mem hn)
  rw [ixN hn]
  omega
 have hPl:P.length≤LM:=by
  have:=w_1.2.2.1.1
  rw [hP] at this
  exact this
 unfold LM at hPl
 refine ⟨fun o i=> ∃j:Nat,i=(j:Int)∧j≤P.length∧o=P.take j,fun _ i=>P.length - i.toNat,⟨0,rfl,Nat.zero_le _,rfl⟩,?_⟩
 have dec: ∀j:Nat,(j:Int)<(P.length:Int)→P.length - ((j:Int)+1).toNat<P.length - (j:Int).toNat:=fun j h=>by omega
 have hcnt:P.length≤qah P:=by
  have: ∀l:List (List UInt8),l.length≤qah l:=fun l=>by
   induction l with
   | nil=>exact Nat.zero_le _
   | cons a l ih=>simp only [qah,List.map_cons,List.sum_cons,List.length_cons] at*;omega
  exact this P
 rintro _ _ ⟨j,rfl,hj,rfl⟩ _ _
 refine ⟨fun hlt=>?_,fun hge=>?_⟩
 ·have hj':j<P.length:=by omega
  have:=hlen j hj'
  refine ⟨⟨by omega,hlt⟩,?_,?_,by omega,⟨j+1,rfl,by omega,?_⟩,dec j hlt⟩
  ·simp only [List.length_nil]
   omega
  ·simp only [List.length_take,List.length_cons,List.length_nil]
   omega
  ·rw [ixN hj',List.take_add_one,List.getElem?_eq_getElem hj']
   rfl
 ·obtain rfl:j=P.length:=by omega
  rw [List.take_length]
  refine ⟨⟨by omega,hr⟩,fun _=>⟨by omega,fun _=>?_⟩⟩
  refine ⟨fun _ i o=> ∃m:Nat,i=(m:Int)∧m≤P.length∧o.length=P.length∧∀n:Nat,m≤n→n<P.length→ix o (n:Int)=ix P (n:Int),fun _ i _=>P.length - i.toNat,⟨0,rfl,Nat.zero_le _,rfl,fun _ _ _=>rfl⟩,?_⟩
  rintro _ _ o ⟨m,rfl,hm,hol,ho⟩ _ _
  refine ⟨fun hlt=>⟨⟨by omega,hlt⟩,⟨by omega,by omega⟩,fun hne=>absurd (ho m (Nat.le_refl _) (by omega)) hne,fun _=>⟨⟨by omega,hlt⟩,by omega,⟨m+1,rfl,by omega,by rw [List.length_set];exact hol,fun n hn hn2=>?_⟩,dec m (by omega)⟩⟩,fun hge=>⟨⟨by omega,h3⟩,fun _=>⟨fun _=>⟨by omega,fun _=>⟨decide_eq_true rfl,?_,ea.symm⟩⟩,fun h=>absurd rfl h⟩⟩⟩
  ·rw [ixN (by rw [List.length_set];omega),List.getElem_set_ne (by omega),←ho n (by omega) hn2]
   exact (ixN _).symm
  ·rw [ea]
   rfl
theorem qo4:(∀a,qer.pre a→PM.wfP qer.pm a (fvc qmS 200 51 qer a (eqO qer a)))=(∀a:qav×((List ((List UInt8)×List UInt8))×Int)×(Int×Int×(List (List UInt8))×(List UInt8)×List UInt8)×Unit,((a.1)=some (a.2.1)∧1+qah (a.2.2.1).2.2.1≤1048576∧(a.2.2.1).2.2.2.2.length≤1048576∧((a.2.1).1.length+1) *64≤140737488355328)→(Ty.kd (.pr (.sl (.pr (.arr 32 .byte) .str)) (.int .i64))).wf a.2.1→(Ty.kd (.pr (.int .i64) (.pr (.int .i64) (.pr (.sl (.sl .byte)) (.pr (.arr 32 .byte) (.sl .byte)))))).wf a.2.2.1→qhh a.1 a.2.1 a.2.2.1 (fun o0 o1 o2=>o0=true∧o1=(some (actB (a.2.2.1) (a.2.1)))∧o2=(actB (a.2.2.1) (a.2.1)))):=by kernel_rfl
theorem qrg:qer.valid Try.prog 51:=qaB (X:=qmS) (qaY (qas.rows [5,1000005,2000032,9000048]) (fun b hb=>by cases hb;exact qaA) qaC ⟨ql0,qqT,qp1,Of_k,qtT,qem,qss,qdG,trivial⟩) 200 (qo4.mpr fun a hp w_0 w_1=> @qo5 a.1 a.2.1 a.2.2.1 w_0 w_1 hp)
noncomputable def qcz:Ctr:=⟨[.bk 146 false,.bx (.pr (.sl (.pr (.arr 32 .byte) .str)) (.int .i64)) false],[.v .bool],some (fun a=>(fun (a0_k:qav) (a1_r:(List ((List UInt8)×List UInt8))×Int)=>(a0_k=some a1_r∧qaU a0_k:Prop)) a.1 a.2.1),fun a=>(fun (a0_k:qav) (a1_r:(List ((List UInt8)×List UInt8))×Int)=>((true,()),(()))) a.1 a.2.1⟩
noncomputable def qiw:Fx:=⟨seat,some bkT,fns,[(100,qgg),(99,qgR),(52,qlP),(53,qdf)],[],[(5,[2],[])],[(2,[],[.o 0 2,.o 1 2,.o 2 2,.o 3 2,.o 4 2,.o 5 2,.o 6 2,.o 7 2,.o 8 2,.o 9 2,.o 11 2,.o 12 2,.o 13 2,.o 14 2,.o 10 0,.o 15 2,.o 16 2]),(9,[],[.o 0 2,.o 1 2,.o 2 2,.o 3 2,.o 4 2,.o 5 2,.o 6 2,.o 7 2,.o 8 2,.o 9 2,.o 10 2,.o 11 2,.o 12 2,.o 13 2,.o 14 2,.o 15 2,.o 16 2,.o 17 2,.o 18 2,.o 19 2,.o 20 2,.o 21 2,.o 22 2,.o 23 2,.o 24 2])]⟩
def qeE (a0_k:qav) (a1_r:(List ((List UInt8)×List UInt8))×Int) (Q:Bool→Prop):Prop:=
 qnc (Option.map (fun (x0:List Nt×Int)=>((x0.fst,()),x0.snd)) a0_k)∧(Ty.byte.sl.kd.sl.wf (allF (Option.map (fun (x0:List Nt×Int)=>((x0.fst,()),x0.snd)) a0_k))→(((allF (Option.map (fun (x0:List Nt×Int)=>((x0.fst,()),x0.snd)) a0_k)).length:Int)≠(a1_r.fst.length:Int)→Q false)∧(¬((allF (Option.map (fun (x0:List Nt×Int)=>((x0.fst,()),x0.snd)) a0_k)).length:Int)≠(a1_r.fst.length:Int)→(Ty.int IntKind.i64).kd.wf (qbr a0_k)→(qbr a0_k≠a1_r.snd→Q false)∧(¬qbr a0_k≠a1_r.snd→∃(x0:Bool→Int→List (List UInt8)→Prop),∃(x1:Bool→Int→List (List UInt8)→Nat),x0 false (0:Int) (allF (Option.map (fun (x2:List Nt×Int)=>((x2.fst,()),x2.snd)) a0_k))∧∀(x2:Bool) (x3:Int) (x4:List (List UInt8)),x0 x2 x3 x4→(Kd.int IntKind.i64).wf x3→Ty.byte.sl.kd.sl.wf x4→(x3<(x4.length:Int)→((0:Int)≤x3∧x3<(a1_r.fst.length:Int))∧qaU a0_k∧(Ty.byte.kd.sl.wf (qby a0_k (ix a1_r.fst x3).fst)→((0:Int)≤x3∧x3<(a1_r.fst.length:Int))∧(Ty.str.kd.wf (qa3 a1_r.fst (ix a1_r.fst x3).fst)→((0:Int)≤x3∧x3<(x4.length:Int))∧((0:Int)≤x3∧x3<(a1_r.fst.length:Int))∧(ix x4 x3≠(ix a1_r.fst x3).snd→Q false)∧(¬ix x4 x3≠(ix a1_r.fst x3).snd→(qby a0_k (ix a1_r.fst x3).fst≠qa3 a1_r.fst (ix a1_r.fst x3).fst→Q false)∧(¬qby a0_k (ix a1_r.fst x3).fst≠qa3 a1_r.fst (ix a1_r.fst x3).fst→(qcE a0_k (ix a1_r.fst x3).fst≠(qan (ix a1_r.fst x3).fst a1_r.fst (0:Int)).isSome→Q false)∧(¬qcE a0_k (ix a1_r.fst x3).fst≠(qan (ix a1_r.fst x3).fst a1_r.fst (0:Int)).isSome→((0:Int)≤x3∧x3<(x4.length:Int))∧x3<(9223372036854775807:Int)∧x0 x2 (x3+(1:Int)) (x4.set x3.toNat (List.replicate (ix x4 x3).length Ty.byte.kd.z))∧x1 x2 (x3+(1:Int)) (x4.set x3.toNat (List.replicate (ix x4 x3).length Ty.byte.kd.z))<x1 x2 x3 x4))))))∧(¬x3<(x4.length:Int)→Q true))))
theorem qlq {a0_k:qav} {a1_r:(List ((List UInt8)×List UInt8))×Int} (w_0:(Ty.kd (.pr (.sl (.pr (.arr 32 .byte) .str)) (.int .i64))).wf a1_r) (hp:a0_k=some a1_r∧qaU a0_k):qeE a0_k a1_r (fun o0=>o0=true):=by
 obtain ⟨rfl,hf⟩:=hp
 have e:allF (Option.map (fun x:List Nt×Int=>((x.1,()),x.2)) (some a1_r))=a1_r.1.map Prod.snd:=rfl
 unfold qeE
 refine ⟨qnd hf,?_⟩
 rw [e]
 refine fun _=>⟨fun h=>absurd (by rw [List.length_map]) h,fun _ _=>⟨fun h=>absurd rfl h,fun _=>?_⟩⟩
 refine ⟨fun _ i o=> ∃m:Nat,i=(m:Int)∧m≤a1_r.1.length∧o.length=a1_r.1.length∧∀n:Nat,m≤n→n<a1_r.1.length→ix o (n:Int)=(ix a1_r.1 (n:Int)).2,fun _ i _=>a1_r.1.length - i.toNat,⟨0,rfl,Nat.zero_le _,List.length_map _,fun n _ hn=>?_⟩,?_⟩
 ·rw [ixN (by rw [List.length_map];exact hn),ixN hn,List.getElem_map]
 have hL:a1_r.1.length≤LM:=w_0.1.1
 unfold LM at hL
 have dec: ∀j:Nat,j<a1_r.1.length→a1_r.1.length - ((j:Int)+1).toNat<a1_r.1.length - (j:Int).toNat:=fun j h=>by omega
 rintro _ _ o ⟨m,rfl,hm,hol,ho⟩ _ _
 refine ⟨fun hlt=>⟨⟨by omega,by omega⟩,hf,fun _=>⟨⟨by omega,by omega⟩,fun _=>⟨⟨by omega,hlt⟩,⟨by omega,by omega⟩,fun h=>absurd (ho m (Nat.le_refl _) (by omega)) h,fun _=>⟨fun h=>absurd rfl h,fun _=>⟨fun h=>absurd rfl h,fun _=>⟨⟨by omega,hlt⟩,by omega,⟨m+1,rfl,by omega,by rw [List.length_set];exact hol,fun n hn hn2=>?_⟩,dec m (by omega)⟩⟩⟩⟩⟩⟩,fun _=>rfl⟩
 rw [ixN (by rw [List.length_set];omega),List.getElem_set_ne (by omega),←ho n (by omega) hn2]
 exact (ixN _).symm
theorem qlp:(∀a,qcz.pre a→PM.wfP qcz.pm a (fvc qiw 200 54 qcz a (eqO qcz a)))=(∀a:qav×((List ((List UInt8)×List UInt8))×Int)×Unit,((a.1)=some (a.2.1)∧qaU (a.1))→(Ty.kd (.pr (.sl (.pr (.arr 32 .byte) .str)) (.int .i64))).wf a.2.1→qeE a.1 a.2.1 (fun o0=>o0=true)):=by kernel_rfl
theorem qnS:qcz.valid Try.prog 54:=qaB (X:=qiw) (qaY qas (fun b hb=>by cases hb;exact qaA) qaC ⟨qr6,qjJ,qqI,qoE,trivial⟩) 200 (qlp.mpr fun a hp w_0=> @qlq a.1 a.2.1 w_0 hp)
noncomputable def qdh:Ctr:=⟨[.v (.sl (.pr (.arr 32 .byte) .str))],[.v .str,.v .str,.v .bool],none,fun a=>(fun (a0_l:List ((List UInt8)×List UInt8))=>(((qaM [] a0_l).1,(qaM [] a0_l).2.1,(qaM [] a0_l).2.2,()),(()))) a.1⟩
noncomputable def qjW:Fx:=⟨seat,some bkT,fns,[],[],[],[(7,[],[.o 0 2,.o 1 2,.o 2 2,.o 3 2,.o 4 2,.o 5 2,.o 6 2,.o 7 2,.o 8 2,.o 9 2,.o 10 2]),(8,[],[.o 0 2,.o 1 2,.o 2 2,.o 3 2,.o 4 2,.o 5 2,.o 6 2,.o 7 2,.o 8 2,.o 9 2,.o 10 2]),(9,[],[.o 0 2,.o 1 2,.o 2 2,.o 3 2,.o 4 2,.o 5 2,.o 6 2,.o 7 2,.o 8 2,.o 9 2,.o 10 2,.o 11 2,.o 12 2])]⟩
def qfu (a0_l:List ((List UInt8)×List UInt8)) (Q:(List UInt8)→(List UInt8)→Bool→Prop):Prop:=
 ∃(x0:List UInt8→List UInt8→Bool→Int→Prop),∃(x1:List UInt8→List UInt8→Bool→Int→Nat),x0 qeF qeF false (0:Int)∧∀(x2 x3:List UInt8) (x4:Bool) (x5:Int),x0 x2 x3 x4 x5→x2.length≤LM→x3.length≤LM→(Kd.int IntKind.i64).wf x5→(x5<(a0_l.length:Int)→∃(x11:List UInt8→List UInt8→Bool→Int→Prop),∃(x12:List UInt8→List UInt8→Bool→Int→Nat),x11 x2 x3 x4 (0:Int)∧∀(x13 x14:List UInt8) (x15:Bool) (x16:Int),x11 x13 x14 x15 x16→x13.length≤LM→x14.length≤LM→(Kd.int IntKind.i64).wf x16→(x16<x5→((0:Int)≤x16∧x16<(a0_l.length:Int))∧((0:Int)≤x5∧x5<(a0_l.length:Int))∧((ix a0_l x16).fst=(ix a0_l x5).fst→((0:Int)≤x16∧x16<(a0_l.length:Int))∧((0:Int)≤x5∧x5<(a0_l.length:Int))∧((ix a0_l x16).snd≠(ix a0_l x5).snd→((0:Int)≤x16∧x16<(a0_l.length:Int))∧((0:Int)≤x5∧x5<(a0_l.length:Int))∧Q (ix a0_l x16).snd (ix a0_l x5).snd true)∧(¬(ix a0_l x16).snd≠(ix a0_l x5).snd→x5<(9223372036854775807:Int)∧x0 x13 x14 x15 (x5+(1:Int))∧x1 x13 x14 x15 (x5+(1:Int))<x1 x2 x3 x4 x5))∧(¬(ix a0_l x16).fst=(ix a0_l x5).fst→x16<(9223372036854775807:Int)∧x11 x13 x14 x15 (x16+(1:Int))∧x12 x13 x14 x15 (x16+(1:Int))<x12 x13 x14 x15 x16))∧(¬x16<x5→x5<(9223372036854775807:Int)∧x0 x13 x14 x15 (x5+(1:Int))∧x1 x13 x14 x15 (x5+(1:Int))<x1 x2 x3 x4 x5))∧(¬x5<(a0_l.length:Int)→Q qeF qeF false)
theorem ql9 {a0_l:List ((List UInt8)×List UInt8)} (w_0:(Ty.kd (.sl (.pr (.arr 32 .byte) .str))).wf a0_l):qfu a0_l (fun o0 o1 o2=>o0=(qaM [] a0_l).1∧o1=(qaM [] a0_l).2.1∧o2=(qaM [] a0_l).2.2):=by
 unfold qfu
 have hL:a0_l.length≤LM:=w_0.1
 unfold LM at hL
 have dec: ∀j n:Nat,j<n→n - ((j:Int)+1).toNat<n - (j:Int).toNat:=fun j n h=>by omega
 refine ⟨fun _ _ _ i=> ∃n:Nat,i=(n:Int)∧n≤a0_l.length∧qeN (a0_l.take n) (a0_l.drop n)=qaM [] a0_l,fun _ _ _ i=>a0_l.length - i.toNat,⟨0,rfl,Nat.zero_le _,qk6 a0_l⟩,?_⟩
 rintro _ _ _ _ ⟨n,rfl,hn,hc⟩ _ _ _
 refine ⟨fun hlt=>?_,fun hge=>?_⟩
 ·have hn':n<a0_l.length:=by omega
  rw [List.drop_eq_getElem_cons hn',qeN] at hc
  have next:qeN (a0_l.take n++ [a0_l[n]]) (a0_l.drop (n+1))=qaM [] a0_l→(n:Int)<9223372036854775807∧(∃m:Nat,(n:Int)+1=(m:Int)∧m≤a0_l.length∧qeN (a0_l.take m) (a0_l.drop m)=qaM [] a0_l)∧a0_l.length - ((n:Int)+1).toNat<a0_l.length - (n:Int).toNat:=fun h=>by
   refine ⟨by omega,⟨n+1,rfl,by omega,?_⟩,by omega⟩
   rw [List.take_add_one,List.getElem?_eq_getElem hn']
   exact h
  refine ⟨fun _ _ _ i=> ∃k:Nat,i=(k:Int)∧k≤n∧qan a0_l[n].1 ((a0_l.take n).drop k) (k:Int)=qan a0_l[n].1 (a0_l.take n) 0,fun _ _ _ i=>n - i.toNat,⟨0,rfl,Nat.zero_le _,rfl⟩,?_⟩
  rintro _ _ _ _ ⟨k,rfl,hk,hf⟩ _ _ _
  have htl:(a0_l.take n).length=n:=by rw [List.length_take];omega
  rw [ixN hn']
  refine ⟨fun hl2=>?_,fun hg2=>?_⟩
  ·have hk':k<n:=by omega
   have hk2:k<(a0_l.take n).length:=by omega
   rw [List.drop_eq_getElem_cons hk2,List.getElem_take,qan] at hf
   rw [ixN (by omega:k<a0_l.length)]
   refine ⟨⟨by omega,by omega⟩,⟨by omega,hlt⟩,fun hs=>?_,fun hs=>⟨by omega,⟨k+1,rfl,by omega,?_⟩,dec k n hk'⟩⟩
   ·rw [if_pos hs.symm] at hf
    have hna:qa3 (a0_l.take n) a0_l[n].1=a0_l[k].2:=by
     unfold qa3
     rw [←hf]
     show (ix (a0_l.take n) (k:Int)).2=_
     rw [ixN hk2,List.getElem_take]
    rw [←hf,hna] at hc
    refine ⟨⟨by omega,by omega⟩,⟨by omega,hlt⟩,fun hne=>⟨⟨by omega,by omega⟩,⟨by omega,hlt⟩,?_⟩,fun he=>?_⟩
    ·rw [if_pos ⟨rfl,hne⟩] at hc
     rw [←hc]
     exact ⟨rfl,rfl,rfl⟩
    ·rw [if_neg fun h=>he h.2] at hc
     exact next hc
   ·rw [if_neg fun h=>hs h.symm] at hf
    exact hf
  ·obtain rfl:k=n:=by omega
   rw [List.drop_eq_nil_of_le (by omega)] at hf
   rw [←hf,if_neg fun h=>by cases h.1] at hc
   exact next hc
 ·obtain rfl:n=a0_l.length:=by omega
  rw [List.drop_length] at hc
  rw [←hc]
  exact ⟨rfl,rfl,rfl⟩
theorem ql8:(∀a,qdh.pre a→PM.wfP qdh.pm a (fvc qjW 200 55 qdh a (eqO qdh a)))=(∀a:(List ((List UInt8)×List UInt8))×Unit,True→(Ty.kd (.sl (.pr (.arr 32 .byte) .str))).wf a.1→qfu a.1 (fun o0 o1 o2=>o0=(qaM [] (a.1)).1∧o1=(qaM [] (a.1)).2.1∧o2=(qaM [] (a.1)).2.2)):=by kernel_rfl
theorem qoG:qdh.valid Try.prog 55:=qaB (X:=qjW) (qaY qas (fun b hb=>by cases hb;exact qaA) qaC trivial) 200 (ql8.mpr fun a hp w_0=> @ql9 a.1 w_0)
end Go.Proofs.Ytmjjkpiglbpkhaa

set_option linter.unusedVariables false
set_option maxRecDepth 100000
set_option maxHeartbeats 20000000
namespace Go.Proofs.Ytmjjkpiglbpkhaa
open Go Go.RowKit Go.Inc
noncomputable def qbx:Ctr:=⟨[.v (.sl (.pr (.int .i64) (.pr (.int .i64) (.pr (.sl (.sl .byte)) (.pr (.arr 32 .byte) (.sl .byte)))))),.v (.sl (.pr (.int .i64) (.pr (.int .i64) (.pr (.sl (.sl .byte)) (.pr (.arr 32 .byte) (.sl .byte))))))],[.v .bool],some (fun a=>(fun (a0_l:List (Int×Int×(List (List UInt8))×(List UInt8)×List UInt8)) (a1_m:List (Int×Int×(List (List UInt8))×(List UInt8)×List UInt8))=>(a0_l.length≤1048576∧a1_m.length≤1048576:Prop)) a.1 a.2.1),fun a=>(fun (a0_l:List (Int×Int×(List (List UInt8))×(List UInt8)×List UInt8)) (a1_m:List (Int×Int×(List (List UInt8))×(List UInt8)×List UInt8))=>((true,()),(()))) a.1 a.2.1⟩
noncomputable def qd0:Fx:=⟨{ seat with rws:=[7000063] },some bkT,fns,[(49,qeA),(50,qdj),(51,qer),(36,qjK),(55,qdh),(54,qcz)],[],[(6,[3,5],[]),(11,[4,6],[])],[(16,[],[.o 1 3,.o 2 3,.o 3 3,.o 4 3,.o 6 3,.o 7 3,.o 8 3,.o 9 3,.o 0 1,.o 5 1,.o 10 1,.o 11 1,.o 12 3,.o 13 3,.o 14 3,.o 15 3,.o 16 3,.o 17 3,.o 18 3])]⟩
def qcj (a0_l:List (Int×Int×(List (List UInt8))×(List UInt8)×List UInt8)) (a1_m:List (Int×Int×(List (List UInt8))×(List UInt8)×List UInt8)) (Q:Bool→Prop):Prop:=
 (([]:List (Int×Int×List (List UInt8)×List UInt8×List UInt8)).length+a0_l.length) *(96:Nat)≤(140737488355328:Nat)∧((([]:List (Int×Int×List (List UInt8)×List UInt8×List UInt8))++a0_l).length+a1_m.length) *(96:Nat)≤(140737488355328:Nat)∧((decide ¬light (([]:List (Int×Int×List (List UInt8)×List UInt8×List UInt8))++a0_l++a1_m))=true→Q true)∧((decide ¬light (([]:List (Int×Int×List (List UInt8)×List UInt8×List UInt8))++a0_l++a1_m))=false→∃(x0:Bool→Int→qav→List (List UInt8×List UInt8)×Int→Prop),∃(x1:Bool→Int→qav→List (List UInt8×List UInt8)×Int→Nat),x0 false (0:Int) (some (([]:List Nt),(0:Int))) (((Ty.arr (32:Nat) Ty.byte).pr Ty.str).sl.pr (Ty.int IntKind.i64)).kd.z∧∀(x2:Bool) (x3:Int) (x4:qav) (x5:List (List UInt8×List UInt8)×Int),x0 x2 x3 x4 x5→(Kd.int IntKind.i64).wf x3→(((Ty.arr (32:Nat) Ty.byte).pr Ty.str).sl.pr (Ty.int IntKind.i64)).kd.wf x5→(x3<(a0_l.length:Int)→((0:Int)≤x3∧x3<(a0_l.length:Int))∧(x4=some x5∧(1:Nat)+qah (ix a0_l x3).snd.snd.fst≤(1048576:Nat)∧(ix a0_l x3).snd.snd.snd.snd.length≤(1048576:Nat)∧(x5.fst.length+(1:Nat)) *(64:Nat)≤(140737488355328:Nat))∧(¬true=true→Q false)∧(true=true→x3<(9223372036854775807:Int)∧x0 x2 (x3+(1:Int)) (some (actB (ix a0_l x3) x5)) (actB (ix a0_l x3) x5)∧x1 x2 (x3+(1:Int)) (some (actB (ix a0_l x3) x5)) (actB (ix a0_l x3) x5)<x1 x2 x3 x4 x5))∧(¬x3<(a0_l.length:Int)→∃(x10:Bool→Int→qav→List (List UInt8×List UInt8)×Int→Prop),∃(x11:Bool→Int→qav→List (List UInt8×List UInt8)×Int→Nat),x10 x2 (0:Int) (some (([]:List Nt),(0:Int))) (((Ty.arr (32:Nat) Ty.byte).pr Ty.str).sl.pr (Ty.int IntKind.i64)).kd.z∧∀(x12:Bool) (x13:Int) (x14:qav) (x15:List (List UInt8×List UInt8)×Int),x10 x12 x13 x14 x15→(Kd.int IntKind.i64).wf x13→(((Ty.arr (32:Nat) Ty.byte).pr Ty.str).sl.pr (Ty.int IntKind.i64)).kd.wf x15→(x13<(a1_m.length:Int)→((0:Int)≤x13∧x13<(a1_m.length:Int))∧(x14=some x15∧(1:Nat)+qah (ix a1_m x13).snd.snd.fst≤(1048576:Nat)∧(ix a1_m x13).snd.snd.snd.snd.length≤(1048576:Nat)∧(x15.fst.length+(1:Nat)) *(64:Nat)≤(140737488355328:Nat))∧(¬true=true→Q false)∧(true=true→x13<(9223372036854775807:Int)∧x10 x12 (x13+(1:Int)) (some (actB (ix a1_m x13) x15)) (actB (ix a1_m x13) x15)∧x11 x12 (x13+(1:Int)) (some (actB (ix a1_m x13) x15)) (actB (ix a1_m x13) x15)<x11 x12 x13 x14 x15))∧(¬x13<(a1_m.length:Int)→qcF (Option.map (fun (x20:List Nt×Int)=>((x20.fst,()),x20.snd)) x4::(none:Option ((List (List UInt8×List UInt8)×Unit)×Int))::Option.map (fun (x20:List Nt×Int)=>((x20.fst,()),x20.snd)) x14::([]:List (Option ((List (List UInt8×List UInt8)×Unit)×Int))))∧(Ty.byte.kd.sl.wf (qaK (Option.map (fun (x20:List Nt×Int)=>((x20.fst,()),x20.snd)) x4::(none:Option ((List (List UInt8×List UInt8)×Unit)×Int))::Option.map (fun (x20:List Nt×Int)=>((x20.fst,()),x20.snd)) x14::([]:List (Option ((List (List UInt8×List UInt8)×Unit)×Int))))).fst→Ty.byte.kd.sl.wf (qaK (Option.map (fun (x21:List Nt×Int)=>((x21.fst,()),x21.snd)) x4::(none:Option ((List (List UInt8×List UInt8)×Unit)×Int))::Option.map (fun (x21:List Nt×Int)=>((x21.fst,()),x21.snd)) x14::([]:List (Option ((List (List UInt8×List UInt8)×Unit)×Int))))).snd.fst→(([]:List (List UInt8×List UInt8)).length+x5.fst.length) *(48:Nat)≤(140737488355328:Nat)∧((([]:List (List UInt8×List UInt8))++x5.fst).length+x15.fst.length) *(48:Nat)≤(140737488355328:Nat)∧(Ty.str.kd.wf (qaM ([]:List Nt) (([]:List (List UInt8×List UInt8))++x5.fst++x15.fst)).fst→Ty.str.kd.wf (qaM ([]:List Nt) (([]:List (List UInt8×List UInt8))++x5.fst++x15.fst)).snd.fst→((qaK (Option.map (fun (x24:List Nt×Int)=>((x24.fst,()),x24.snd)) x4::(none:Option ((List (List UInt8×List UInt8)×Unit)×Int))::Option.map (fun (x24:List Nt×Int)=>((x24.fst,()),x24.snd)) x14::([]:List (Option ((List (List UInt8×List UInt8)×Unit)×Int))))).fst≠(qaM ([]:List Nt) (([]:List (List UInt8×List UInt8))++x5.fst++x15.fst)).fst→Q false)∧(¬(qaK (Option.map (fun (x24:List Nt×Int)=>((x24.fst,()),x24.snd)) x4::(none:Option ((List (List UInt8×List UInt8)×Unit)×Int))::Option.map (fun (x24:List Nt×Int)=>((x24.fst,()),x24.snd)) x14::([]:List (Option ((List (List UInt8×List UInt8)×Unit)×Int))))).fst≠(qaM ([]:List Nt) (([]:List (List UInt8×List UInt8))++x5.fst++x15.fst)).fst→((qaK (Option.map (fun (x25:List Nt×Int)=>((x25.fst,()),x25.snd)) x4::(none:Option ((List (List UInt8×List UInt8)×Unit)×Int))::Option.map (fun (x25:List Nt×Int)=>((x25.fst,()),x25.snd)) x14::([]:List (Option ((List (List UInt8×List UInt8)×Unit)×Int))))).snd.fst≠(qaM ([]:List Nt) (([]:List (List UInt8×List UInt8))++x5.fst++x15.fst)).snd.fst→Q false)∧(¬(qaK (Option.map (fun (x25:List Nt×Int)=>((x25.fst,()),x25.snd)) x4::(none:Option ((List (List UInt8×List UInt8)×Unit)×Int))::Option.map (fun (x25:List Nt×Int)=>((x25.fst,()),x25.snd)) x14::([]:List (Option ((List (List UInt8×List UInt8)×Unit)×Int))))).snd.fst≠(qaM ([]:List Nt) (([]:List (List UInt8×List UInt8))++x5.fst++x15.fst)).snd.fst→((qaK (Option.map (fun (x26:List Nt×Int)=>((x26.fst,()),x26.snd)) x4::(none:Option ((List (List UInt8×List UInt8)×Unit)×Int))::Option.map (fun (x26:List Nt×Int)=>((x26.fst,()),x26.snd)) x14::([]:List (Option ((List (List UInt8×List UInt8)×Unit)×Int))))).snd.snd≠(qaM ([]:List Nt) (([]:List (List UInt8×List UInt8))++x5.fst++x15.fst)).snd.snd→Q false)∧(¬(qaK (Option.map (fun (x26:List Nt×Int)=>((x26.fst,()),x26.snd)) x4::(none:Option ((List (List UInt8×List UInt8)×Unit)×Int))::Option.map (fun (x26:List Nt×Int)=>((x26.fst,()),x26.snd)) x14::([]:List (Option ((List (List UInt8×List UInt8)×Unit)×Int))))).snd.snd≠(qaM ([]:List Nt) (([]:List (List UInt8×List UInt8))++x5.fst++x15.fst)).snd.snd→(x4=some x5∧qaU x4)∧(true=true→(x14=some x15∧qaU x14)∧(true=true→Q true)∧(true=false→Q false))∧(true=false→Q false)))))))))
theorem qf7 {a0_l:List (Int×Int×(List (List UInt8))×(List UInt8)×List UInt8)} {a1_m:List (Int×Int×(List (List UInt8))×(List UInt8)×List UInt8)} (w_0:(Ty.kd (.sl (.pr (.int .i64) (.pr (.int .i64) (.pr (.sl (.sl .byte)) (.pr (.arr 32 .byte) (.sl .byte))))))).wf a0_l) (w_1:(Ty.kd (.sl (.pr (.int .i64) (.pr (.int .i64) (.pr (.sl (.sl .byte)) (.pr (.arr 32 .byte) (.sl .byte))))))).wf a1_m) (hp:a0_l.length≤1048576∧a1_m.length≤1048576):qcj a0_l a1_m (fun o0=>o0=true):=by
 obtain ⟨hp1,hp2⟩:=hp
 unfold qcj
 refine ⟨?_,?_,fun _=>rfl,fun hl=>?_⟩
 ·simp only [List.length_nil]
  omega
 ·simp only [List.nil_append]
  omega
 have hl:light (a0_l++a1_m):=Decidable.not_not.1 (of_decide_eq_false hl)
 have h200:a0_l.length+a1_m.length≤200:=by
  have:=hl.1
  rwa [List.length_append] at this
 have dec: ∀j n:Nat,j<n→n - ((j:Int)+1).toNat<n - (j:Int).toNat:=fun j n h=>by omega
 have step: ∀(a:Inc.Act) (y:List Nt×Int) (j:Nat),a∈a0_l++a1_m→j≤200→y.1.length≤j→(∀z∈y.1,z.2.length≤1048576)→(1+qah a.2.2.1≤1048576∧a.2.2.2.2.length≤1048576∧(y.1.length+1) *64≤140737488355328)∧(actB a y).1.length≤j+1∧∀z∈(actB a y).1,z.2.length≤1048576:=fun a y j ha hj hy hz=>by
  have hr:=qlj hl ha
  have hpre:=qbw a.2.1 (l:=a.2.2.1) (by omega)
  refine ⟨⟨by omega,by omega,by omega⟩,Nat.le_trans (qoN a y) (by omega),fun z h=>?_⟩
  rw [actB] at h
  split at h
  ·rcases qe2 h with h | h
   ·exact hz z h
   ·rw [h]
    show a.2.2.2.2.length≤1048576
    omega
  ·rcases qe2 h with h | h
   ·exact hz z h
   ·rw [h]
    show (preimage _ _).length≤1048576
    omega
 have fits: ∀y:List Nt×Int,y.1.length≤200→(∀z∈y.1,z.2.length≤1048576)→qaU (some y):=fun y hy hz y' e=>by
  cases e
  exact ⟨by omega,fun z h=>Nat.le_trans (hz z h) (by omega)⟩
 refine ⟨fun _ i x y=>x=some y∧∃j:Nat,i=(j:Int)∧j≤a0_l.length∧y.1.length≤j∧∀z∈y.1,z.2.length≤1048576,fun _ i _ _=>a0_l.length - i.toNat,⟨rfl,0,rfl,Nat.zero_le _,Nat.le_refl _,fun z hz=>by cases hz⟩,?_⟩
 rintro _ _ _ y ⟨rfl,j,rfl,hj,hy,hz⟩ _ _
 refine ⟨fun hlt=>?_,fun hge=>?_⟩
 ·have hj':j<a0_l.length:=by omega
  rw [ixN hj']
  obtain ⟨s1,s2,s3⟩:=step a0_l[j] y j (List.mem_append.2 (.inl (List.getElem_mem hj'))) (by omega) hy hz
  exact ⟨⟨by omega,hlt⟩,⟨rfl,s1⟩,fun h=>absurd rfl h,fun _=>⟨by omega,⟨rfl,j+1,rfl,by omega,s2,s3⟩,dec j _ hj'⟩⟩
 have fy:=fits y (by omega) hz
 refine ⟨fun _ i x y=>x=some y∧∃j:Nat,i=(j:Int)∧j≤a1_m.length∧y.1.length≤j∧∀z∈y.1,z.2.length≤1048576,fun _ i _ _=>a1_m.length - i.toNat,⟨rfl,0,rfl,Nat.zero_le _,Nat.le_refl _,fun z hz=>by cases hz⟩,?_⟩
 rintro _ _ _ v ⟨rfl,i,rfl,hi,hv,hw⟩ _ _
 refine ⟨fun hlt=>?_,fun hge=>?_⟩
 ·have hi':i<a1_m.length:=by omega
  rw [ixN hi']
  obtain ⟨s1,s2,s3⟩:=step a1_m[i] v i (List.mem_append.2 (.inr (List.getElem_mem hi'))) (by omega) hv hw
  exact ⟨⟨by omega,hlt⟩,⟨rfl,s1⟩,fun h=>absurd rfl h,fun _=>⟨by omega,⟨rfl,i+1,rfl,by omega,s2,s3⟩,dec i _ hi'⟩⟩
 have fv:=fits v (by omega) hw
 have hN:qaX (Option.map (fun x:List Nt×Int=>((x.1,()),x.2)) (some y)::none::Option.map (fun x:List Nt×Int=>((x.1,()),x.2)) (some v):: [])=y.1++v.1:=by simp [qaX]
 have hC:qaK (Option.map (fun x:List Nt×Int=>((x.1,()),x.2)) (some y)::none::Option.map (fun x:List Nt×Int=>((x.1,()),x.2)) (some v):: [])=qaM [] ([]++y.1++v.1):=by
  unfold qaK
  rw [hN,List.nil_append]
 refine ⟨⟨?_,?_⟩,?_⟩
 ·rw [hN,List.length_append]
  omega
 ·rw [hN]
  intro z h
  rcases List.mem_append.1 h with h | h
  ·exact Nat.le_trans (hz z h) (by omega)
  ·exact Nat.le_trans (hw z h) (by omega)
 rw [hC]
 refine fun _ _=>⟨?_,?_,fun _ _=>⟨fun h=>absurd rfl h,fun _=>⟨fun h=>absurd rfl h,fun _=>⟨fun h=>absurd rfl h,fun _=>⟨⟨rfl,fy⟩,fun _=>⟨⟨rfl,fv⟩,fun _=>rfl,fun h=>(by cases h)⟩,fun h=>(by cases h)⟩⟩⟩⟩⟩
 ·simp only [List.length_nil]
  omega
 ·simp only [List.nil_append]
  omega
theorem qf6:(∀a,qbx.pre a→PM.wfP qbx.pm a (fvc qd0 200 12 qbx a (eqO qbx a)))=(∀a:(List (Int×Int×(List (List UInt8))×(List UInt8)×List UInt8))×(List (Int×Int×(List (List UInt8))×(List UInt8)×List UInt8))×Unit,((a.1).length≤1048576∧(a.2.1).length≤1048576)→(Ty.kd (.sl (.pr (.int .i64) (.pr (.int .i64) (.pr (.sl (.sl .byte)) (.pr (.arr 32 .byte) (.sl .byte))))))).wf a.1→(Ty.kd (.sl (.pr (.int .i64) (.pr (.int .i64) (.pr (.sl (.sl .byte)) (.pr (.arr 32 .byte) (.sl .byte))))))).wf a.2.1→qcj a.1 a.2.1 (fun o0=>o0=true)):=by kernel_rfl
theorem qg4:qbx.valid Try.prog 12:=qaB (X:=qd0) (qaY (qas.rows [7000063]) (fun b hb=>by cases hb;exact qaA) qaC ⟨qrs,qoR,qrg,qom,qoG,qnS,trivial⟩) 200 (qf6.mpr fun a hp w_0 w_1=> @qf7 a.1 a.2.1 w_0 w_1 hp)
end Go.Proofs.Ytmjjkpiglbpkhaa

set_option linter.unusedVariables false
namespace Go.Proofs.Ytmjjkpiglbpkhaa
open Go Go.RowKit Go.Inc Go.ChangeShapes Go.WideShapes Go.ChangeAt
theorem qtu {H:Type} (d:DataW H):1≤Rows.uptoBulk d:=by
 cases d with
 | lit l=>cases l<;>simp [Rows.uptoBulk]
 | nil=>simp [Rows.uptoBulk]
 | ptr d=>simp [Rows.uptoBulk]
 | slice elems spare=>simp [Rows.uptoBulk]
 | agg parts=>simp [Rows.uptoBulk]
 | iface t d=>simp [Rows.uptoBulk]
 | map entries=>simp [Rows.uptoBulk]
 | held h=>simp [Rows.uptoBulk]
theorem qjt {H:Type} {d:DataW H} {l:List (DataW H)} (h:d∈l):Rows.uptoBulk d≤Rows.uptoBulkAll l:=by
 induction l with
 | nil=>cases h
 | cons x r ih=>
   simp only [Rows.uptoBulkAll]
   cases List.mem_cons.1 h with
   | inl e=>subst e;omega
   | inr e=>have:=ih e;omega
theorem qig {H:Type} (l:List (DataW H)):l.length≤Rows.uptoBulkAll l:=by
 induction l with
 | nil=>simp [Rows.uptoBulkAll]
 | cons x r ih=>have:=qtu x;simp only [Rows.uptoBulkAll,List.length_cons];omega
theorem qpF {H:Type} {l:List (DataW H)} (hk:Rows.uptoSmall H l=true):Rows.uptoBulkAll l≤1048576:=by
 simpa [Rows.uptoSmall] using hk
def qdY (w:World):Ghost:=fun b=>match w.heap[b]? with
 | some (.cells c t _)=>some (t,c.toList)
 | _=>none
theorem Models.ofW (w:World):Models w (qdY w):=fun b t l h=>by
 unfold qdY at h
 split at h
 ·rename_i c t' fr hh
  cases h
  exact ⟨c,fr,hh,List.prefix_refl _⟩
 ·cases h
section
variable {P:Program} {α β:Type} {k:Kd α} {k':Kd β} {t e:TypeId} {by_:Nat} {S:α→Prop} {S':β→Prop}
def sm0 {α:Type}:α→Prop:=fun _=>True
def smL {α:Type} (S:α→Prop):List α→Prop:=fun l=>l.length≤1048576∧∀x∈l,S x
def smP {α β:Type} (S:α→Prop) (T:β→Prop):α×β→Prop:=fun x=>S x.1∧T x.2
def Rds (P:Program) (t:TypeId) (k:Kd α) (S:α→Prop):Prop:=∀(H:Type) (enc:TypeId×Value→H) (w:World) (base:Nat) (held:Bool) (fuel:Nat) (cs:List Value) (x:DataW H×List MemPlace),
 DataW.trod enc P w base (fun _=>true) held fuel t cs=some x→Rows.uptoBulk x.1≤1048576→∃a,k.R (qdY w) a cs∧S a
theorem qbX (h:TyOk P t k by_):P.cellsOf t=k.sz:=by
 obtain ⟨i,z,hi,hs,_⟩:=h.info
 simp [Program.cellsOf,hi,hs]
theorem qrJ {ik:IntKind} (ht:P.underlying t=some (.int ik)):Rds P t (Kd.int ik) sm0:=fun H enc w base held fuel cs x h hb=>by
 obtain ⟨n,rfl,_,hw⟩:=DataW.trod_int ht h
 refine ⟨n,⟨rfl,?_⟩,trivial⟩
 simpa [Lit.wf] using hw
theorem qpz (ht:P.underlying t=some (.int .u8)):Rds P t Kd.byte sm0:=fun H enc w base held fuel cs x h hb=>by
 obtain ⟨n,rfl,_,hw⟩:=DataW.trod_int ht h
 have hw:0≤n∧n≤255:=by simpa [Lit.wf,IntKind.min,IntKind.max,IntKind.signed,IntKind.bits] using hw
 refine ⟨UInt8.ofNat n.toNat,?_,trivial⟩
 show [Value.int .u8 n]=[.int .u8 _]
 congr 2
 have:(UInt8.ofNat n.toNat).toNat=n.toNat:=by simp;omega
 omega
theorem qfK {w:World} {base n:Nat} {a:Addr} {cs:List Value} (h:w.cells? base a n=some cs) (hn:0<n):
 a.spot=none∧∃e l,qdY w a.block=some (e,l)∧a.off+n≤l.length∧(l.drop a.off).take n=cs:=by
 unfold World.cells? at h
 split at h
 case isFalse=>cases h
 case isTrue hb=>
 have hl:=mapM_some_length h
 have hg:=fun i (hi:i<n)=>mapM_some_get h i i (by simp [hi])
 have h0:=hg 0 hn
 have hc0:0<cs.length:=by rw [hl];simpa using hn
 rw [List.getElem?_eq_getElem hc0] at h0
 unfold World.cell? at h0
 have ea: ∀i,(a.add i).block=a.block:=fun i=>by unfold Addr.add;split<;>rfl
 have eo: ∀i,(a.add i).off=a.off+i:=fun i=>by unfold Addr.add;split<;>simp_all
 have ha0:a.add 0=a:=by simp [Addr.add]
 rw [ha0] at h0
 cases hh:w.heap[a.block]? with
 | none=>rw [hh] at h0;cases h0
 | some o=>
   rw [hh] at h0
   cases o with
   | cells c e fr=>
     simp only at h0
     split at h0
     ·cases h0
     ·rename_i hs
      have hs:a.spot=none:=by simpa using hs
      refine ⟨hs,e,c.toList,by simp [qdY,hh],?_⟩
      have hgc: ∀i,i<n→c[a.off+i]?=cs[i]?:=fun i hi=>by
       have:=hg i hi
       unfold World.cell? at this
       rw [ea,eo,hh] at this
       have hs':(a.add i).spot.isSome=false:=by unfold Addr.add;split<;>simp_all
       simpa [hs'] using this
      have hlen:cs.length=n:=by rw [hl];simp
      have hbound:a.off+n≤c.toList.length:=by
       have h1:=hgc (n - 1) (by omega)
       rw [List.getElem?_eq_getElem (by omega)] at h1
       have:=(Array.getElem?_eq_some_iff.1 h1).1
       simp only [Array.length_toList]
       omega
      refine ⟨hbound,?_⟩
      apply List.ext_getElem?
      intro i
      rcases Nat.lt_or_ge i n with hi | hi
      ·rw [List.getElem?_take,if_pos hi,List.getElem?_drop,←hgc i hi]
       simp
      ·rw [List.getElem?_take,if_neg (by omega),List.getElem?_eq_none (by omega)]
   | _=>simp at h0
theorem qiW {R:α→List Value→Prop}: ∀(n:Nat) (f:Nat→List Value),(∀i,i<n→∃a,R a (f i)∧S a)→∃l,l.length=n∧RL R l ((List.range n).map f).flatten∧∀x∈l,S x
 | 0,f,_=>⟨[],rfl,by simp [RL],by simp⟩
 | n+1,f,h=>by
   obtain ⟨l,hl,hR,hS⟩:=qiW n f (fun i hi=>h i (by omega))
   obtain ⟨a,ha,hs⟩:=h n (by omega)
   refine ⟨l++ [a],by simp [hl],?_,fun x hx=>(List.mem_append.1 hx).elim (hS x) (fun h=>by rw [List.mem_singleton.1 h];exact hs)⟩
   rw [List.range_succ]
   simp only [List.map_append,List.map_cons,List.map_nil,List.flatten_append,List.flatten_cons,List.flatten_nil,List.append_nil]
   exact RL.append hR (RL.single ha)
theorem qeD (s:Nat): ∀(n:Nat) (l:List Value),n *s≤l.length→((List.range n).map fun i=>(l.drop (i *s)).take s).flatten=l.take (n *s)
 | 0,l,_=>by simp
 | n+1,l,h=>by
   have e:(n+1) *s=n *s+s:=Nat.succ_mul n s
   rw [List.range_succ]
   simp only [List.map_append,List.map_cons,List.map_nil,List.flatten_append,List.flatten_cons,List.flatten_nil,List.append_nil]
   rw [qeD s n l (by omega),e,List.take_add]
theorem qnI (ht:P.underlying t=some (.slice e)) (hT:TyOk P e k by_) (h0:Nat.blt 0 k.sz=true) (hR:Rds P e k S):Rds P t (Kd.sl k) (smL S):=fun H enc w base held fuel cs x h hb=>by
 have h0:0<k.sz:=Nat.le_of_ble_eq_true h0
 rcases DataW.trod_slice ht h with ⟨rfl,rfl⟩ | ⟨a,len,cap,elems,rest,n,_,rfl,rfl,hbs,hl,hm,hlen,hel,_,_⟩
 ·exact ⟨[],⟨none,0,rfl,by simp,by simp [LM],by simp,.inl rfl⟩,by simp,by simp⟩
 ·rw [qbX hT] at hel
  have hbulk:elems.length≤1048576:=by
   have:=qig (elems.map (·.1))
   simp only [Rows.uptoBulk,List.length_map] at hb this
   omega
  have hparts: ∀i,i<len→∃cs' y,w.cells? base (a.add (i *k.sz)) k.sz=some cs'∧DataW.trod enc P w base (fun _=>true) held n e cs'=some y∧Rows.uptoBulk y.1≤1048576:=fun i hi=>by
   have h1:=hel i hi
   rw [List.getElem?_eq_getElem (by omega)] at h1
   obtain ⟨cs',h2,h3⟩:=Option.bind_eq_some_iff.1 h1
   refine ⟨cs',_,h2,h3,?_⟩
   have:=qjt (l:=elems.map (·.1)) (d:=(elems[i]'(by omega)).1) (List.mem_map.2 ⟨_,List.getElem_mem _,rfl⟩)
   simp only [Rows.uptoBulk] at hb
   omega
  rcases Nat.eq_zero_or_pos len with hz | hp
  ·exact ⟨[],⟨some a,cap,by simp [hz],by simp,by simp [LM],by simp,.inl rfl⟩,by simp,by simp⟩
  ·obtain ⟨cs0,y0,hc0,_,_⟩:=hparts 0 hp
   rw [Nat.zero_mul,show a.add 0=a by simp [Addr.add]] at hc0
   obtain ⟨hs,e',l,hg,_,_⟩:=qfK hc0 h0
   have ea:a=⟨a.block,a.off,none⟩:=by cases a;simp_all
   have key: ∀i,i<len→a.off+i *k.sz+k.sz≤l.length∧w.cells? base (a.add (i *k.sz)) k.sz=some (((l.drop a.off).drop (i *k.sz)).take k.sz):=fun i hi=>by
    obtain ⟨cs',y,hc,_,_⟩:=hparts i hi
    obtain ⟨_,e2,l2,hg2,hle,htk⟩:=qfK hc h0
    rw [ea,qbe] at hg2 hle htk
    simp only at hg2 hle htk
    rw [hg] at hg2
    cases hg2
    refine ⟨hle,?_⟩
    rw [hc,List.drop_drop,←htk]
   have hlast:=(key (len - 1) (by omega)).1
   have hall:a.off+len *k.sz≤l.length:=by
    have:len *k.sz=(len - 1) *k.sz+k.sz:=by
     conv=>lhs;rw [show len=(len - 1)+1 by omega]
     exact Nat.succ_mul _ _
    omega
   obtain ⟨xs,hxl,hxR,hxS⟩:=qiW (S:=S) (R:=k.R (qdY w)) len (fun i=>((l.drop a.off).drop (i *k.sz)).take k.sz) (fun i hi=>by
    obtain ⟨cs',y,hc,ht',hb'⟩:=hparts i hi
    rw [(key i hi).2] at hc
    cases hc
    exact hR _ _ _ _ _ _ _ _ ht' hb')
   rw [qeD k.sz len (l.drop a.off) (by rw [List.length_drop];omega)] at hxR
   refine ⟨xs,⟨some a,cap,by rw [hxl],by omega,by simp only [LM];omega,fun x hx=>?_,.inr ⟨a.block,e',l.take a.off,(l.drop a.off).take (len *k.sz),(l.drop a.off).drop (len *k.sz),?_,?_,hxR⟩⟩,by omega,hxS⟩
   ·exact RL.all (p:=k.wf) (fun _ _=>k.hwf) hxR x hx
   ·rw [List.length_take,Nat.min_eq_left (by omega)]
    exact congrArg some ea
   ·rw [hg,List.append_assoc,List.take_append_drop,List.take_append_drop]
theorem qrI {n by_':Nat} (ht:P.underlying t=some (.array n e)) (hT:TyOk P e k by_) (hT':TyOk P t (Kd.arr n k) by_') (hR:Rds P e k S):Rds P t (Kd.arr n k) (smL S):=fun H enc w base held fuel cs x h hb=>by
 obtain ⟨xs,m,_,rfl,hlen,hxl,hx⟩:=DataW.trod_array ht h
 rw [qbX hT] at hx
 rw [qbX hT'] at hlen
 have hlen:cs.length=n *k.sz:=hlen
 obtain ⟨l,hl,hlR,hlS⟩:=qiW (S:=S) (R:=k.R (qdY w)) n (fun i=>(cs.drop (i *k.sz)).take k.sz) (fun i hi=>by
  have h1:=hx i hi
  rw [List.getElem?_eq_getElem (by omega)] at h1
  refine hR _ _ _ _ _ _ _ _ h1 ?_
  have:=qjt (l:=xs.map (·.1)) (d:=(xs[i]'(by omega)).1) (List.mem_map.2 ⟨_,List.getElem_mem _,rfl⟩)
  simp only [Rows.uptoBulk] at hb
  omega)
 rw [qeD k.sz n cs (by omega),List.take_of_length_le (by omega)] at hlR
 have hbulk:xs.length≤1048576:=by
  have:=qig (xs.map (·.1))
  simp only [Rows.uptoBulk,List.length_map] at hb this
  omega
 exact ⟨l,⟨hl,hlR⟩,by omega,hlS⟩
def RdsF (P:Program) (fs:List Field) (off:Nat) (k:Kd α) (S:α→Prop):Prop:=∀(H:Type) (enc:TypeId×Value→H) (w:World) (base:Nat) (held:Bool) (fuel:Nat) (cs:List Value),
 (∀f∈fs,∃x:DataW H×List MemPlace,DataW.trod enc P w base (fun _=>true) held fuel f.type ((cs.drop f.offset).take (P.cellsOf f.type))=some x∧Rows.uptoBulk x.1≤1048576)→∃a,k.R (qdY w) a ((cs.drop off).take k.sz)∧S a
theorem qpy {f:Field} {off:Nat} (hT:TyOk P f.type k by_) (ho:Nat.beq f.offset off=true) (hR:Rds P f.type k S):RdsF P [f] off k S:=fun H enc w base held fuel cs h=>by
 obtain ⟨x,h1,h2⟩:=h f (.head _)
 rw [Nat.eq_of_beq_eq_true ho,qbX hT] at h1
 exact hR _ _ _ _ _ _ _ _ h1 h2
theorem qeb {fs:List Field} {f:Field} {off:Nat} (hT:TyOk P f.type k by_) (ho:Nat.beq f.offset off=true) (hR:Rds P f.type k S) (hF:RdsF P fs (off+k.sz) k' S'):RdsF P (f::fs) off (Kd.pr k k') (smP S S'):=fun H enc w base held fuel cs h=>by
 obtain ⟨b,hb,hbS⟩:=hF H enc w base held fuel cs (fun f hf=>h f (.tail _ hf))
 obtain ⟨x,h1,h2⟩:=h f (.head _)
 rw [Nat.eq_of_beq_eq_true ho,qbX hT] at h1
 obtain ⟨a,ha,haS⟩:=hR _ _ _ _ _ _ _ _ h1 h2
 refine ⟨(a,b),⟨_,_,?_,ha,hb⟩,haS,hbS⟩
 show (cs.drop off).take (k.sz+k'.sz)=_
 rw [List.take_add,List.drop_drop]
theorem qlh {fs:Array Field} (ht:P.underlying t=some (.struct fs)) (hT:TyOk P t k by_) (hF:RdsF P fs.toList 0 k S):Rds P t k S:=fun H enc w base held fuel cs x h hb=>by
 obtain ⟨xs,n,_,rfl,hlen,hxl,hx⟩:=DataW.trod_struct ht h
 rw [qbX hT] at hlen
 obtain ⟨a,ha,haS⟩:=hF H enc w base held n cs (fun f hf=>by
  obtain ⟨i,hi,rfl⟩:=List.getElem_of_mem hf
  have hi':i<fs.size:=by simpa using hi
  have h1:=hx i fs[i] (by simp [hi'])
  rw [List.getElem?_eq_getElem (by omega)] at h1
  refine ⟨xs[i]'(by omega),by simpa using h1,?_⟩
  have:=qjt (l:=xs.map (·.1)) (d:=(xs[i]'(by omega)).1) (List.mem_map.2 ⟨_,List.getElem_mem _,rfl⟩)
  simp only [Rows.uptoBulk] at hb
  omega)
 rw [List.drop_zero,List.take_of_length_le (by omega)] at ha
 exact ⟨a,ha,haS⟩
theorem qkv {H:Type} {enc:TypeId×Value→H} {w:World} {r:Reach} {b0 base:Nat} {held:Bool} {v:Value} {d:DataW H} {ps:List MemPlace} (hR:Rds P t k S) (hT:TyOk P t k by_)
 (hval:Value.okWide P w r b0 t v) (h:DataW.Trod enc P w base (fun _=>true) held t v d ps) (hb:Rows.uptoBulk d≤1048576): ∃a,k.V (qdY w) a v∧S a:=by
 obtain ⟨fuel,h⟩:=h
 obtain ⟨a,ha,haS⟩:=hR _ _ _ _ _ _ _ _ h hb
 refine ⟨a,⟨v.cells.toList,ha,?_⟩,haS⟩
 obtain ⟨dd,hd,hagg⟩:=hT.desc
 unfold Value.okWide at hval
 rw [hd] at hval
 cases hk:k.agg with
 | true=>
   rw [hk] at hagg
   have: ∃cs,v= .agg cs:=by
    cases dd<;>first | (cases hagg;done) | (obtain ⟨cs,rfl,_⟩:=hval;exact ⟨cs,rfl⟩)
   obtain ⟨cs,rfl⟩:=this
   simp [Value.cells]
 | false=>
   have hlen:=k.len ha
   rw [k.hs hk] at hlen
   have hna: ∀cs,v≠ .agg cs:=fun cs e=>by
    subst e
    rw [hk] at hagg
    cases dd<;>first | (cases hagg;done) | (simp [Cell.okWide,hd,Cell.ok] at hval)
   cases v<;>first | rfl | exact absurd rfl (hna _)
end
section
variable {H:Type} {enc:TypeId×Value→H} {P:Program}
theorem qoS {w w':World} {K K':Ghost} (h:Ext NX w K w' K'):Below w.heap.size w w':=⟨h.os,h.tape,h.output,h.size,fun b hb=>h.heap b hb (fun x=>x)⟩
theorem qeS {W W':World} {sp:Nat→Bool} (hl:laidOutB P=true) (hb:Below W.heap.size W W'): ∀ {ts:List TypeId} {vs:List Value} {ds:List (DataW H)} {ps:List MemPlace},
 (ts.all fun t=>P.readableRec t && decide (t<P.types.size))=true→DataW.TrodAll enc P W 0 (fun _=>true) true ts vs ds ps→(∀p∈ps,p.block<W.heap.size)→(∀p∈ps,sp p.block=true)→DataW.TrodAll enc P W' 0 sp true ts vs ds ps
 | [],[],[],ps,_,h,_,_=>h
 | t::ts,v::vs,d::ds,ps,hr,⟨p,q,h1,h2,e⟩,hlt,hs=>by
   subst e
   simp only [List.all_cons,Bool.and_eq_true,decide_eq_true_eq] at hr
   exact ⟨p,q,WideElems.Trod_stays hl hr.1.1 hr.1.2 h1 (fun x hx=>hb.same (hlt x (List.mem_append.2 (.inl hx)))) (fun x hx=>hs x (List.mem_append.2 (.inl hx))),
    qeS hl hb (ts:=ts) hr.2 h2 (fun x hx=>hlt x (List.mem_append.2 (.inr hx))) (fun x hx=>hs x (List.mem_append.2 (.inr hx))),rfl⟩
 | [],_::_,_,_,_,h,_,_=>h.elim
 | [],[],_::_,_,_,h,_,_=>h.elim
 | _::_,[],_,_,_,h,_,_=>h.elim
 | _::_,_::_,[],_,_,h,_,_=>h.elim
theorem qnD {f:Func} {s:ChangeSpec} {apart fresh handsOn again:Bool} {W W':World} {args:Array Value} {ds gs:List (DataW H)} {before:List MemPlace} {tb:TypeId}
 (hW:DataW.Whole enc P f.params.toList s.vars apart W args.toList ds gs before) (hl:laidOutB P=true) (hr:(f.params.toList.all fun t=>P.readableRec t && decide (t<P.types.size))=true)
 (hrt:f.resultTypes= #[tb]) (htb:P.underlying tb=some .bool) (hs:s.vars=[]) (hv:(s.fn H (ds++gs)).vars=[]) (hres:(s.fn H (ds++gs)).results=[.lit (.bool true)]) (hargs:(s.fn H (ds++gs)).args=ds)
 (hb:Below W.heap.size W W'):s.post enc P f apart fresh handsOn again W args (.bool true) W':=by
 have hlt: ∀p∈before,p.block<W.heap.size:=fun p hp=>hW.lt p hp
 have hW':=hW
 obtain ⟨p,q,hA,hV,e,hz,hn⟩:=hW'
 rw [hs] at hV
 have hq:q=[]∧gs=[]:=by
  cases gs with
  | nil=>exact ⟨hV,rfl⟩
  | cons g r=>exact hV.elim
 obtain ⟨rfl,rfl⟩:=hq
 rw [List.append_nil] at e
 subst e
 have ht: ∀(b:Nat) (sp:Nat→Bool) (hd:Bool),DataW.TrodAll enc P W' b sp hd f.resultTypes.toList ((Value.bool true).resultList f.resultTypes.size) (s.fn H (ds++ [])).results []:=fun b sp hd=>by
  rw [hres,hrt]
  exact ⟨[],[],shut_bool htb _,rfl,rfl⟩
 have ha: ∀sp:Nat→Bool,(∀p∈before,sp p.block=true)→DataW.TrodAll enc P W' 0 sp true f.params.toList args.toList (s.fn H (ds++ [])).args before:=fun sp hsp=>by
  rw [hargs]
  exact qeS hl hb hr hA hlt hsp
 have hvs: ∀sp:Nat→Bool,DataW.TrodVars enc P W' sp s.vars (s.fn H (ds++ [])).vars []:=fun sp=>by
  rw [hs,hv]
  rfl
 have hold: ∀p∈before,(fun b=>decide (b<W.heap.size)) p.block=true:=fun p hp=>by simpa using hlt p hp
 refine ⟨ds,[],before,[],before,[],hW,ht _ _ _,ha _ hold,hvs _,World.keptBut_mono (fun p hp=>⟨hp,?_⟩) (hb.frame (· ∈before)),fun _=>?_⟩
 ·exact Or.inr (by simpa using hp)
 ·refine ⟨?_,_,_,([]++before)++ [],⟨[]++before,[],trodAll_append (ha _ (fun _ _=>rfl)) (ht _ _ _),hvs _,rfl,?_,?_⟩,?_⟩
  ·exact ok_one hrt rfl (okWide_bool_mk htb _)
  ·intro b off hp
   have hin:MemPlace.cell b off∈before:=by simpa using hp
   rw [hb.frozen (hlt _ hin)]
   exact hz b off hin
  ·intro hap
   simpa using hn hap
  ·intro p hp _
   simpa using hp
end
end Go.Proofs.Ytmjjkpiglbpkhaa
