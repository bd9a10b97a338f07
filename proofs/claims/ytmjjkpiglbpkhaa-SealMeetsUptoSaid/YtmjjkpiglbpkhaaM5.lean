/- G2, K3, K7, P25, S4, P7. -/
import Derived.Test.YtmjjkpiglbpkhaaM4
import Derived.Test.YtmjjkpiglbpkhaaChecked
import Derived.Test.YtmjjkpiglbpkhaaRows
import Derived.WalkKit
import Derived.ProofKit
import Derived.OpenShut
import Derived.JoinedCond
import Derived.Carry
set_option linter.unusedVariables false
set_option maxRecDepth 100000
set_option maxHeartbeats 2000000
namespace Go.Proofs.Ytmjjkpiglbpkhaa
open Go Go.RowKit Go.Inc
theorem ty3:TyOk Try.prog 3 (Kd.int .i64) 8:=⟨⟨Try.t3,_,Try.type3,rfl,rfl,rfl,rfl,rfl⟩,⟨_,Try.underlying3,rfl⟩⟩
abbrev qab:Kd (List UInt8):=(Kd.arr 32 Kd.byte)
abbrev qae:Kd ((List UInt8)×(List UInt8)):=(Kd.pr qab qah)
theorem ty24:TyOk Try.prog 24 qab 32:=⟨⟨Try.t24,_,Try.type24,rfl,rfl,rfl,rfl,rfl⟩,⟨_,Try.underlying24,rfl⟩⟩
def qeV (a0_x:((List UInt8)×(List UInt8))) (a1_x:(List UInt8)) (a2_x:(List UInt8)) (Q:Bool→Prop):Prop:=
 Q (decide ((a0_x.1=a1_x)∧(a0_x.2=a2_x)))
theorem qkR {a0_x:((List UInt8)×(List UInt8))} {a1_x:(List UInt8)} {a2_x:(List UInt8)} (w_0:qae.wf a0_x) (w_1:qab.wf a1_x) (w_2:qah.wf a2_x):qeV a0_x a1_x a2_x (fun o0=>o0=decide (a0_x.1=a1_x∧a0_x.2=a2_x)):=by
 show decide _=decide _
 simp
theorem qhW {w0:World} {K0:Ghost} {a0_x_v:Value} {a0_x:((List UInt8)×(List UInt8))} {a1_x_b:Nat} {a1_x_pre a1_x_post:List Value} {a1_x:(List UInt8)} {a2_x_b:Nat} {a2_x_pre a2_x_post:List Value} {a2_x:(List UInt8)} {Q:Bool→Prop} (hM0:Models w0 K0) (h_a0_x:qae.V K0 a0_x a0_x_v) (h_a1_x_B:Bx qab w0 K0 a1_x_b a1_x_pre a1_x_post a1_x) (h_a2_x_B:Bx qah w0 K0 a2_x_b a2_x_pre a2_x_post a2_x) (hsp2_3: ¬(a1_x_b=a2_x_b)) (h:qeV a0_x a1_x a2_x Q):Calls Try.prog 133 #[a0_x_v,(.pointer (some ⟨a1_x_b,a1_x_pre.length,none⟩)),(.pointer (some ⟨a2_x_b,a2_x_pre.length,none⟩))] w0 (fun e w'=> ∃(K':Ghost) (r0:Value) (o0:Bool),e= .returned r0∧Q o0∧Ext NX w0 K0 w' K'∧Models w' K'∧Kd.bool.V K' o0 r0):=by
 unfold qeV at h
 have hE0:Ext NX w0 K0 w0 K0:=Ext.refl _ _ _
 refine qay fun R hR=>?_
 refine qax (args:=[a0_x_v,(.pointer (some ⟨a1_x_b,a1_x_pre.length,none⟩)),(.pointer (some ⟨a2_x_b,a2_x_pre.length,none⟩))]) Try.func133 rfl (Nat.le_of_ble_eq_true rfl) ?_
 refine qaf ?_
 refine qac ?_
 refine qaw rfl rfl (St_B (qei hM0 rfl h_a0_x) ?_)
 rintro b4 w4 (hB4:Bx qae _ _ _ _ _ a0_x) hS4 hM4 hge4
 have hE4:=hE0.andN hS4
 refine qaa (.bool false) (R_as rfl) rfl rfl ?_
 refine qaj ?_
 refine qaf ?_
 refine qm3 (K:=K0) NX [.o 0 2,.o 1 2,.o 2 2,.o 3 2,.o 4 2,.o 5 2,.o 6 2,.o 7 2,.o 8 0,.o 9 2,.o 10 2] (by kernel_rfl) hM4 ?_
 refine qag (.pointer (some ⟨b4,0+0,none⟩)) rfl l0 hM4 (fun _=>R_fa rfl Try.underlying146 rfl rfl ty24 rfl) rfl (gN rfl) rfl ?_
 refine qbo hM4 (qaT (Foc.fst qab qah) rfl ty24 hB4 (by first | rfl | simp | omega) (fun h=>h)) rfl (gN rfl) rfl ?_
 rintro v6 (hV6:qab.V _ a0_x.1 _)
 have hR9:=(h_a1_x_B.extN hS4)
 refine qbo hM4 (qaT (Foc.id _) rfl ty24 hR9 (by first | rfl | simp | omega) (fun h=>h)) rfl (gN rfl) rfl ?_
 rintro v8 (hV8:qab.V _ a1_x _)
 refine qag (.bool (decide (a0_x.1=a1_x))) rfl l0 hM4 (fun _=>qo2 rfl rfl hV6 hV8 Try.underlying24 Try.underlying5 ty5b (by kernel_rfl)) rfl (gN rfl) rfl ?_
 refine qag (.bool (decide (a0_x.1=a1_x))) rfl l0 hM4 (fun _=>R_mv rfl) rfl (gN rfl) rfl ?_
 refine qj9 (al:=true) (l1:=[.o 5 2,.o 6 2,.o 7 2,.o 8 0,.o 9 2]) [10,11,12,13,14] NX (fun l w K=>l=[(14,(.bool (decide ((a0_x.1=a1_x)∧(a0_x.2=a2_x)))))]∧Ext NX w4 K0 w K∧Models w K) ?_ ?_
 ·rcases Classical.em (a0_x.1=a1_x) with hp11 | hp11
  ·skip
   refine qag (.pointer (some ⟨b4,0+32,none⟩)) rfl l0 hM4 (fun _=>R_fa rfl Try.underlying146 rfl rfl ty32 rfl) rfl (gY rfl rfl rfl (decide_eq_true hp11)) rfl ?_
   refine qbo hM4 (qaT (Foc.snd qab qah) rfl ty32 hB4 (by first | rfl | simp | omega) (fun h=>h)) rfl (gY rfl rfl rfl (decide_eq_true hp11)) rfl ?_
   rintro v12 (hV12:qah.V _ a0_x.2 _)
   have hR15:=(h_a2_x_B.extN hS4)
   refine qbo hM4 (qaT (Foc.id _) rfl ty32 hR15 (by first | rfl | simp | omega) (fun h=>h)) rfl (gY rfl rfl rfl (decide_eq_true hp11)) rfl ?_
   rintro v14 (hV14:qah.V _ a2_x _)
   refine qdO rfl (gY rfl rfl rfl (decide_eq_true hp11)) rfl (qaL (qbn Try.call85 rfl) ((qjK hM4 hV12 hV14).mono ?_))
   rintro _ w17 ⟨K17,v17_0,rfl,hS17,hM17,hV17_0⟩
   refine ⟨v17_0,rfl,?_⟩
   refine ⟨K17,hS17,hM17,?_⟩
   have hE17:=hE4.andN hS17
   obtain rfl:=qbJ hV17_0
   refine qag (.bool (decide ((a0_x.1=a1_x)∧(a0_x.2=a2_x)))) rfl l0 hM17 (fun _=>qjZ rfl (decide_eq_true hp11) rfl (qpK hp11)) rfl (gN rfl) rfl ?_
   exact qiv [(14,(.bool (decide ((a0_x.1=a1_x)∧(a0_x.2=a2_x)))))] K17 rfl ⟨rfl,((Ext.refl _ _ _).andN hS17),hM17⟩ (by repeat (first | exact Off.refl _ _ | refine Off.updO ?_ rfl _ | refine Off.updN ?_ _ | refine Off.lay ?_ rfl)) ⟨rfl,trivial⟩
  ·skip
   refine qaU _ hM4 l0 rfl (gF rfl rfl rfl (decide_eq_false hp11)) rfl ?_
   refine qaU _ hM4 l0 rfl (gF rfl rfl rfl (decide_eq_false hp11)) rfl ?_
   refine qaU _ hM4 l0 rfl (gF rfl rfl rfl (decide_eq_false hp11)) rfl ?_
   refine qaU _ hM4 l0 rfl (gF rfl rfl rfl (decide_eq_false hp11)) rfl ?_
   refine qag (.bool (decide ((a0_x.1=a1_x)∧(a0_x.2=a2_x)))) rfl l0 hM4 (fun _=>qj0 rfl (decide_eq_false hp11) rfl (qpJ hp11)) rfl (gN rfl) rfl ?_
   exact qiv [(14,(.bool (decide ((a0_x.1=a1_x)∧(a0_x.2=a2_x)))))] K0 rfl ⟨rfl,(Ext.refl _ _ _),hM4⟩ (by repeat (first | exact Off.refl _ _ | refine Off.updO ?_ rfl _ | refine Off.updN ?_ _ | refine Off.lay ?_ rfl)) ⟨rfl,trivial⟩
 rintro l σ18 w18 K18 ⟨rfl,hS18,hM18⟩
 have hE18:=hE4.andN hS18
 refine qag (.bool (decide ((a0_x.1=a1_x)∧(a0_x.2=a2_x)))) rfl l0 hM18 (fun _=>R_as rfl) rfl (gN rfl) rfl ?_
 refine qcq ?_
 refine qa4 ?_
 exact qaC hR (v:=(.bool (decide ((a0_x.1=a1_x)∧(a0_x.2=a2_x))))) (qcb rfl rfl) ⟨K18,(.bool (decide ((a0_x.1=a1_x)∧(a0_x.2=a2_x)))),(decide ((a0_x.1=a1_x)∧(a0_x.2=a2_x))),rfl,h,hE18,hM18,qcs⟩
theorem qmn {w0:World} {K0:Ghost} {a0_x_v:Value} {a0_x:((List UInt8)×(List UInt8))} {a1_x_b:Nat} {a1_x_pre a1_x_post:List Value} {a1_x:(List UInt8)} {a2_x_b:Nat} {a2_x_pre a2_x_post:List Value} {a2_x:(List UInt8)} (hM0:Models w0 K0) (h_a0_x:qae.V K0 a0_x a0_x_v) (h_a1_x_B:Bx qab w0 K0 a1_x_b a1_x_pre a1_x_post a1_x) (h_a2_x_B:Bx qah w0 K0 a2_x_b a2_x_pre a2_x_post a2_x) (hsp2_3: ¬(a1_x_b=a2_x_b)):Calls Try.prog 133 #[a0_x_v,(.pointer (some ⟨a1_x_b,a1_x_pre.length,none⟩)),(.pointer (some ⟨a2_x_b,a2_x_pre.length,none⟩))] w0 (fun e w'=> ∃(K':Ghost) (r0:Value),e= .returned r0∧Ext NX w0 K0 w' K'∧Models w' K'∧Kd.bool.V K' (decide (a0_x.1=a1_x∧a0_x.2=a2_x)) r0):=by
 refine (qhW hM0 h_a0_x h_a1_x_B h_a2_x_B hsp2_3 (qkR h_a0_x.wf h_a1_x_B.wf h_a2_x_B.wf)).mono ?_
 rintro _ w' ⟨K',r0,o0,rfl,rfl,hF⟩
 exact ⟨K',r0,rfl,hF⟩
abbrev qar:Kd (List ((List UInt8)×(List UInt8))):=(Kd.sl qae)
theorem qcI:TyOk Try.prog 146 qae 56:=⟨⟨Try.t146,_,Try.type146,rfl,rfl,rfl,rfl,rfl⟩,⟨_,Try.underlying146,rfl⟩⟩
def qbU (a0_s:(List ((List UInt8)×(List UInt8)))) (a1_f_0:(List UInt8)) (a1_f_1:(List UInt8)) (Q:Int→Prop):Prop:=
 ∃(I4:Int→Int→Prop) (μ4:Int→Int→Nat),I4 0 0∧∀(i4:Int) (i4':Int),I4 i4 i4'→((Kd.int .i64).wf i4)→((Kd.int .i64).wf i4')→(((i4'<(a0_s.length:Int))→(0≤i4'∧i4'<(a0_s.length:Int))∧((((ix a0_s i4').1=a1_f_0∧(ix a0_s i4').2=a1_f_1)→Q i4')∧((¬((ix a0_s i4').1=a1_f_0∧(ix a0_s i4').2=a1_f_1))→I4 i4 (i4'+1)∧μ4 i4 (i4'+1)<μ4 i4 i4')))∧((¬(i4'<(a0_s.length:Int)))→Q (-1)))
theorem qgM {a0_s:(List ((List UInt8)×(List UInt8)))} {a1_f_0:(List UInt8)} {a1_f_1:(List UInt8)} (w_0:qar.wf a0_s):qbU a0_s a1_f_0 a1_f_1 (fun o0=>o0=(qaW a1_f_0 a1_f_1 a0_s 0)):=by
 unfold qbU
 refine ⟨fun _ i=> ∃j:Nat,i=(j:Int)∧j≤a0_s.length∧qaW a1_f_0 a1_f_1 a0_s 0=qaW a1_f_0 a1_f_1 (a0_s.drop j) (j:Int),fun _ i=>a0_s.length - i.toNat,⟨0,rfl,by omega,by simp⟩,?_⟩
 rintro _ i ⟨j,rfl,hj,he⟩ _ _
 refine ⟨fun hlt=>⟨⟨by omega,hlt⟩,fun h=>?_,fun h=>⟨⟨j+1,by omega,by omega,?_⟩,?_⟩⟩,fun hge=>?_⟩
 ·rw [qe2 hlt,if_pos (h)] at he
  exact he.symm
 ·rw [qe2 hlt,if_neg (h)] at he
  rw [he]
  congr 1
 ·show a0_s.length - ((j:Int)+1).toNat<a0_s.length - (j:Int).toNat
  omega
 ·have:j=a0_s.length:=by omega
  subst this
  rw [List.drop_length] at he
  exact he.symm
theorem qfc {w0:World} {K0:Ghost} {a0_s_v:Value} {a0_s:(List ((List UInt8)×(List UInt8)))} {a1_f_0_b:Nat} {a1_f_0_pre a1_f_0_post:List Value} {a1_f_0:(List UInt8)} {a1_f_1_b:Nat} {a1_f_1_pre a1_f_1_post:List Value} {a1_f_1:(List UInt8)} {Q:Int→Prop} (hM0:Models w0 K0) (h_a0_s:qar.V K0 a0_s a0_s_v) (h_a1_f_0_B:Bx qab w0 K0 a1_f_0_b a1_f_0_pre a1_f_0_post a1_f_0) (h_a1_f_1_B:Bx qah w0 K0 a1_f_1_b a1_f_1_pre a1_f_1_post a1_f_1) (hsp2_3: ¬(a1_f_0_b=a1_f_1_b)) (h:qbU a0_s a1_f_0 a1_f_1 Q):Calls Try.prog 144 #[a0_s_v,(.func (.func 133) #[] #[(.pointer (some ⟨a1_f_0_b,a1_f_0_pre.length,none⟩)),(.pointer (some ⟨a1_f_1_b,a1_f_1_pre.length,none⟩))])] w0 (fun e w'=> ∃(K':Ghost) (r0:Value) (o0:Int),e= .returned r0∧Q o0∧Ext NX w0 K0 w' K'∧Models w' K'∧(Kd.int .i64).V K' o0 r0):=by
 unfold qbU at h
 have hE0:Ext NX w0 K0 w0 K0:=Ext.refl _ _ _
 refine qay fun R hR=>?_
 refine qax (args:=[a0_s_v,(.func (.func 133) #[] #[(.pointer (some ⟨a1_f_0_b,a1_f_0_pre.length,none⟩)),(.pointer (some ⟨a1_f_1_b,a1_f_1_pre.length,none⟩))])]) Try.func144 rfl (Nat.le_of_ble_eq_true rfl) ?_
 refine qaf ?_
 refine qac ?_
 refine qaa (.int .i64 0) (R_as rfl) rfl rfl ?_
 refine qaj ?_
 refine qaf ?_
 refine qaf ?_
 refine qac ?_
 refine qaa a0_s_v (R_mv rfl) rfl rfl ?_
 refine qaa (.int .i64 (a0_s.length:Int)) (qdr rfl h_a0_s Try.underlying36) rfl rfl ?_
 refine qaa (.int .i64 0) (R_mv rfl) rfl rfl ?_
 refine qaj ?_
 refine qa0 ?_
 obtain ⟨I4,μ4,h0,h⟩:=h
 refine qcK (ι:=Int×Int) [4,5,8,9,10,11,12,13,14,15,16,17,18] (fun s l w=> ∃K,I4 s.1 s.2∧l=[(4,(.int .i64 s.1)),(8,(.int .i64 s.2))]∧Ext NX w0 K0 w K∧Models w K∧(Kd.int .i64).wf s.1∧(Kd.int .i64).wf s.2) (fun s=>μ4 s.1 s.2) (0,0) [(4,(.int .i64 0)),(8,(.int .i64 0))]
  ⟨K0,h0,rfl,Ext.refl _ _ _,hM0,(show (Kd.int .i64).wf 0 from by constructor<;>decide),(show (Kd.int .i64).wf 0 from by constructor<;>decide)⟩ (by repeat (first | exact trivial | refine ⟨rfl,?_⟩)) ?_
 rintro ⟨i4,i4'⟩ l σ4 w5 ⟨K5,hI,rfl,hX5,hM5,hw4_4,hw4_8⟩
 dsimp only at hI hw4_4 hw4_8
 have hE5:=hE0.andN hX5
 have h:=h i4 i4' hI hw4_4 hw4_8
 refine qaf ?_
 refine qac ?_
 refine qaa (.bool (decide (i4'<(a0_s.length:Int)))) (qf5 rfl rfl) rfl rfl ?_
 refine qaj ?_
 refine qaf ?_
 refine qau (decide (i4'<(a0_s.length:Int))) rfl (fun hc6=>?_) (fun hc6=>?_)
 ·have hd6:i4'<(a0_s.length:Int):=qel hc6
  have h:=h.1 hd6
  refine qaE ?_
  refine qaf ?_
  refine qa0 ?_
  refine qaf ?_
  refine qac ?_
  refine qaa (.int .i64 i4') (R_mv rfl) rfl rfl ?_
  refine qaa (.int .i64 i4') (R_as rfl) rfl rfl ?_
  refine qaj ?_
  refine qaf ?_
  refine qac ?_
  refine qaa (.func (.func 133) #[] #[(.pointer (some ⟨a1_f_0_b,a1_f_0_pre.length,none⟩)),(.pointer (some ⟨a1_f_1_b,a1_f_1_pre.length,none⟩))]) (R_mv rfl) rfl rfl ?_
  refine qaa a0_s_v (R_mv rfl) rfl rfl ?_
  refine qaa (.int .i64 i4') (R_mv rfl) rfl rfl ?_
  obtain ⟨hp8,h⟩:=h
  refine WL_P (qej rfl (h_a0_s.mono hX5.le) rfl Try.underlying36 qcI hp8.1 hp8.2) rfl rfl ?_
  rintro b7 o7 hP7
  refine WL_L hM5 (S_ld rfl qcI hP7) rfl rfl ?_
  rintro v10 (hV10:qae.V _ (ix a0_s i4') _)
  have hR12:=(h_a1_f_0_B.extN hX5)
  have hR13:=(h_a1_f_1_B.extN hX5)
  refine qaw rfl rfl (qaL (qjY rfl Try.call133 rfl) ((qmn hM5 hV10 hR12 hR13 hsp2_3).mono ?_))
  rintro _ w14 ⟨K14,v14_0,rfl,hS14,hM14,hV14_0⟩
  refine ⟨v14_0,rfl,?_⟩
  have hE14:=hE5.andN hS14
  obtain rfl:=qbJ hV14_0
  refine qaj ?_
  refine qau (decide ((ix a0_s i4').1=a1_f_0∧(ix a0_s i4').2=a1_f_1)) rfl (fun hc15=>?_) (fun hc15=>?_)
  ·have hd15:(ix a0_s i4').1=a1_f_0∧(ix a0_s i4').2=a1_f_1:=qel hc15
   have h:=h.1 hd15
   refine qaf ?_
   refine qac ?_
   refine qaa (.int .i64 i4') (R_mv rfl) rfl rfl ?_
   refine qaa (.int .i64 i4') (R_as rfl) rfl rfl ?_
   refine qaj ?_
   refine qa4 ?_
   exact qaC hR (v:=(.int .i64 i4')) (qcb rfl rfl) ⟨K14,(.int .i64 i4'),i4',rfl,h,hE14,hM14,(qeo hw4_8)⟩
  ·have hd15: ¬((ix a0_s i4').1=a1_f_0∧(ix a0_s i4').2=a1_f_1):=qek hc15
   have h:=h.2 hd15
   refine qaE ?_
   refine qac ?_
   refine qaa (.int .i64 (i4'+1)) (qjf rfl rfl hw4_8 hd6 (qbj (h_a0_s).wf.1)) rfl rfl ?_
   refine qaa (.int .i64 (i4'+1)) (R_mv rfl) rfl rfl ?_
   refine qaj ?_
   refine qeC.mk (i4,(i4'+1)) [(4,(.int .i64 i4)),(8,(.int .i64 (i4'+1)))] ?_ ?_ ?_ ?_
   rotate_left
   ·exact h.2
   ·repeat (first | exact Off.lay0 rfl | refine Off.updO ?_ rfl _ | refine Off.updN ?_ _ | refine Off.lay ?_ rfl)
   ·repeat (first | exact trivial | refine ⟨rfl,?_⟩)
   exact ⟨K14,h.1,rfl,(((Ext.refl _ _ _).andN hX5).andN hS14),hM14,hw4_4,(qfF hw4_8 hd6 (qbj (h_a0_s).wf.1))⟩
 ·have hd6: ¬(i4'<(a0_s.length:Int)):=qek hc6
  have h:=h.2 hd6
  refine qcy ?_
  refine qaf ?_
  refine qac ?_
  refine qaa (.int .i64 (-1)) (R_as rfl) rfl rfl ?_
  refine qaj ?_
  refine qa4 ?_
  exact qaC hR (v:=(.int .i64 (-1))) (qcb rfl rfl) ⟨K5,(.int .i64 (-1)),(-1),rfl,h,hE5,hM5,(qeo (show (Kd.int .i64).wf (-1) from by constructor<;>decide))⟩
theorem qhw {w0:World} {K0:Ghost} {a0_s_v:Value} {a0_s:(List ((List UInt8)×(List UInt8)))} {a1_f_0_b:Nat} {a1_f_0_pre a1_f_0_post:List Value} {a1_f_0:(List UInt8)} {a1_f_1_b:Nat} {a1_f_1_pre a1_f_1_post:List Value} {a1_f_1:(List UInt8)} (hM0:Models w0 K0) (h_a0_s:qar.V K0 a0_s a0_s_v) (h_a1_f_0_B:Bx qab w0 K0 a1_f_0_b a1_f_0_pre a1_f_0_post a1_f_0) (h_a1_f_1_B:Bx qah w0 K0 a1_f_1_b a1_f_1_pre a1_f_1_post a1_f_1) (hsp2_3: ¬(a1_f_0_b=a1_f_1_b)):Calls Try.prog 144 #[a0_s_v,(.func (.func 133) #[] #[(.pointer (some ⟨a1_f_0_b,a1_f_0_pre.length,none⟩)),(.pointer (some ⟨a1_f_1_b,a1_f_1_pre.length,none⟩))])] w0 (fun e w'=> ∃(K':Ghost) (r0:Value),e= .returned r0∧Ext NX w0 K0 w' K'∧Models w' K'∧(Kd.int .i64).V K' (qaW a1_f_0 a1_f_1 a0_s 0) r0):=by
 refine (qfc hM0 h_a0_s h_a1_f_0_B h_a1_f_1_B hsp2_3 (qgM h_a0_s.wf)).mono ?_
 rintro _ w' ⟨K',r0,o0,rfl,rfl,hF⟩
 exact ⟨K',r0,rfl,hF⟩
def qdL (a0_s:(List ((List UInt8)×(List UInt8)))) (a1_f_0:(List UInt8)) (a1_f_1:(List UInt8)) (Q:Bool→Prop):Prop:=
 ((Kd.int .i64).wf (qaW a1_f_0 a1_f_1 a0_s 0))→(Q (decide (0≤(qaW a1_f_0 a1_f_1 a0_s 0))))
theorem qjb {a0_s:(List ((List UInt8)×(List UInt8)))} {a1_f_0:(List UInt8)} {a1_f_1:(List UInt8)} (w_0:qar.wf a0_s):qdL a0_s a1_f_0 a1_f_1 (fun o0=>o0=decide (0≤qaW a1_f_0 a1_f_1 a0_s 0)):=by
 exact fun _=>rfl
theorem qgL {w0:World} {K0:Ghost} {a0_s_v:Value} {a0_s:(List ((List UInt8)×(List UInt8)))} {a1_f_0_b:Nat} {a1_f_0_pre a1_f_0_post:List Value} {a1_f_0:(List UInt8)} {a1_f_1_b:Nat} {a1_f_1_pre a1_f_1_post:List Value} {a1_f_1:(List UInt8)} {Q:Bool→Prop} (hM0:Models w0 K0) (h_a0_s:qar.V K0 a0_s a0_s_v) (h_a1_f_0_B:Bx qab w0 K0 a1_f_0_b a1_f_0_pre a1_f_0_post a1_f_0) (h_a1_f_1_B:Bx qah w0 K0 a1_f_1_b a1_f_1_pre a1_f_1_post a1_f_1) (hsp2_3: ¬(a1_f_0_b=a1_f_1_b)) (h:qdL a0_s a1_f_0 a1_f_1 Q):Calls Try.prog 132 #[a0_s_v,(.func (.func 133) #[] #[(.pointer (some ⟨a1_f_0_b,a1_f_0_pre.length,none⟩)),(.pointer (some ⟨a1_f_1_b,a1_f_1_pre.length,none⟩))])] w0 (fun e w'=> ∃(K':Ghost) (r0:Value) (o0:Bool),e= .returned r0∧Q o0∧Ext NX w0 K0 w' K'∧Models w' K'∧Kd.bool.V K' o0 r0):=by
 unfold qdL at h
 have hE0:Ext NX w0 K0 w0 K0:=Ext.refl _ _ _
 refine qay fun R hR=>?_
 refine qax (args:=[a0_s_v,(.func (.func 133) #[] #[(.pointer (some ⟨a1_f_0_b,a1_f_0_pre.length,none⟩)),(.pointer (some ⟨a1_f_1_b,a1_f_1_pre.length,none⟩))])]) Try.func132 rfl (Nat.le_of_ble_eq_true rfl) ?_
 refine qaf ?_
 refine qac ?_
 refine qaa (.bool false) (R_as rfl) rfl rfl ?_
 refine qaj ?_
 refine qaf ?_
 refine qac ?_
 refine qaa a0_s_v (R_mv rfl) rfl rfl ?_
 refine qaa (.func (.func 133) #[] #[(.pointer (some ⟨a1_f_0_b,a1_f_0_pre.length,none⟩)),(.pointer (some ⟨a1_f_1_b,a1_f_1_pre.length,none⟩))]) (R_mv rfl) rfl rfl ?_
 refine qaw rfl rfl (qaL (qbn Try.call144 rfl) ((qhw hM0 h_a0_s h_a1_f_0_B h_a1_f_1_B hsp2_3).mono ?_))
 rintro _ w4 ⟨K4,v4_0,rfl,hS4,hM4,hV4_0⟩
 refine ⟨v4_0,rfl,?_⟩
 have hE4:=hE0.andN hS4
 obtain rfl:=qa2 hV4_0
 have h:=h hV4_0.wf
 refine qaa (.bool (decide (0≤(qaW a1_f_0 a1_f_1 a0_s 0)))) (qo6 rfl rfl) rfl rfl ?_
 refine qaa (.bool (decide (0≤(qaW a1_f_0 a1_f_1 a0_s 0)))) (R_as rfl) rfl rfl ?_
 refine qaj ?_
 refine qa4 ?_
 exact qaC hR (v:=(.bool (decide (0≤(qaW a1_f_0 a1_f_1 a0_s 0))))) (qcb rfl rfl) ⟨K4,(.bool (decide (0≤(qaW a1_f_0 a1_f_1 a0_s 0)))),(decide (0≤(qaW a1_f_0 a1_f_1 a0_s 0))),rfl,h,hE4,hM4,qcs⟩
theorem qjS {w0:World} {K0:Ghost} {a0_s_v:Value} {a0_s:(List ((List UInt8)×(List UInt8)))} {a1_f_0_b:Nat} {a1_f_0_pre a1_f_0_post:List Value} {a1_f_0:(List UInt8)} {a1_f_1_b:Nat} {a1_f_1_pre a1_f_1_post:List Value} {a1_f_1:(List UInt8)} (hM0:Models w0 K0) (h_a0_s:qar.V K0 a0_s a0_s_v) (h_a1_f_0_B:Bx qab w0 K0 a1_f_0_b a1_f_0_pre a1_f_0_post a1_f_0) (h_a1_f_1_B:Bx qah w0 K0 a1_f_1_b a1_f_1_pre a1_f_1_post a1_f_1) (hsp2_3: ¬(a1_f_0_b=a1_f_1_b)):Calls Try.prog 132 #[a0_s_v,(.func (.func 133) #[] #[(.pointer (some ⟨a1_f_0_b,a1_f_0_pre.length,none⟩)),(.pointer (some ⟨a1_f_1_b,a1_f_1_pre.length,none⟩))])] w0 (fun e w'=> ∃(K':Ghost) (r0:Value),e= .returned r0∧Ext NX w0 K0 w' K'∧Models w' K'∧Kd.bool.V K' (decide (0≤qaW a1_f_0 a1_f_1 a0_s 0)) r0):=by
 refine (qgL hM0 h_a0_s h_a1_f_0_B h_a1_f_1_B hsp2_3 (qjb h_a0_s.wf)).mono ?_
 rintro _ w' ⟨K',r0,o0,rfl,rfl,hF⟩
 exact ⟨K',r0,rfl,hF⟩
abbrev qak:Kd (Value×Value):=(Kd.pr Kd.rsl Kd.rmp)
theorem qdJ:TyOk Try.prog 37 Kd.rmp 8:=⟨⟨Try.t37,_,Try.type37,rfl,rfl,rfl,rfl,rfl⟩,⟨_,Try.underlying37,rfl⟩⟩
theorem qc4:TyOk Try.prog 36 Kd.rsl 24:=⟨⟨Try.t36,_,Try.type36,rfl,rfl,rfl,rfl,rfl⟩,⟨_,Try.underlying36,rfl⟩⟩
def qiM (a0_n_0:(List ((List UInt8)×(List UInt8)))) (a0_n_1:(List ((List UInt8)×Int))) (a1_s:(List UInt8)) (a2_b:(List UInt8)) (Q:Bool→Prop):Prop:=
 ((¬(((mfind a1_s a0_n_1).isSome)=true))→Q false)∧((((mfind a1_s a0_n_1).isSome)=true)→(0≤((mfind a1_s a0_n_1).getD 0)∧((mfind a1_s a0_n_1).getD 0)≤(a0_n_0.length:Int))∧(Q (decide (0≤qaW a1_s a2_b (a0_n_0.drop ((mfind a1_s a0_n_1).getD 0).toNat) 0))))
theorem qpU {a0_n_0:(List ((List UInt8)×(List UInt8)))} {a0_n_1:(List ((List UInt8)×Int))} {a1_s:(List UInt8)} {a2_b:(List UInt8)} (w_0:qab.wf a1_s) (w_1:qah.wf a2_b) (hp:qaK a0_n_0 a0_n_1):qiM a0_n_0 a0_n_1 a1_s a2_b (fun o0=>o0=decide ((a1_s,a2_b)∈a0_n_0)):=by
 unfold qiM
 rw [hp a1_s]
 refine ⟨fun h=>?_,fun h=>?_⟩
 ·have hn:qaq a1_s a0_n_0 0=none:=by
   cases hf:qaq a1_s a0_n_0 0 with
   | none=>rfl
   | some a=>rw [hf] at h;exact absurd rfl h
  have:=qbX hn a2_b
  simp [this]
 ·cases hf:qaq a1_s a0_n_0 0 with
  | none=>rw [hf] at h;cases h
  | some a=>
    obtain ⟨j,rfl,hl,hm⟩:=qbg hf
    simp only [Option.getD_some,Int.zero_add,Int.toNat_natCast]
    refine ⟨⟨by omega,by omega⟩,?_⟩
    rw [decide_eq_decide,qha _ _ (Int.le_refl _)]
    exact (hm a2_b).symm
theorem qmo {w0:World} {K0:Ghost} {a0_n_b:Nat} {a0_n_pre a0_n_post:List Value} {a0_n_0v:Value} {a0_n_0:(List ((List UInt8)×(List UInt8)))} {a0_n_1v:Value} {a0_n_1:(List ((List UInt8)×Int))} {a1_s_v:Value} {a1_s:(List UInt8)} {a2_b_v:Value} {a2_b:(List UInt8)} {Q:Bool→Prop} (hM0:Models w0 K0) (h_a0_n_B:Bx qak w0 K0 a0_n_b a0_n_pre a0_n_post (a0_n_0v,a0_n_1v)) (h_a0_n_0:Own qae 146 w0 K0 a0_n_0 a0_n_0v) (h_a0_n_1:Mp qab (Kd.int .i64) w0 K0 a0_n_1 a0_n_1v) (h_a1_s:qab.V K0 a1_s a1_s_v) (h_a2_b:qah.V K0 a2_b a2_b_v) (h:qiM a0_n_0 a0_n_1 a1_s a2_b Q):Calls Try.prog 120 #[(.pointer (some ⟨a0_n_b,a0_n_pre.length,none⟩)),a1_s_v,a2_b_v] w0 (fun e w'=> ∃(K':Ghost) (r0:Value) (o0:Bool),e= .returned r0∧Q o0∧Ext NX w0 K0 w' K'∧Models w' K'∧Kd.bool.V K' o0 r0):=by
 unfold qiM at h
 have hE0:Ext NX w0 K0 w0 K0:=Ext.refl _ _ _
 refine qay fun R hR=>?_
 refine qax (args:=[(.pointer (some ⟨a0_n_b,a0_n_pre.length,none⟩)),a1_s_v,a2_b_v]) Try.func120 rfl (Nat.le_of_ble_eq_true rfl) ?_
 refine qaf ?_
 refine qac ?_
 refine qaw rfl rfl (St_B (qei hM0 rfl h_a1_s) ?_)
 rintro b6 w6 (hB6:Bx qab _ _ _ _ _ a1_s) hS6 hM6 hge6
 have hE6:=hE0.andN hS6
 refine qaw rfl rfl (St_B (qei hM6 rfl (h_a2_b.mono hS6.le)) ?_)
 rintro b8 w8 (hB8:Bx qah _ _ _ _ _ a2_b) hS8 hM8 hge8
 have hE8:=hE6.andN hS8
 have hR10:=(h_a0_n_B.extN hS6)
 refine qaa (.bool false) (R_as rfl) rfl rfl ?_
 refine qaj ?_
 refine qaf ?_
 refine qbx (K:=K0) NX [.o 0 2,.o 1 2,.o 2 2,.o 3 2,.o 4 2,.o 5 2,.o 6 2,.o 7 2,.o 8 2,.o 9 2,.o 10 2] (by kernel_rfl) (by kernel_rfl) hM8 ?_
 rintro w11 hS11 hM11
 have hE11:=hE8.andN hS11
 refine qag (.pointer (some ⟨a0_n_b,a0_n_pre.length,none⟩)) rfl l0 hM11 (fun _=>R_mv rfl) rfl (gN rfl) rfl ?_
 refine qag (.pointer (some ⟨a0_n_b,a0_n_pre.length,none⟩)) rfl l0 hM11 (fun _=>qaB rfl) rfl (gN rfl) rfl ?_
 refine qag (.pointer (some ⟨a0_n_b,a0_n_pre.length+1,none⟩)) rfl l0 hM11 (fun _=>R_fa rfl Try.underlying39 rfl rfl qdJ rfl) rfl (gN rfl) rfl ?_
 have hR13:=(((h_a0_n_B.extN hS6).extN hS8).extN hS11)
 refine qbo hM11 (qaT (Foc.snd Kd.rsl Kd.rmp) rfl qdJ hR13 (by first | rfl | simp | omega) (fun h=>h)) rfl (gN rfl) rfl ?_
 rintro v12 (hV12:Kd.rmp.V _ a0_n_1v _)
 obtain rfl:=qbp hV12
 have hR15:=((hB6.extN hS8).extN hS11)
 refine qbo hM11 (qaT (Foc.id _) rfl ty24 hR15 (by first | rfl | simp | omega) (fun h=>h)) rfl (gN rfl) rfl ?_
 rintro v14 (hV14:qab.V _ a1_s _)
 have hR18:=(((h_a0_n_1.extN hS6).extN hS8).extN hS11)
 refine qit hM11 (qj5 (kv:=(Kd.int .i64)) rfl rfl hR18 hV14 Try.underlying37 (qb6 Try.underlying24 Try.underlying5 ty5b) ty3 (fun _ _ h=>h)) rfl (gN rfl) rfl ?_
 rintro v17 (hV17:(Kd.int .i64).V _ ((mfind a1_s a0_n_1).getD 0) _)
 obtain rfl:=qa2 hV17
 refine qag (.tuple #[(.int .i64 ((mfind a1_s a0_n_1).getD 0)),(.bool ((mfind a1_s a0_n_1).isSome))]) rfl l0 hM11 (fun _=>R_mv rfl) rfl (gN rfl) rfl ?_
 refine qag (.int .i64 ((mfind a1_s a0_n_1).getD 0)) rfl l0 hM11 (fun _=>qf4 rfl rfl) rfl (gN rfl) rfl ?_
 refine qag (.bool ((mfind a1_s a0_n_1).isSome)) rfl l0 hM11 (fun _=>qf4 rfl rfl) rfl (gN rfl) rfl ?_
 refine qag (.int .i64 ((mfind a1_s a0_n_1).getD 0)) rfl l0 hM11 (fun _=>R_as rfl) rfl (gN rfl) rfl ?_
 refine qag (.bool ((mfind a1_s a0_n_1).isSome)) rfl l0 hM11 (fun _=>R_as rfl) rfl (gN rfl) rfl ?_
 refine qcq ?_
 refine qaf ?_
 refine qaf ?_
 refine qac ?_
 refine qaa (.bool ((mfind a1_s a0_n_1).isSome)) (R_mv rfl) rfl rfl ?_
 refine qaa (.bool (!((mfind a1_s a0_n_1).isSome))) (qgN rfl) rfl rfl ?_
 refine qaj ?_
 refine qau (!((mfind a1_s a0_n_1).isSome)) rfl (fun hc19=>?_) (fun hc19=>?_)
 ·have hd19: ¬(((mfind a1_s a0_n_1).isSome)=true):=qoh hc19
  have h:=h.1 hd19
  refine qaf ?_
  refine qac ?_
  refine qaa (.bool false) (R_as rfl) rfl rfl ?_
  refine qaj ?_
  refine qa4 ?_
  exact qaC hR (v:=(.bool false)) (qcb rfl rfl) ⟨K0,(.bool false),false,rfl,h,hE11,hM11,qcs⟩
 ·have hd19:((mfind a1_s a0_n_1).isSome)=true:=qog hc19
  have h:=h.2 hd19
  refine qaE ?_
  refine qaf ?_
  refine qac ?_
  refine qaa (.pointer (some ⟨a0_n_b,a0_n_pre.length,none⟩)) (R_mv rfl) rfl rfl ?_
  refine qaa (.pointer (some ⟨a0_n_b,a0_n_pre.length,none⟩)) (qaB rfl) rfl rfl ?_
  refine qaa (.pointer (some ⟨a0_n_b,a0_n_pre.length+0,none⟩)) (R_fa rfl Try.underlying39 rfl rfl qc4 rfl) rfl rfl ?_
  refine WL_L hM11 (qaT (Foc.fst Kd.rsl Kd.rmp) rfl qc4 hR13 (by first | rfl | simp | omega) (fun h=>h)) rfl rfl ?_
  rintro v20 (hV20:Kd.rsl.V _ a0_n_0v _)
  obtain rfl:=qbp hV20
  refine qaa (.int .i64 ((mfind a1_s a0_n_1).getD 0)) (R_mv rfl) rfl rfl ?_
  obtain ⟨hp22,h⟩:=h
  refine WL_V (qpD rfl (h_a0_n_0.V.mono (hS6.le.trans (hS8.le.trans hS11.le))) Try.underlying36 qcI rfl hp22.1 hp22.2) rfl rfl ?_
  rintro v21 (hV21:qar.V _ (a0_n_0.drop ((mfind a1_s a0_n_1).getD 0).toNat) _)
  refine qaa (.func (.func 133) #[] #[(.pointer (some ⟨b6,0,none⟩)),(.pointer (some ⟨b8,0,none⟩))]) (qo5 rfl) rfl rfl ?_
  have hR25:=(hB8.extN hS11)
  refine qaw rfl rfl (qaL (qbn Try.call132 rfl) ((qjS hM11 hV21 hR15 hR25 (fun he=>(qb8 hge8 hB6.lt) he.symm)).mono ?_))
  rintro _ w24 ⟨K24,v24_0,rfl,hS24,hM24,hV24_0⟩
  refine ⟨v24_0,rfl,?_⟩
  have hE24:=hE11.andN hS24
  obtain rfl:=qbJ hV24_0
  refine qaa (.bool (decide (0≤qaW a1_s a2_b (a0_n_0.drop ((mfind a1_s a0_n_1).getD 0).toNat) 0))) (R_as rfl) rfl rfl ?_
  refine qaj ?_
  refine qa4 ?_
  exact qaC hR (v:=(.bool (decide (0≤qaW a1_s a2_b (a0_n_0.drop ((mfind a1_s a0_n_1).getD 0).toNat) 0)))) (qcb rfl rfl) ⟨K24,(.bool (decide (0≤qaW a1_s a2_b (a0_n_0.drop ((mfind a1_s a0_n_1).getD 0).toNat) 0))),(decide (0≤qaW a1_s a2_b (a0_n_0.drop ((mfind a1_s a0_n_1).getD 0).toNat) 0)),rfl,h,hE24,hM24,qcs⟩
theorem qqT {w0:World} {K0:Ghost} {a0_n_b:Nat} {a0_n_pre a0_n_post:List Value} {a0_n_0v:Value} {a0_n_0:(List ((List UInt8)×(List UInt8)))} {a0_n_1v:Value} {a0_n_1:(List ((List UInt8)×Int))} {a1_s_v:Value} {a1_s:(List UInt8)} {a2_b_v:Value} {a2_b:(List UInt8)} (hM0:Models w0 K0) (h_a0_n_B:Bx qak w0 K0 a0_n_b a0_n_pre a0_n_post (a0_n_0v,a0_n_1v)) (h_a0_n_0:Own qae 146 w0 K0 a0_n_0 a0_n_0v) (h_a0_n_1:Mp qab (Kd.int .i64) w0 K0 a0_n_1 a0_n_1v) (h_a1_s:qab.V K0 a1_s a1_s_v) (h_a2_b:qah.V K0 a2_b a2_b_v) (hp:qaK a0_n_0 a0_n_1):Calls Try.prog 120 #[(.pointer (some ⟨a0_n_b,a0_n_pre.length,none⟩)),a1_s_v,a2_b_v] w0 (fun e w'=> ∃(K':Ghost) (r0:Value),e= .returned r0∧Ext NX w0 K0 w' K'∧Models w' K'∧Kd.bool.V K' (decide ((a1_s,a2_b)∈a0_n_0)) r0):=by
 refine (qmo hM0 h_a0_n_B h_a0_n_0 h_a0_n_1 h_a1_s h_a2_b (qpU h_a1_s.wf h_a2_b.wf hp)).mono ?_
 rintro _ w' ⟨K',r0,o0,rfl,rfl,hF⟩
 exact ⟨K',r0,rfl,hF⟩
theorem qqS {fs:Array Field} (h:Try.prog.underlying 146=some (.struct fs)): ∀f∈fs.toList,∃i,Try.prog.info? f.type=some i:=by
 have h2:=(Try.underlying146).symm.trans h
 cases h2
 intro f hf
 simp only [List.mem_cons,List.not_mem_nil,or_false] at hf
 rcases hf with rfl | rfl
 ·exact ⟨_,Try.type24⟩
 ·exact ⟨_,Try.type32⟩
def qiy (a0_n_0:(List ((List UInt8)×(List UInt8)))) (a0_n_1:(List ((List UInt8)×Int))) (a1_s:(List UInt8)) (a2_b:(List UInt8)) (Q:(List ((List UInt8)×(List UInt8)))→(List ((List UInt8)×Int))→Prop):Prop:=
 (qaK a0_n_0 a0_n_1)∧((((a1_s,a2_b)∈a0_n_0)→Q a0_n_0 a0_n_1)∧((¬((a1_s,a2_b)∈a0_n_0))→∀(r21:Bool),(r21=true→a0_n_1=[])→(∃(J23:(List ((List UInt8)×Int))→Prop),(((r21=true)→J23 ([]:List ((List UInt8)×Int)))∧((r21=false)→J23 a0_n_1))∧∀(y23:(List ((List UInt8)×Int))),J23 y23→(∃(J42:(List ((List UInt8)×Int))→Prop),(((¬(((mfind a1_s y23).isSome)=true))→J42 (mset a1_s (a0_n_0.length:Int) y23))∧((((mfind a1_s y23).isSome)=true)→J42 y23))∧∀(y42:(List ((List UInt8)×Int))),J42 y42→((a2_b.length≤140737488355328)∧((qah.wf a2_b)→(((a0_n_0.length+ [(a1_s,a2_b)].length) *56≤140737488355328)∧(Q (a0_n_0++ [(a1_s,a2_b)]) y42))))))))
theorem qpH {a0_n_0:(List ((List UInt8)×(List UInt8)))} {a0_n_1:(List ((List UInt8)×Int))} {a1_s:(List UInt8)} {a2_b:(List UInt8)} (w_0:qab.wf a1_s) (w_1:qah.wf a2_b) (hp:qaK a0_n_0 a0_n_1∧a2_b.length≤140737488355328∧(a0_n_0.length+1) *64≤140737488355328):qiy a0_n_0 a0_n_1 a1_s a2_b (fun o0 o1=>o0=(addL a0_n_0 a1_s a2_b)∧o1=(addM a0_n_0 a0_n_1 a1_s a2_b)):=by
 obtain ⟨h1,h2,h3⟩:=hp
 have hlen:(a0_n_0.length+ [(a1_s,a2_b)].length) *56≤140737488355328:=by
  simp only [List.length_cons,List.length_nil]
  omega
 unfold qiy
 refine ⟨h1,fun h=>?_,fun h r hr=>?_⟩
 ·have hm:=h
  exact ⟨by simp [addL,hm],by simp [addM,hm]⟩
 ·have hm:=h
  refine ⟨fun m=>m=a0_n_1,⟨fun h=>(hr h).symm,fun _=>rfl⟩,?_⟩
  rintro m rfl
  refine ⟨fun m'=>m'=if (mfind a1_s m).isSome then m else mset a1_s (a0_n_0.length:Int) m,⟨fun h=>by rw [if_neg h],fun h=>by rw [if_pos h]⟩,?_⟩
  rintro m' rfl
  exact ⟨h2,fun _=>⟨hlen,by simp [addL,hm],by simp [addM,hm]⟩⟩
theorem ql4 {w0:World} {K0:Ghost} {a0_n_b:Nat} {a0_n_pre a0_n_post:List Value} {a0_n_0v:Value} {a0_n_0:(List ((List UInt8)×(List UInt8)))} {a0_n_1v:Value} {a0_n_1:(List ((List UInt8)×Int))} {a1_s_v:Value} {a1_s:(List UInt8)} {a2_b_v:Value} {a2_b:(List UInt8)} {Q:(List ((List UInt8)×(List UInt8)))→(List ((List UInt8)×Int))→Prop} (hM0:Models w0 K0) (h_a0_n_B:Bx qak w0 K0 a0_n_b a0_n_pre a0_n_post (a0_n_0v,a0_n_1v)) (h_a0_n_0:Own qae 146 w0 K0 a0_n_0 a0_n_0v) (h_a0_n_1:Mp qab (Kd.int .i64) w0 K0 a0_n_1 a0_n_1v) (h_a1_s:qab.V K0 a1_s a1_s_v) (h_a2_b:qah.V K0 a2_b a2_b_v) (h:qiy a0_n_0 a0_n_1 a1_s a2_b Q):Calls Try.prog 86 #[(.pointer (some ⟨a0_n_b,a0_n_pre.length,none⟩)),a1_s_v,a2_b_v] w0 (fun e w'=> ∃(K':Ghost) (u0_0:Value) (u0_1:Value) (o0:(List ((List UInt8)×(List UInt8)))) (o1:(List ((List UInt8)×Int))),e= .returned (.tuple #[])∧Q o0 o1∧Ext (fun c=>c=a0_n_b∨ob a0_n_0v=some c∨mb a0_n_1v=some c) w0 K0 w' K'∧Models w' K'∧Bx qak w' K' a0_n_b a0_n_pre a0_n_post (u0_0,u0_1)∧Own qae 146 w' K' o0 u0_0∧(∀g,ob u0_0=some g→ob a0_n_0v=some g∨w0.heap.size≤g)∧Mp qab (Kd.int .i64) w' K' o1 u0_1∧(∀g,mb u0_1=some g→mb a0_n_1v=some g∨w0.heap.size≤g)):=by
 unfold qiy at h
 have hE0:Ext (fun c=>c=a0_n_b∨ob a0_n_0v=some c∨mb a0_n_1v=some c) w0 K0 w0 K0:=Ext.refl _ _ _
 refine qay fun R hR=>?_
 refine qax (args:=[(.pointer (some ⟨a0_n_b,a0_n_pre.length,none⟩)),a1_s_v,a2_b_v]) Try.func86 rfl (Nat.le_of_ble_eq_true rfl) ?_
 refine qaf ?_
 refine qac ?_
 refine qaw rfl rfl (St_B (qei hM0 rfl h_a1_s) ?_)
 rintro b6 w6 (hB6:Bx qab _ _ _ _ _ a1_s) hS6 hM6 hge6
 have hE6:=hE0.andN hS6
 refine qaj ?_
 refine qaf ?_
 refine qaf ?_
 refine qac ?_
 refine qaa (.pointer (some ⟨a0_n_b,a0_n_pre.length,none⟩)) (R_mv rfl) rfl rfl ?_
 refine WL_L hM6 (qaT (Foc.id _) rfl ty24 hB6 (by first | rfl | simp | omega) (fun h=>h)) rfl rfl ?_
 rintro v8 (hV8:qab.V _ a1_s _)
 refine qaa a2_b_v (R_mv rfl) rfl rfl ?_
 have hR10:=(h_a0_n_0.extN hS6)
 have hR11:=(h_a0_n_1.extN hS6)
 have hR12:=(h_a0_n_B.extN hS6)
 obtain ⟨hp14,h⟩:=h
 refine qaw rfl rfl (qaL (qbn Try.call120 rfl) ((qqT hM6 hR12 hR10 hR11 hV8 (h_a2_b.mono hS6.le) hp14).mono ?_))
 rintro _ w13 ⟨K13,v13_0,rfl,hS13,hM13,hV13_0⟩
 refine ⟨v13_0,rfl,?_⟩
 have hE13:=hE6.andN hS13
 obtain rfl:=qbJ hV13_0
 refine qaj ?_
 refine qau (decide ((a1_s,a2_b)∈a0_n_0)) rfl (fun hc15=>?_) (fun hc15=>?_)
 ·have hd15:(a1_s,a2_b)∈a0_n_0:=qel hc15
  have h:=h.1 hd15
  refine qa4 ?_
  have hR16:=(hR10.extN hS13)
  have hR17:=(hR11.extN hS13)
  have hR18:=(hR12.extN hS13)
  exact qaC hR (v:=(.tuple #[])) (qiW rfl) ⟨K13,a0_n_0v,a0_n_1v,a0_n_0,a0_n_1,rfl,h,hE13,hM13,hR18,hR16,(fun g hg=>(.inl hg)),hR17,(fun g hg=>(.inl hg))⟩
 ·have hd15: ¬((a1_s,a2_b)∈a0_n_0):=qek hc15
  have h:=h.2 hd15
  refine qaE ?_
  refine qaf ?_
  refine qaf ?_
  refine qac ?_
  refine qaa (.pointer (some ⟨a0_n_b,a0_n_pre.length,none⟩)) (R_mv rfl) rfl rfl ?_
  refine qaa (.pointer (some ⟨a0_n_b,a0_n_pre.length,none⟩)) (qaB rfl) rfl rfl ?_
  refine qaa (.pointer (some ⟨a0_n_b,a0_n_pre.length+1,none⟩)) (R_fa rfl Try.underlying39 rfl rfl qdJ rfl) rfl rfl ?_
  have hR20:=(hR12.extN hS13)
  refine WL_L hM13 (qaT (Foc.snd Kd.rsl Kd.rmp) rfl qdJ hR20 (by first | rfl | simp | omega) (fun h=>h)) rfl rfl ?_
  rintro v19 (hV19:Kd.rmp.V _ a0_n_1v _)
  obtain rfl:=qbp hV19
  have hR22:=(hR11.extN hS13)
  refine qqM (qm2 rfl rfl hR22 Try.underlying37) rfl rfl ?_
  rintro r21 ⟨hn21,hnn21⟩
  have h:=h r21 (fun hx=>(hn21 hx).2)
  refine qaj ?_
  obtain ⟨J23,h,hJ23⟩:=h
  refine qkb [17,18,19,20] (fun l w=> ∃y23 K z1_1,J23 y23∧l=[]∧Ext (fun c=>mb a0_n_1v=some c∨c=a0_n_b) w13 K13 w K∧Models w K∧Mp qab (Kd.int .i64) w K y23 (.map (some z1_1))∧(∀g,mb (.map (some z1_1))=some g→mb a0_n_1v=some g∨w13.heap.size≤g)∧Bx qak w K a0_n_b a0_n_pre a0_n_post (a0_n_0v,(.map (some z1_1)))) ?_ ?_
  ·skip
   refine qau r21 rfl (fun hc24=>?_) (fun hc24=>?_)
   ·have hd24:r21=true:=hc24
    have h:=h.1 hd24
    refine qac ?_
    refine qaa (.pointer (some ⟨a0_n_b,a0_n_pre.length,none⟩)) (R_mv rfl) rfl rfl ?_
    refine qaw rfl rfl (qqK (qpz (kk:=qab) (kv:=(Kd.int .i64)) hM13) ?_)
    rintro b25 w25 hO25 hS25 hM25 hge25
    have hf25: ∀g,mb (.map (some b25))=some g→w0.heap.size≤g:=fun g hg=>by cases hg;exact Nat.le_trans hE13.size hge25
    have hE25:=hE13.andN hS25
    have hs27: ∀g,mb (.map (some b25))=some g→¬(mb a0_n_1v=some g):=fun g hg hx=>by cases hg;exact absurd (hR22.lt _ hx) (Nat.not_lt.2 hge25)
    refine qaa (.pointer (some ⟨a0_n_b,a0_n_pre.length,none⟩)) (qaB rfl) rfl rfl ?_
    refine qaa (.pointer (some ⟨a0_n_b,a0_n_pre.length+1,none⟩)) (R_fa rfl Try.underlying39 rfl rfl qdJ rfl) rfl rfl ?_
    have hR29:=(hR20.extN hS25)
    refine qaw rfl rfl (qf7 (qf6 (Foc.snd Kd.rsl Kd.rmp) hM25 rfl rfl (rw_V hO25.one) qdJ hR29 (by first | rfl | simp | omega)) ?_)
    rintro w28 (hB28:Bx qak _ _ a0_n_b a0_n_pre a0_n_post (a0_n_0v,(.map (some b25)))) hS28 hM28
    have hE28:=hE25.comp hS28 (fun c hx hlt=>(by subst hx;exact (fun _=>(.inl rfl)) hlt))
    refine qaj ?_
    have hR30:=(hO25.ext hS28 (fun g hg hx=>(fun g hg hx=>hO25.box hR29 (hg.trans (congrArg some hx))) g hg hx))
    exact qhx.mk [] ⟨([]:List ((List UInt8)×Int)),K13,b25,h,rfl,(((Ext.refl _ _ _).andN hS25).comp hS28 (fun c hx hlt=>(.inr (hx)))),hM28,hR30,(fun g hg=> .inr ((fun g hg=>by cases hg;exact hge25) g hg)),hB28⟩ (by repeat (first | exact Off.lay0 rfl | exact Off.refl _ _ | refine Off.updO ?_ rfl _ | refine Off.updN ?_ _ | refine Off.lay ?_ rfl)) (by repeat (first | exact trivial | refine ⟨rfl,?_⟩))
   ·have hd24:r21=false:=hc24
    have h:=h.2 hd24
    obtain ⟨b24,hv24⟩:=hnn21 hd24
    subst hv24
    refine qaE ?_
    exact qhx.mk [] ⟨a0_n_1,K13,b24,h,rfl,(Ext.refl _ _ _),hM13,hR22,(fun g hg=>(.inl hg)),hR20⟩ (by repeat (first | exact Off.lay0 rfl | exact Off.refl _ _ | refine Off.updO ?_ rfl _ | refine Off.updN ?_ _ | refine Off.lay ?_ rfl)) (by repeat (first | exact trivial | refine ⟨rfl,?_⟩))
  rintro l σ23 w31 ⟨y23,K31,z1_1_23,hI,rfl,hX31,hM31,hL23_z1_1,ho23_z1_1,hL23_1⟩
  have h:=hJ23 y23 hI
  have hE31:=hE13.comp hX31 (fun c hx hlt=>Or.elim hx (fun hx=>(fun g hg _=>(.inr (.inr (hg)))) c hx hlt) (fun hx=>(by subst hx;exact (fun _=>(.inl rfl)) hlt)))
  have hf32: ∀g,mb (.map (some z1_1_23))=some g→g<w0.heap.size→g=a0_n_b∨ob a0_n_0v=some g∨mb a0_n_1v=some g:=fun g hg hlt=>(ho23_z1_1 g hg).elim (fun hx=>(fun g hg _=>(.inr (.inr (hg)))) g hx hlt) (fun hx=>absurd hlt (Nat.not_lt.2 (Nat.le_trans hE13.size hx)))
  refine qaf ?_
  refine qaf ?_
  refine qbx (K:=K31) NX [.o 0 2,.o 1 2,.o 2 2,.o 3 2,.o 4 2,.o 5 2,.o 6 2,.o 7 2,.o 8 2,.o 9 2,.o 10 2] (by kernel_rfl) (by kernel_rfl) hM31 ?_
  rintro w33 hS33 hM33
  have hE33:=hE31.andN hS33
  refine qag (.pointer (some ⟨a0_n_b,a0_n_pre.length,none⟩)) rfl l0 hM33 (fun _=>R_mv rfl) rfl (gN rfl) rfl ?_
  refine qag (.pointer (some ⟨a0_n_b,a0_n_pre.length,none⟩)) rfl l0 hM33 (fun _=>qaB rfl) rfl (gN rfl) rfl ?_
  refine qag (.pointer (some ⟨a0_n_b,a0_n_pre.length+1,none⟩)) rfl l0 hM33 (fun _=>R_fa rfl Try.underlying39 rfl rfl qdJ rfl) rfl (gN rfl) rfl ?_
  have hR35:=(hL23_1.extN hS33)
  refine qbo hM33 (qaT (Foc.snd Kd.rsl Kd.rmp) rfl qdJ hR35 (by first | rfl | simp | omega) (fun h=>h)) rfl (gN rfl) rfl ?_
  rintro v34 (hV34:Kd.rmp.V _ (.map (some z1_1_23)) _)
  obtain rfl:=qbp hV34
  have hR37:=(hB6.extN hS13)
  have hR38:=((hR37.ext hX31 (fun hx=>Or.elim hx (fun hx=>(hR22.box hR37) hx) (fun hx=>(qb8 hge6 h_a0_n_B.lt) hx))).extN hS33)
  refine qbo hM33 (qaT (Foc.id _) rfl ty24 hR38 (by first | rfl | simp | omega) (fun h=>h)) rfl (gN rfl) rfl ?_
  rintro v36 (hV36:qab.V _ a1_s _)
  have hR41:=(hL23_z1_1.extN hS33)
  refine qit hM33 (qj5 (kv:=(Kd.int .i64)) rfl rfl hR41 hV36 Try.underlying37 (qb6 Try.underlying24 Try.underlying5 ty5b) ty3 (fun _ _ h=>h)) rfl (gN rfl) rfl ?_
  rintro v40 (hV40:(Kd.int .i64).V _ ((mfind a1_s y23).getD 0) _)
  obtain rfl:=qa2 hV40
  refine qag (.tuple #[(.int .i64 ((mfind a1_s y23).getD 0)),(.bool ((mfind a1_s y23).isSome))]) rfl l0 hM33 (fun _=>R_mv rfl) rfl (gN rfl) rfl ?_
  refine qag (.int .i64 ((mfind a1_s y23).getD 0)) rfl l0 hM33 (fun _=>qf4 rfl rfl) rfl (gN rfl) rfl ?_
  refine qag (.bool ((mfind a1_s y23).isSome)) rfl l0 hM33 (fun _=>qf4 rfl rfl) rfl (gN rfl) rfl ?_
  refine qag (.int .i64 ((mfind a1_s y23).getD 0)) rfl l0 hM33 (fun _=>R_as rfl) rfl (gN rfl) rfl ?_
  refine qag (.bool ((mfind a1_s y23).isSome)) rfl l0 hM33 (fun _=>R_as rfl) rfl (gN rfl) rfl ?_
  refine qcq ?_
  refine qaf ?_
  refine qac ?_
  refine qaa (.bool ((mfind a1_s y23).isSome)) (R_mv rfl) rfl rfl ?_
  refine qaa (.bool (!((mfind a1_s y23).isSome))) (qgN rfl) rfl rfl ?_
  refine qaj ?_
  obtain ⟨J42,h,hJ42⟩:=h
  refine qkb [32,33,34,35,36,37,38,39,40,41] (fun l w=> ∃y42 K z1_1,J42 y42∧l=[]∧Ext (fun c=>mb (.map (some z1_1_23))=some c∨c=a0_n_b) w33 K31 w K∧Models w K∧Mp qab (Kd.int .i64) w K y42 (.map (some z1_1))∧(∀g,mb (.map (some z1_1))=some g→mb (.map (some z1_1_23))=some g∨w33.heap.size≤g)∧Bx qak w K a0_n_b a0_n_pre a0_n_post (a0_n_0v,(.map (some z1_1)))) ?_ ?_
  ·skip
   refine qau (!((mfind a1_s y23).isSome)) rfl (fun hc43=>?_) (fun hc43=>?_)
   ·have hd43: ¬(((mfind a1_s y23).isSome)=true):=qoh hc43
    have h:=h.1 hd43
    refine qbx (K:=K31) (fun c=>mb (.map (some z1_1_23))=some c∨w33.heap.size≤c) [.o 0 2,.o 1 2,.o 2 2,.o 3 2,.o 4 2,.o 5 2,.o 6 2,.o 7 2,.o 8 2,.o 9 2,.o 10 1] (by kernel_rfl) (by kernel_rfl) hM33 ?_
    rintro w44 hS44 hM44
    have hE44:=hE33.andN hS44
    refine qag (.pointer (some ⟨a0_n_b,a0_n_pre.length,none⟩)) rfl l0 hM44 (fun _=>R_mv rfl) rfl (gN rfl) rfl ?_
    refine qag (.pointer (some ⟨a0_n_b,a0_n_pre.length,none⟩)) rfl l0 hM44 (fun _=>qaB rfl) rfl (gN rfl) rfl ?_
    refine qag (.pointer (some ⟨a0_n_b,a0_n_pre.length+1,none⟩)) rfl l0 hM44 (fun _=>R_fa rfl Try.underlying39 rfl rfl qdJ rfl) rfl (gN rfl) rfl ?_
    have hR46:=(hR35.extN hS44)
    refine qbo hM44 (qaT (Foc.snd Kd.rsl Kd.rmp) rfl qdJ hR46 (by first | rfl | simp | omega) (fun h=>h)) rfl (gN rfl) rfl ?_
    rintro v45 (hV45:Kd.rmp.V _ (.map (some z1_1_23)) _)
    obtain rfl:=qbp hV45
    have hR48:=(hR38.extN hS44)
    refine qbo hM44 (qaT (Foc.id _) rfl ty24 hR48 (by first | rfl | simp | omega) (fun h=>h)) rfl (gN rfl) rfl ?_
    rintro v47 (hV47:qab.V _ a1_s _)
    refine qag (.pointer (some ⟨a0_n_b,a0_n_pre.length,none⟩)) rfl l0 hM44 (fun _=>R_mv rfl) rfl (gN rfl) rfl ?_
    refine qag (.pointer (some ⟨a0_n_b,a0_n_pre.length,none⟩)) rfl l0 hM44 (fun _=>qaB rfl) rfl (gN rfl) rfl ?_
    refine qag (.pointer (some ⟨a0_n_b,a0_n_pre.length+0,none⟩)) rfl l0 hM44 (fun _=>R_fa rfl Try.underlying39 rfl rfl qc4 rfl) rfl (gN rfl) rfl ?_
    refine qbo hM44 (qaT (Foc.fst Kd.rsl Kd.rmp) rfl qc4 hR46 (by first | rfl | simp | omega) (fun h=>h)) rfl (gN rfl) rfl ?_
    rintro v50 (hV50:Kd.rsl.V _ a0_n_0v _)
    obtain rfl:=qbp hV50
    refine qag (.int .i64 (a0_n_0.length:Int)) rfl l0 hM44 (fun _=>qdr rfl (hR10.V.mono (hS13.le.trans (hX31.le.trans (hS33.le.trans hS44.le)))) Try.underlying36) rfl (gN rfl) rfl ?_
    have hR52:=(hR41.extN hS44)
    refine qft rfl (gN rfl) rfl (qqL (qpA hM44 rfl rfl rfl hR52 hV47 (qeo (qbj ((hR10).V).wf.1)) Try.underlying37 (qb6 Try.underlying24 Try.underlying5 ty5b)) ?_)
    rintro w51 hO51 hS51 hM51
    have hS51:Ext (fun c=>mb (.map (some z1_1_23))=some c) w44 K31 w51 K31:=hS51.weak (fun c _ hc=>congrArg some hc.symm)
    refine ⟨K31,(hS51.weak (fun c hlt hx=>(.inl (hx)))),hM51,?_⟩
    have hE51:=hE44.comp hS51 (fun c hx hlt=>hf32 c hx hlt)
    refine qcq ?_
    have hR53:=(hR46.ext hS51 (fun hx=>(hR52.box hR46) hx))
    exact qhx.mk [] ⟨(mset a1_s (a0_n_0.length:Int) y23),K31,z1_1_23,h,rfl,(((Ext.refl _ _ _).andN hS44).comp hS51 (fun c hx hlt=>(.inl (hx)))),hM51,hO51,(fun g hg=>(.inl hg)),hR53⟩ (by repeat (first | exact Off.lay0 rfl | exact Off.refl _ _ | refine Off.updO ?_ rfl _ | refine Off.updN ?_ _ | refine Off.lay ?_ rfl)) (by repeat (first | exact trivial | refine ⟨rfl,?_⟩))
   ·have hd43:((mfind a1_s y23).isSome)=true:=qog hc43
    have h:=h.2 hd43
    refine qaE ?_
    exact qhx.mk [] ⟨y23,K31,z1_1_23,h,rfl,(Ext.refl _ _ _),hM33,hR41,(fun g hg=>(.inl hg)),hR35⟩ (by repeat (first | exact Off.lay0 rfl | exact Off.refl _ _ | refine Off.updO ?_ rfl _ | refine Off.updN ?_ _ | refine Off.lay ?_ rfl)) (by repeat (first | exact trivial | refine ⟨rfl,?_⟩))
  rintro l σ42 w54 ⟨y42,K54,z1_1_42,hI,rfl,hX54,hM54,hL42_z1_1,ho42_z1_1,hL42_1⟩
  have h:=hJ42 y42 hI
  have hE54:=hE33.comp hX54 (fun c hx hlt=>Or.elim hx (fun hx=>hf32 c hx hlt) (fun hx=>(by subst hx;exact (fun _=>(.inl rfl)) hlt)))
  have hf55: ∀g,mb (.map (some z1_1_42))=some g→g<w0.heap.size→g=a0_n_b∨ob a0_n_0v=some g∨mb a0_n_1v=some g:=fun g hg hlt=>(ho42_z1_1 g hg).elim (fun hx=>hf32 g hx hlt) (fun hx=>absurd hlt (Nat.not_lt.2 (Nat.le_trans hE33.size hx)))
  have hR56:=(hR10.extN hS13)
  have hR57:=((hR56.ext hX31 (fun g hg hx=>Or.elim hx (fun hx=>(fun g hg=>hR22.own hR56 g hg) g hg hx) (fun hx=>(fun g hg hx=>hR56.box hR20 (hg.trans (congrArg some hx))) g hg hx))).extN hS33)
  have hR58:=(hR57.ext hX54 (fun g hg hx=>Or.elim hx (fun hx=>(fun g hg=>hR41.own hR57 g hg) g hg hx) (fun hx=>(fun g hg hx=>hR57.box hR35 (hg.trans (congrArg some hx))) g hg hx)))
  have hR59:=(hR38.ext hX54 (fun hx=>Or.elim hx (fun hx=>(hR41.box hR38) hx) (fun hx=>(qb8 hge6 h_a0_n_B.lt) hx)))
  refine qbx (K:=K54) (fun c=>c=a0_n_b∨ob a0_n_0v=some c∨w54.heap.size≤c) [.o 0 3,.o 1 2,.o 2 2,.o 3 2,.o 4 2,.o 5 2,.o 6 2,.o 7 0,.o 8 2,.o 9 0,.o 10 1,.o 11 3,.o 12 3,.o 13 1] (by kernel_rfl) (by kernel_rfl) hM54 ?_
  rintro w60 hS60 hM60
  have hE60:=hE54.andN hS60
  refine qag (.pointer (some ⟨a0_n_b,a0_n_pre.length,none⟩)) rfl l3 hM60 (fun _=>R_mv rfl) rfl (gN rfl) rfl ?_
  refine qag (.pointer (some ⟨a0_n_b,a0_n_pre.length,none⟩)) rfl l0 hM60 (fun _=>R_mv rfl) rfl (gN rfl) rfl ?_
  refine qag (.pointer (some ⟨a0_n_b,a0_n_pre.length,none⟩)) rfl l0 hM60 (fun _=>qaB rfl) rfl (gN rfl) rfl ?_
  refine qag (.pointer (some ⟨a0_n_b,a0_n_pre.length+0,none⟩)) rfl l0 hM60 (fun _=>R_fa rfl Try.underlying39 rfl rfl qc4 rfl) rfl (gN rfl) rfl ?_
  have hR62:=(hL42_1.extN hS60)
  refine qbo hM60 (qaT (Foc.fst Kd.rsl Kd.rmp) rfl qc4 hR62 (by first | rfl | simp | omega) (fun h=>h)) rfl (gN rfl) rfl ?_
  rintro v61 (hV61:Kd.rsl.V _ a0_n_0v _)
  obtain rfl:=qbp hV61
  have hR64:=(hR59.extN hS60)
  refine qbo hM60 (qaT (Foc.id _) rfl ty24 hR64 (by first | rfl | simp | omega) (fun h=>h)) rfl (gN rfl) rfl ?_
  rintro v63 (hV63:qab.V _ a1_s _)
  refine qag a2_b_v rfl l0 hM60 (fun _=>R_mv rfl) rfl (gN rfl) rfl ?_
  have hR66:=(hR58.extN hS60)
  have hR67:=(hL42_z1_1.extN hS60)
  obtain ⟨hp69,h⟩:=h
  refine qdO rfl (gN rfl) rfl (qaL (qbn Try.call69 rfl) ((qeE hM60 (h_a2_b.mono (hS6.le.trans (hS13.le.trans (hX31.le.trans (hS33.le.trans (hX54.le.trans hS60.le)))))) hp69).mono ?_))
  rintro _ w68 ⟨K68,v68_0,rfl,hS68,hM68,hO68_0,hg68_0⟩
  refine ⟨v68_0,rfl,?_⟩
  refine ⟨K68,hS68,hM68,?_⟩
  have hE68:=hE60.andN hS68
  have h:=h hO68_0.wf
  refine WO_V rfl l0 hM68 (qnM (K:=K68) (vs:=[(0,v63),(1,v68_0)]) (Z:=(a1_s,a2_b)) qcI rfl Try.underlying146 (qqS Try.underlying146) rfl (Parts.cons rfl rfl ty24 (Foc.fst qab qah) (hV63.mono hS68.le) (Parts.cons rfl rfl ty32 (Foc.snd qab qah) hO68_0.V Parts.nil))) rfl (gN rfl) rfl ?_
  rintro v71 (hV71:qae.V _ (a1_s,a2_b) _)
  refine qdO rfl (gN rfl) rfl (ql0 (qjh (k:=qae) (l:=[((a1_s,a2_b),v71)]) hM68 rfl (by intro p hp;simp only [List.mem_cons,List.not_mem_nil,or_false] at hp;subst hp;exact hV71) rfl Try.underlying36 qcI rfl rfl) ?_)
  rintro v73 w73 K73 (hO73:Own qae 146 w73 K73 [(a1_s,a2_b)] v73) hS73 hM73 hg73
  refine ⟨K73,hS73,hM73,?_⟩
  have hE73:=hE68.andN hS73
  have hR75:=(hR66.extN hS68)
  have hR76:=((hR66.extN hS68).extN hS73)
  obtain ⟨hp78,h⟩:=h
  refine qft rfl (gN rfl) rfl (St_S (qnL hM73 rfl hR76 rfl hO73.V Try.underlying36 qcI rfl hp78) ?_)
  rintro v77 w77 K77 hO77 hS77 hM77 hob77
  refine ⟨K77,(hS77.weak (fun c hlt hx=>(.inr (.inl (hx))))),hM77,?_⟩
  have hE77:=hE73.comp hS77 (fun c hx hlt=>(fun g hg _=>(.inr (.inl hg))) c hx hlt)
  have hR79:=(hO73.ext hS77 (fun g hg hx=>(fun g hg hx=>absurd (hR75.lt _ hx) (Nat.not_lt.2 (hg73 g hg))) g hg hx))
  have hfx77: ∀g,ob v77=some g→g<w0.heap.size→g=a0_n_b∨ob a0_n_0v=some g∨mb a0_n_1v=some g:=fun g hg hlt=>by rcases hob77 with hq | hq<;>rw [hq] at hg;exact (fun g hg _=>(.inr (.inl hg))) g hg hlt;cases hg;exact absurd hlt (Nat.not_lt.2 hE73.size)
  have hs81: ∀g,ob v77=some g→¬(ob v73=some g):=fun g hg hx=>by rcases hob77 with hq | hq<;>rw [hq] at hg;exact (fun g hg hx=>(fun g hg hx=>absurd (hR75.lt _ hx) (Nat.not_lt.2 (hg73 g hg))) g hx hg) g hg hx;cases hg;exact absurd (hO73.lt _ hx) (Nat.not_lt.2 (Nat.le_refl _))
  refine qag (.pointer (some ⟨a0_n_b,a0_n_pre.length,none⟩)) rfl l3 hM77 (fun _=>qaB rfl) rfl (gN rfl) rfl ?_
  refine qag (.pointer (some ⟨a0_n_b,a0_n_pre.length+0,none⟩)) rfl l3 hM77 (fun _=>R_fa rfl Try.underlying39 rfl rfl qc4 rfl) rfl (gN rfl) rfl ?_
  have hR83:=((hR62.extN hS68).extN hS73)
  have hR84:=(hR83.ext hS77 (fun hx=>(hR76.box hR83) hx))
  refine qft rfl (gN rfl) rfl (qf7 (qf6 (Foc.fst Kd.rsl Kd.rmp) hM77 rfl rfl (rw_V hO77.one) qc4 hR84 (by first | rfl | simp | omega)) ?_)
  rintro w82 (hB82:Bx qak _ _ a0_n_b a0_n_pre a0_n_post (v77,(.map (some z1_1_42)))) hS82 hM82
  refine ⟨K77,(hS82.weak (fun c hlt hx=>(.inl (hx)))),hM82,?_⟩
  have hE82:=hE77.comp hS82 (fun c hx hlt=>(by subst hx;exact (fun _=>(.inl rfl)) hlt))
  refine qcq ?_
  have hR85:=(hO77.ext hS82 (fun g hg hx=>(fun g hg hx=>hO77.box hR84 (hg.trans (congrArg some hx))) g hg hx))
  have hR86:=((hR67.extN hS68).extN hS73)
  have hR87:=(hR86.ext hS77 (fun g hg hx=>(fun g hg hx=>hR86.own hR76 g hx hg) g hg hx))
  have hR88:=(hR87.ext hS82 (fun g hg hx=>(fun g hg hx=>hR87.box hR84 (hg.trans (congrArg some hx))) g hg hx))
  exact qgk hR (v:=(.tuple #[])) (qiW rfl) ⟨K77,v77,(.map (some z1_1_42)),(a0_n_0++ [(a1_s,a2_b)]),y42,rfl,h,hE82,hM82,hB82,hR85,(fun g hg=>(by have hg:ob v77=some g:=hg;rcases hob77 with hq | hq<;>rw [hq] at hg;exact (.inl hg);cases hg;exact .inr hE73.size)),hR88,(fun g hg=>((ho42_z1_1 g hg).elim (fun hz=>((ho23_z1_1 g hz).elim (fun hz=>(.inl hz)) (fun hz=> .inr (Nat.le_trans hE13.size hz)))) (fun hz=> .inr (Nat.le_trans hE33.size hz))))⟩
theorem qnQ {w0:World} {K0:Ghost} {a0_n_b:Nat} {a0_n_pre a0_n_post:List Value} {a0_n_0v:Value} {a0_n_0:(List ((List UInt8)×(List UInt8)))} {a0_n_1v:Value} {a0_n_1:(List ((List UInt8)×Int))} {a1_s_v:Value} {a1_s:(List UInt8)} {a2_b_v:Value} {a2_b:(List UInt8)} (hM0:Models w0 K0) (h_a0_n_B:Bx qak w0 K0 a0_n_b a0_n_pre a0_n_post (a0_n_0v,a0_n_1v)) (h_a0_n_0:Own qae 146 w0 K0 a0_n_0 a0_n_0v) (h_a0_n_1:Mp qab (Kd.int .i64) w0 K0 a0_n_1 a0_n_1v) (h_a1_s:qab.V K0 a1_s a1_s_v) (h_a2_b:qah.V K0 a2_b a2_b_v) (hp:qaK a0_n_0 a0_n_1∧a2_b.length≤140737488355328∧(a0_n_0.length+1) *64≤140737488355328):Calls Try.prog 86 #[(.pointer (some ⟨a0_n_b,a0_n_pre.length,none⟩)),a1_s_v,a2_b_v] w0 (fun e w'=> ∃(K':Ghost) (u0_0:Value) (u0_1:Value),e= .returned (.tuple #[])∧Ext (fun c=>c=a0_n_b∨ob a0_n_0v=some c∨mb a0_n_1v=some c) w0 K0 w' K'∧Models w' K'∧Bx qak w' K' a0_n_b a0_n_pre a0_n_post (u0_0,u0_1)∧Own qae 146 w' K' (addL a0_n_0 a1_s a2_b) u0_0∧(∀g,ob u0_0=some g→ob a0_n_0v=some g∨w0.heap.size≤g)∧Mp qab (Kd.int .i64) w' K' (addM a0_n_0 a0_n_1 a1_s a2_b) u0_1∧(∀g,mb u0_1=some g→mb a0_n_1v=some g∨w0.heap.size≤g)):=by
 refine (ql4 hM0 h_a0_n_B h_a0_n_0 h_a0_n_1 h_a1_s h_a2_b (qpH h_a1_s.wf h_a2_b.wf hp)).mono ?_
 rintro _ w' ⟨K',u0,u1,o0,o1,rfl,⟨rfl,rfl⟩,hF⟩
 exact ⟨K',u0,u1,rfl,hF⟩
abbrev qal:Kd ((Value×Value)×Int):=(Kd.pr qak (Kd.int .i64))
def qfV (a0_k_0_0:(List ((List UInt8)×(List UInt8)))) (a0_k_0_1:(List ((List UInt8)×Int))) (a0_k_1:Int) (Q:Int→Prop):Prop:=
 Q a0_k_1
theorem qlG {a0_k_0_0:(List ((List UInt8)×(List UInt8)))} {a0_k_0_1:(List ((List UInt8)×Int))} {a0_k_1:Int}:qfV a0_k_0_0 a0_k_0_1 a0_k_1 (fun o0=>o0=a0_k_1):=by
 exact rfl
theorem qi7 {w0:World} {K0:Ghost} {a0_k_b:Nat} {a0_k_pre a0_k_post:List Value} {a0_k_0_0v:Value} {a0_k_0_0:(List ((List UInt8)×(List UInt8)))} {a0_k_0_1v:Value} {a0_k_0_1:(List ((List UInt8)×Int))} {a0_k_1:Int} {Q:Int→Prop} (hM0:Models w0 K0) (h_a0_k_B:Bx qal w0 K0 a0_k_b a0_k_pre a0_k_post ((a0_k_0_0v,a0_k_0_1v),a0_k_1)) (h_a0_k_0_0:Own qae 146 w0 K0 a0_k_0_0 a0_k_0_0v) (h_a0_k_0_1:Mp qab (Kd.int .i64) w0 K0 a0_k_0_1 a0_k_0_1v) (h:qfV a0_k_0_0 a0_k_0_1 a0_k_1 Q):Calls Try.prog 99 #[(.pointer (some ⟨a0_k_b,a0_k_pre.length,none⟩))] w0 (fun e w'=> ∃(K':Ghost) (r0:Value) (o0:Int),e= .returned r0∧Q o0∧Ext NX w0 K0 w' K'∧Models w' K'∧(Kd.int .i64).V K' o0 r0):=by
 unfold qfV at h
 have hE0:Ext NX w0 K0 w0 K0:=Ext.refl _ _ _
 refine qay fun R hR=>?_
 refine qax (args:=[(.pointer (some ⟨a0_k_b,a0_k_pre.length,none⟩))]) Try.func99 rfl (Nat.le_of_ble_eq_true rfl) ?_
 refine qaf ?_
 refine qac ?_
 refine qaa (.int .i64 0) (R_as rfl) rfl rfl ?_
 refine qaj ?_
 refine qaf ?_
 refine qaf ?_
 refine qac ?_
 refine qaa (.pointer (some ⟨a0_k_b,a0_k_pre.length,none⟩)) (R_mv rfl) rfl rfl ?_
 refine qaa (.bool false) (qjg rfl rfl Try.underlying35) rfl rfl ?_
 refine qaj ?_
 refine qau false rfl (fun hc=>by cases hc) (fun _=>?_)
 refine qaE ?_
 refine qaf ?_
 refine qac ?_
 refine qaa (.pointer (some ⟨a0_k_b,a0_k_pre.length,none⟩)) (R_mv rfl) rfl rfl ?_
 refine qaa (.pointer (some ⟨a0_k_b,a0_k_pre.length,none⟩)) (qaB rfl) rfl rfl ?_
 refine qaa (.pointer (some ⟨a0_k_b,a0_k_pre.length+2,none⟩)) (R_fa rfl Try.underlying41 rfl rfl ty3 rfl) rfl rfl ?_
 refine WL_L hM0 (qaT (Foc.snd qak (Kd.int .i64)) rfl ty3 h_a0_k_B (by first | rfl | simp | omega) (fun h=>h)) rfl rfl ?_
 rintro v4 (hV4:(Kd.int .i64).V _ a0_k_1 _)
 obtain rfl:=qa2 hV4
 refine qaa (.int .i64 a0_k_1) (R_as rfl) rfl rfl ?_
 refine qaj ?_
 refine qa4 ?_
 exact qaC hR (v:=(.int .i64 a0_k_1)) (qcb rfl rfl) ⟨K0,(.int .i64 a0_k_1),a0_k_1,rfl,h,hE0,hM0,(qeo (hV4).wf)⟩
theorem qno {w0:World} {K0:Ghost} {a0_k_b:Nat} {a0_k_pre a0_k_post:List Value} {a0_k_0_0v:Value} {a0_k_0_0:(List ((List UInt8)×(List UInt8)))} {a0_k_0_1v:Value} {a0_k_0_1:(List ((List UInt8)×Int))} {a0_k_1:Int} (hM0:Models w0 K0) (h_a0_k_B:Bx qal w0 K0 a0_k_b a0_k_pre a0_k_post ((a0_k_0_0v,a0_k_0_1v),a0_k_1)) (h_a0_k_0_0:Own qae 146 w0 K0 a0_k_0_0 a0_k_0_0v) (h_a0_k_0_1:Mp qab (Kd.int .i64) w0 K0 a0_k_0_1 a0_k_0_1v):Calls Try.prog 99 #[(.pointer (some ⟨a0_k_b,a0_k_pre.length,none⟩))] w0 (fun e w'=> ∃(K':Ghost) (r0:Value),e= .returned r0∧Ext NX w0 K0 w' K'∧Models w' K'∧(Kd.int .i64).V K' a0_k_1 r0):=by
 refine (qi7 hM0 h_a0_k_B h_a0_k_0_0 h_a0_k_0_1 (qlG)).mono ?_
 rintro _ w' ⟨K',r0,o0,rfl,rfl,hF⟩
 exact ⟨K',r0,rfl,hF⟩
theorem ty39:TyOk Try.prog 39 qak 32:=⟨⟨Try.t39,_,Try.type39,rfl,rfl,rfl,rfl,rfl⟩,⟨_,Try.underlying39,rfl⟩⟩
def qhA (a0_k_0_0:(List ((List UInt8)×(List UInt8)))) (a0_k_0_1:(List ((List UInt8)×Int))) (a0_k_1:Int) (a1_s:(List UInt8)) (a2_b:(List UInt8)) (Q:(List ((List UInt8)×(List UInt8)))→(List ((List UInt8)×Int))→Int→Prop):Prop:=
 (qaK a0_k_0_0 a0_k_0_1∧a2_b.length≤140737488355328∧(a0_k_0_0.length+1) *64≤140737488355328)∧(Q (addL a0_k_0_0 a1_s a2_b) (addM a0_k_0_0 a0_k_0_1 a1_s a2_b) a0_k_1)
theorem qnF {a0_k_0_0:(List ((List UInt8)×(List UInt8)))} {a0_k_0_1:(List ((List UInt8)×Int))} {a0_k_1:Int} {a1_s:(List UInt8)} {a2_b:(List UInt8)} (w_0:qab.wf a1_s) (w_1:qah.wf a2_b) (hp:qaK a0_k_0_0 a0_k_0_1∧a2_b.length≤140737488355328∧(a0_k_0_0.length+1) *64≤140737488355328):qhA a0_k_0_0 a0_k_0_1 a0_k_1 a1_s a2_b (fun o0 o1 o2=>o0=(addL a0_k_0_0 a1_s a2_b)∧o1=(addM a0_k_0_0 a0_k_0_1 a1_s a2_b)∧o2=a0_k_1):=by
 exact ⟨hp,rfl,rfl,rfl⟩
theorem qjV {w0:World} {K0:Ghost} {a0_k_b:Nat} {a0_k_pre a0_k_post:List Value} {a0_k_0_0v:Value} {a0_k_0_0:(List ((List UInt8)×(List UInt8)))} {a0_k_0_1v:Value} {a0_k_0_1:(List ((List UInt8)×Int))} {a0_k_1:Int} {a1_s_v:Value} {a1_s:(List UInt8)} {a2_b_v:Value} {a2_b:(List UInt8)} {Q:(List ((List UInt8)×(List UInt8)))→(List ((List UInt8)×Int))→Int→Prop} (hM0:Models w0 K0) (h_a0_k_B:Bx qal w0 K0 a0_k_b a0_k_pre a0_k_post ((a0_k_0_0v,a0_k_0_1v),a0_k_1)) (h_a0_k_0_0:Own qae 146 w0 K0 a0_k_0_0 a0_k_0_0v) (h_a0_k_0_1:Mp qab (Kd.int .i64) w0 K0 a0_k_0_1 a0_k_0_1v) (h_a1_s:qab.V K0 a1_s a1_s_v) (h_a2_b:qah.V K0 a2_b a2_b_v) (h:qhA a0_k_0_0 a0_k_0_1 a0_k_1 a1_s a2_b Q):Calls Try.prog 56 #[(.pointer (some ⟨a0_k_b,a0_k_pre.length,none⟩)),a1_s_v,a2_b_v] w0 (fun e w'=> ∃(K':Ghost) (u0_0_0:Value) (u0_0_1:Value) (o0:(List ((List UInt8)×(List UInt8)))) (o1:(List ((List UInt8)×Int))) (o2:Int),e= .returned (.tuple #[])∧Q o0 o1 o2∧Ext (fun c=>c=a0_k_b∨ob a0_k_0_0v=some c∨mb a0_k_0_1v=some c) w0 K0 w' K'∧Models w' K'∧Bx qal w' K' a0_k_b a0_k_pre a0_k_post ((u0_0_0,u0_0_1),o2)∧Own qae 146 w' K' o0 u0_0_0∧(∀g,ob u0_0_0=some g→ob a0_k_0_0v=some g∨w0.heap.size≤g)∧Mp qab (Kd.int .i64) w' K' o1 u0_0_1∧(∀g,mb u0_0_1=some g→mb a0_k_0_1v=some g∨w0.heap.size≤g)):=by
 unfold qhA at h
 have hE0:Ext (fun c=>c=a0_k_b∨ob a0_k_0_0v=some c∨mb a0_k_0_1v=some c) w0 K0 w0 K0:=Ext.refl _ _ _
 refine qay fun R hR=>?_
 refine qax (args:=[(.pointer (some ⟨a0_k_b,a0_k_pre.length,none⟩)),a1_s_v,a2_b_v]) Try.func56 rfl (Nat.le_of_ble_eq_true rfl) ?_
 refine qaf ?_
 refine qac ?_
 refine qaw rfl rfl (St_B (qei hM0 rfl h_a1_s) ?_)
 rintro b6 w6 (hB6:Bx qab _ _ _ _ _ a1_s) hS6 hM6 hge6
 have hE6:=hE0.andN hS6
 refine qaj ?_
 refine qaf ?_
 refine qac ?_
 refine qaa (.pointer (some ⟨a0_k_b,a0_k_pre.length,none⟩)) (R_mv rfl) rfl rfl ?_
 refine qaa (.bool true) (qj1 rfl rfl Try.underlying35) rfl rfl ?_
 refine qaj ?_
 refine qau true rfl (fun _=>?_) (fun hc=>by cases hc)
 have hR8:=(h_a0_k_B.extN hS6)
 have hR9:=(h_a0_k_0_0.extN hS6)
 have hR10:=(h_a0_k_0_1.extN hS6)
 refine qbx (K:=K0) (fun c=>c=a0_k_b∨ob a0_k_0_0v=some c∨mb a0_k_0_1v=some c∨w6.heap.size≤c) [.o 0 2,.o 1 2,.o 2 2,.o 3 2,.o 4 2,.o 5 1] (by kernel_rfl) (by kernel_rfl) hM6 ?_
 rintro w11 hS11 hM11
 have hE11:=hE6.andN hS11
 refine qag (.pointer (some ⟨a0_k_b,a0_k_pre.length,none⟩)) rfl l0 hM11 (fun _=>R_mv rfl) rfl (gN rfl) rfl ?_
 refine qag (.pointer (some ⟨a0_k_b,a0_k_pre.length,none⟩)) rfl l0 hM11 (fun _=>qaB rfl) rfl (gN rfl) rfl ?_
 refine qag (.pointer (some ⟨a0_k_b,a0_k_pre.length+0,none⟩)) rfl l0 hM11 (fun _=>R_fa rfl Try.underlying41 rfl rfl ty39 rfl) rfl (gN rfl) rfl ?_
 have hR13:=(hB6.extN hS11)
 refine qbo hM11 (qaT (Foc.id _) rfl ty24 hR13 (by first | rfl | simp | omega) (fun h=>h)) rfl (gN rfl) rfl ?_
 rintro v12 (hV12:qab.V _ a1_s _)
 refine qag a2_b_v rfl l0 hM11 (fun _=>R_mv rfl) rfl (gN rfl) rfl ?_
 have hR15:=(hR9.extN hS11)
 have hR16:=(hR10.extN hS11)
 have hR17:=(hR8.extN hS11)
 obtain ⟨p19,q19,hl19,hB19,hback19⟩:=Bx.sub (Foc.fst qak (Kd.int .i64)) hR17
 obtain ⟨hp20,h⟩:=h
 refine qft rfl (gN rfl) rfl (qaL (qbn Try.call86 (mapC (show (Value.pointer (some ⟨a0_k_b,a0_k_pre.length+0,none⟩))= .pointer (some ⟨a0_k_b,((a0_k_pre:List Value)++p19).length,none⟩) from by rw [List.length_append,hl19];first | done | simp) (mapC rfl (mapC rfl mapN)))) ((qnQ hM11 hB19 hR15 hR16 hV12 (h_a2_b.mono (hS6.le.trans hS11.le)) hp20).mono ?_))
 rintro _ w18 ⟨K18,u18_0_0,u18_0_1,rfl,hS18,hM18,hB18_m0,hu18_0_0,hxu18_0_0,hu18_0_1,hxu18_0_1⟩
 refine ⟨(.tuple #[]),rfl,?_⟩
 refine ⟨K18,(hS18.weak (fun c hlt hx=>Or.elim hx (fun hx=>(.inl (hx))) (fun hx=>Or.elim hx (fun hx=>(.inr (.inl (hx)))) (fun hx=>(.inr (.inr (.inl (hx)))))))),hM18,?_⟩
 have hE18:=hE11.comp hS18 (fun c hx hlt=>Or.elim hx (fun hx=>(by subst hx;exact (fun _=>(.inl rfl)) hlt)) (fun hx=>Or.elim hx (fun hx=>(fun g hg _=>(.inr (.inl hg))) c hx hlt) (fun hx=>(fun g hg _=>(.inr (.inr (hg)))) c hx hlt)))
 have hf21: ∀g,ob u18_0_0=some g→g<w0.heap.size→g=a0_k_b∨ob a0_k_0_0v=some g∨mb a0_k_0_1v=some g:=fun g hg hlt=>(hxu18_0_0 g hg).elim (fun hx=>(fun g hg _=>(.inr (.inl hg))) g hx hlt) (fun hx=>absurd hlt (Nat.not_lt.2 (Nat.le_trans hE11.size hx)))
 have hf22: ∀g,mb u18_0_1=some g→g<w0.heap.size→g=a0_k_b∨ob a0_k_0_0v=some g∨mb a0_k_0_1v=some g:=fun g hg hlt=>(hxu18_0_1 g hg).elim (fun hx=>(fun g hg _=>(.inr (.inr (hg)))) g hx hlt) (fun hx=>absurd hlt (Nat.not_lt.2 (Nat.le_trans hE11.size hx)))
 have hB18_w:Bx qal w18 K18 a0_k_b a0_k_pre a0_k_post ((u18_0_0,u18_0_1),a0_k_1):=hback19 hS18.le hB18_m0
 refine qcq ?_
 exact qgk hR (v:=(.tuple #[])) (qiW rfl) ⟨K18,u18_0_0,u18_0_1,(addL a0_k_0_0 a1_s a2_b),(addM a0_k_0_0 a0_k_0_1 a1_s a2_b),a0_k_1,rfl,h,hE18,hM18,hB18_w,hu18_0_0,(fun g hg=>((hxu18_0_0 g hg).elim (fun hz=>(.inl hz)) (fun hz=> .inr (Nat.le_trans hE11.size hz)))),hu18_0_1,(fun g hg=>((hxu18_0_1 g hg).elim (fun hz=>(.inl hz)) (fun hz=> .inr (Nat.le_trans hE11.size hz))))⟩
theorem qoW {w0:World} {K0:Ghost} {a0_k_b:Nat} {a0_k_pre a0_k_post:List Value} {a0_k_0_0v:Value} {a0_k_0_0:(List ((List UInt8)×(List UInt8)))} {a0_k_0_1v:Value} {a0_k_0_1:(List ((List UInt8)×Int))} {a0_k_1:Int} {a1_s_v:Value} {a1_s:(List UInt8)} {a2_b_v:Value} {a2_b:(List UInt8)} (hM0:Models w0 K0) (h_a0_k_B:Bx qal w0 K0 a0_k_b a0_k_pre a0_k_post ((a0_k_0_0v,a0_k_0_1v),a0_k_1)) (h_a0_k_0_0:Own qae 146 w0 K0 a0_k_0_0 a0_k_0_0v) (h_a0_k_0_1:Mp qab (Kd.int .i64) w0 K0 a0_k_0_1 a0_k_0_1v) (h_a1_s:qab.V K0 a1_s a1_s_v) (h_a2_b:qah.V K0 a2_b a2_b_v) (hp:qaK a0_k_0_0 a0_k_0_1∧a2_b.length≤140737488355328∧(a0_k_0_0.length+1) *64≤140737488355328):Calls Try.prog 56 #[(.pointer (some ⟨a0_k_b,a0_k_pre.length,none⟩)),a1_s_v,a2_b_v] w0 (fun e w'=> ∃(K':Ghost) (u0_0_0:Value) (u0_0_1:Value),e= .returned (.tuple #[])∧Ext (fun c=>c=a0_k_b∨ob a0_k_0_0v=some c∨mb a0_k_0_1v=some c) w0 K0 w' K'∧Models w' K'∧Bx qal w' K' a0_k_b a0_k_pre a0_k_post ((u0_0_0,u0_0_1),a0_k_1)∧Own qae 146 w' K' (addL a0_k_0_0 a1_s a2_b) u0_0_0∧(∀g,ob u0_0_0=some g→ob a0_k_0_0v=some g∨w0.heap.size≤g)∧Mp qab (Kd.int .i64) w' K' (addM a0_k_0_0 a0_k_0_1 a1_s a2_b) u0_0_1∧(∀g,mb u0_0_1=some g→mb a0_k_0_1v=some g∨w0.heap.size≤g)):=by
 refine (qjV hM0 h_a0_k_B h_a0_k_0_0 h_a0_k_0_1 h_a1_s h_a2_b (qnF h_a1_s.wf h_a2_b.wf hp)).mono ?_
 rintro _ w' ⟨K',u0,u1,o0,o1,o2,rfl,⟨rfl,rfl,rfl⟩,hF⟩
 exact ⟨K',u0,u1,rfl,hF⟩
def qfZ (a0_k_0_0:(List ((List UInt8)×(List UInt8)))) (a0_k_0_1:(List ((List UInt8)×Int))) (a0_k_1:Int) (a1_s:(List UInt8)) (Q:(List UInt8)→Bool→Prop):Prop:=
 ((¬(((mfind a1_s a0_k_0_1).isSome)=true))→Q ([]:List UInt8) false)∧((((mfind a1_s a0_k_0_1).isSome)=true)→(0≤((mfind a1_s a0_k_0_1).getD 0)∧((mfind a1_s a0_k_0_1).getD 0)<(a0_k_0_0.length:Int))∧((((ix a0_k_0_0 ((mfind a1_s a0_k_0_1).getD 0)).2).length≤140737488355328)∧((qah.wf ((ix a0_k_0_0 ((mfind a1_s a0_k_0_1).getD 0)).2))→(Q ((ix a0_k_0_0 ((mfind a1_s a0_k_0_1).getD 0)).2) true))))
theorem qnu {a0_k_0_0:(List ((List UInt8)×(List UInt8)))} {a0_k_0_1:(List ((List UInt8)×Int))} {a0_k_1:Int} {a1_s:(List UInt8)} (w_0:qab.wf a1_s) (hp:qaK a0_k_0_0 a0_k_0_1∧∀x∈a0_k_0_0,x.2.length≤140737488355328):qfZ a0_k_0_0 a0_k_0_1 a0_k_1 a1_s (fun o0 o1=>o0=(qfJ a0_k_0_0 a1_s)∧o1=(qaq a1_s a0_k_0_0 0).isSome):=by
 obtain ⟨h1,h2⟩:=hp
 unfold qfZ
 rw [h1 a1_s]
 refine ⟨fun h=>?_,fun h=>?_⟩
 ·cases hf:qaq a1_s a0_k_0_0 0 with
  | none=>exact ⟨by simp [qfJ,hf],rfl⟩
  | some a=>rw [hf] at h;exact absurd rfl h
 ·cases hf:qaq a1_s a0_k_0_0 0 with
  | none=>rw [hf] at h;cases h
  | some a=>
    obtain ⟨j,rfl,hl, -⟩:=qbg hf
    simp only [Option.getD_some]
    refine ⟨⟨by omega,by omega⟩,h2 _ (qdA (by omega) (by omega)),fun _=>⟨by simp [qfJ,hf],rfl⟩⟩
theorem qjM {w0:World} {K0:Ghost} {a0_k_b:Nat} {a0_k_pre a0_k_post:List Value} {a0_k_0_0v:Value} {a0_k_0_0:(List ((List UInt8)×(List UInt8)))} {a0_k_0_1v:Value} {a0_k_0_1:(List ((List UInt8)×Int))} {a0_k_1:Int} {a1_s_v:Value} {a1_s:(List UInt8)} {Q:(List UInt8)→Bool→Prop} (hM0:Models w0 K0) (h_a0_k_B:Bx qal w0 K0 a0_k_b a0_k_pre a0_k_post ((a0_k_0_0v,a0_k_0_1v),a0_k_1)) (h_a0_k_0_0:Own qae 146 w0 K0 a0_k_0_0 a0_k_0_0v) (h_a0_k_0_1:Mp qab (Kd.int .i64) w0 K0 a0_k_0_1 a0_k_0_1v) (h_a1_s:qab.V K0 a1_s a1_s_v) (h:qfZ a0_k_0_0 a0_k_0_1 a0_k_1 a1_s Q):Calls Try.prog 52 #[(.pointer (some ⟨a0_k_b,a0_k_pre.length,none⟩)),a1_s_v] w0 (fun e w'=> ∃(K':Ghost) (r0:Value) (r1:Value) (o0:(List UInt8)) (o1:Bool),e= .returned (.tuple #[r0,r1])∧Q o0 o1∧Ext NX w0 K0 w' K'∧Models w' K'∧Own Kd.byte 5 w' K' o0 r0∧(∀g,ob r0=some g→w0.heap.size≤g)∧Kd.bool.V K' o1 r1):=by
 unfold qfZ at h
 have hE0:Ext NX w0 K0 w0 K0:=Ext.refl _ _ _
 refine qay fun R hR=>?_
 refine qax (args:=[(.pointer (some ⟨a0_k_b,a0_k_pre.length,none⟩)),a1_s_v]) Try.func52 rfl (Nat.le_of_ble_eq_true rfl) ?_
 refine qaf ?_
 refine qac ?_
 refine qaw rfl rfl (St_B (qei hM0 rfl h_a1_s) ?_)
 rintro b5 w5 (hB5:Bx qab _ _ _ _ _ a1_s) hS5 hM5 hge5
 have hE5:=hE0.andN hS5
 have hR7:Own Kd.byte 5 w5 K0 ([]:List UInt8) (.slice none 0 0):=Own.nil
 refine qaa (.slice none 0 0) (R_as rfl) rfl rfl ?_
 refine qaa (.bool false) (R_as rfl) rfl rfl ?_
 refine qaj ?_
 refine qaf ?_
 refine qaf ?_
 refine qac ?_
 refine qaa (.pointer (some ⟨a0_k_b,a0_k_pre.length,none⟩)) (R_mv rfl) rfl rfl ?_
 refine qaa (.bool false) (qjg rfl rfl Try.underlying35) rfl rfl ?_
 refine qaj ?_
 refine qau false rfl (fun hc=>by cases hc) (fun _=>?_)
 refine qaE ?_
 refine qaf ?_
 refine qbx (K:=K0) NX [.o 0 2,.o 1 2,.o 2 2,.o 3 2,.o 4 2,.o 5 2,.o 6 2,.o 7 2,.o 8 2,.o 9 2,.o 10 2,.o 11 2] (by kernel_rfl) (by kernel_rfl) hM5 ?_
 rintro w8 hS8 hM8
 have hE8:=hE5.andN hS8
 refine qag (.pointer (some ⟨a0_k_b,a0_k_pre.length,none⟩)) rfl l0 hM8 (fun _=>R_mv rfl) rfl (gN rfl) rfl ?_
 refine qag (.pointer (some ⟨a0_k_b,a0_k_pre.length,none⟩)) rfl l0 hM8 (fun _=>qaB rfl) rfl (gN rfl) rfl ?_
 refine qag (.pointer (some ⟨a0_k_b,a0_k_pre.length+0,none⟩)) rfl l0 hM8 (fun _=>R_fa rfl Try.underlying41 rfl rfl ty39 rfl) rfl (gN rfl) rfl ?_
 refine qag (.pointer (some ⟨a0_k_b,a0_k_pre.length+0+1,none⟩)) rfl l0 hM8 (fun _=>R_fa rfl Try.underlying39 rfl rfl qdJ rfl) rfl (gN rfl) rfl ?_
 have hR10:=((h_a0_k_B.extN hS5).extN hS8)
 refine qbo hM8 (qaT (Foc.trans (Foc.fst qak (Kd.int .i64)) (Foc.snd Kd.rsl Kd.rmp)) rfl qdJ hR10 (by first | rfl | simp | omega) (fun h=>h)) rfl (gN rfl) rfl ?_
 rintro v9 (hV9:Kd.rmp.V _ a0_k_0_1v _)
 obtain rfl:=qbp hV9
 have hR12:=(hB5.extN hS8)
 refine qbo hM8 (qaT (Foc.id _) rfl ty24 hR12 (by first | rfl | simp | omega) (fun h=>h)) rfl (gN rfl) rfl ?_
 rintro v11 (hV11:qab.V _ a1_s _)
 have hR15:=((h_a0_k_0_1.extN hS5).extN hS8)
 refine qit hM8 (qj5 (kv:=(Kd.int .i64)) rfl rfl hR15 hV11 Try.underlying37 (qb6 Try.underlying24 Try.underlying5 ty5b) ty3 (fun _ _ h=>h)) rfl (gN rfl) rfl ?_
 rintro v14 (hV14:(Kd.int .i64).V _ ((mfind a1_s a0_k_0_1).getD 0) _)
 obtain rfl:=qa2 hV14
 refine qag (.tuple #[(.int .i64 ((mfind a1_s a0_k_0_1).getD 0)),(.bool ((mfind a1_s a0_k_0_1).isSome))]) rfl l0 hM8 (fun _=>R_mv rfl) rfl (gN rfl) rfl ?_
 refine qag (.int .i64 ((mfind a1_s a0_k_0_1).getD 0)) rfl l0 hM8 (fun _=>qf4 rfl rfl) rfl (gN rfl) rfl ?_
 refine qag (.bool ((mfind a1_s a0_k_0_1).isSome)) rfl l0 hM8 (fun _=>qf4 rfl rfl) rfl (gN rfl) rfl ?_
 refine qag (.int .i64 ((mfind a1_s a0_k_0_1).getD 0)) rfl l0 hM8 (fun _=>R_as rfl) rfl (gN rfl) rfl ?_
 refine qag (.bool ((mfind a1_s a0_k_0_1).isSome)) rfl l0 hM8 (fun _=>R_as rfl) rfl (gN rfl) rfl ?_
 refine qcq ?_
 refine qaf ?_
 refine qaf ?_
 refine qac ?_
 refine qaa (.bool ((mfind a1_s a0_k_0_1).isSome)) (R_mv rfl) rfl rfl ?_
 refine qaa (.bool (!((mfind a1_s a0_k_0_1).isSome))) (qgN rfl) rfl rfl ?_
 refine qaj ?_
 refine qau (!((mfind a1_s a0_k_0_1).isSome)) rfl (fun hc16=>?_) (fun hc16=>?_)
 ·have hd16: ¬(((mfind a1_s a0_k_0_1).isSome)=true):=qoh hc16
  have h:=h.1 hd16
  refine qaf ?_
  refine qac ?_
  have hR17:Own Kd.byte 5 w8 K0 ([]:List UInt8) (.slice none 0 0):=Own.nil
  refine qaa (.slice none 0 0) (R_as rfl) rfl rfl ?_
  refine qaa (.bool false) (R_as rfl) rfl rfl ?_
  refine qaj ?_
  refine qa4 ?_
  exact qaC hR (v:=(.tuple #[(.slice none 0 0),(.bool false)])) (qla rfl rfl rfl) ⟨K0,(.slice none 0 0),(.bool false),([]:List UInt8),false,rfl,h,hE8,hM8,hR17,(fun g hg=>nilS hg),qcs⟩
 ·have hd16:((mfind a1_s a0_k_0_1).isSome)=true:=qog hc16
  have h:=h.2 hd16
  refine qaE ?_
  refine qaf ?_
  refine qac ?_
  refine qaa (.pointer (some ⟨a0_k_b,a0_k_pre.length,none⟩)) (R_mv rfl) rfl rfl ?_
  refine qaa (.pointer (some ⟨a0_k_b,a0_k_pre.length,none⟩)) (qaB rfl) rfl rfl ?_
  refine qaa (.pointer (some ⟨a0_k_b,a0_k_pre.length+0,none⟩)) (R_fa rfl Try.underlying41 rfl rfl ty39 rfl) rfl rfl ?_
  refine qaa (.pointer (some ⟨a0_k_b,a0_k_pre.length+0+0,none⟩)) (R_fa rfl Try.underlying39 rfl rfl qc4 rfl) rfl rfl ?_
  refine WL_L hM8 (qaT (Foc.trans (Foc.fst qak (Kd.int .i64)) (Foc.fst Kd.rsl Kd.rmp)) rfl qc4 hR10 (by first | rfl | simp | omega) (fun h=>h)) rfl rfl ?_
  rintro v18 (hV18:Kd.rsl.V _ a0_k_0_0v _)
  obtain rfl:=qbp hV18
  refine qaa (.int .i64 ((mfind a1_s a0_k_0_1).getD 0)) (R_mv rfl) rfl rfl ?_
  obtain ⟨hp20,h⟩:=h
  refine WL_P (qej rfl (h_a0_k_0_0.V.mono (hS5.le.trans hS8.le)) rfl Try.underlying36 qcI hp20.1 hp20.2) rfl rfl ?_
  rintro b19 o19 hP19
  have hP22:=Kd.Pt.foc (Foc.snd qab qah) hP19
  refine qaa (.pointer (some ⟨b19,o19+32,none⟩)) (R_fa rfl Try.underlying146 rfl rfl ty32 rfl) rfl rfl ?_
  refine WL_L hM8 (S_ld rfl ty32 hP22) rfl rfl ?_
  rintro v24 (hV24:qah.V _ ((ix a0_k_0_0 ((mfind a1_s a0_k_0_1).getD 0)).2) _)
  have hR26:=((h_a0_k_0_0.extN hS5).extN hS8)
  have hR27:=(hR7.extN hS8)
  obtain ⟨hp29,h⟩:=h
  refine qaw rfl rfl (qaL (qbn Try.call69 rfl) ((qeE hM8 hV24 hp29).mono ?_))
  rintro _ w28 ⟨K28,v28_0,rfl,hS28,hM28,hO28_0,hg28_0⟩
  refine ⟨v28_0,rfl,?_⟩
  have hE28:=hE8.andN hS28
  have h:=h hO28_0.wf
  refine qaa v28_0 (R_as rfl) rfl rfl ?_
  refine qaa (.bool true) (R_as rfl) rfl rfl ?_
  refine qaj ?_
  refine qa4 ?_
  exact qaC hR (v:=(.tuple #[v28_0,(.bool true)])) (qla rfl rfl rfl) ⟨K28,v28_0,(.bool true),((ix a0_k_0_0 ((mfind a1_s a0_k_0_1).getD 0)).2),true,rfl,h,hE28,hM28,hO28_0,(fun g hg=>Nat.le_trans hE8.size (hg28_0 g hg)),qcs⟩
theorem qoN {w0:World} {K0:Ghost} {a0_k_b:Nat} {a0_k_pre a0_k_post:List Value} {a0_k_0_0v:Value} {a0_k_0_0:(List ((List UInt8)×(List UInt8)))} {a0_k_0_1v:Value} {a0_k_0_1:(List ((List UInt8)×Int))} {a0_k_1:Int} {a1_s_v:Value} {a1_s:(List UInt8)} (hM0:Models w0 K0) (h_a0_k_B:Bx qal w0 K0 a0_k_b a0_k_pre a0_k_post ((a0_k_0_0v,a0_k_0_1v),a0_k_1)) (h_a0_k_0_0:Own qae 146 w0 K0 a0_k_0_0 a0_k_0_0v) (h_a0_k_0_1:Mp qab (Kd.int .i64) w0 K0 a0_k_0_1 a0_k_0_1v) (h_a1_s:qab.V K0 a1_s a1_s_v) (hp:qaK a0_k_0_0 a0_k_0_1∧∀x∈a0_k_0_0,x.2.length≤140737488355328):Calls Try.prog 52 #[(.pointer (some ⟨a0_k_b,a0_k_pre.length,none⟩)),a1_s_v] w0 (fun e w'=> ∃(K':Ghost) (r0:Value) (r1:Value),e= .returned (.tuple #[r0,r1])∧Ext NX w0 K0 w' K'∧Models w' K'∧Own Kd.byte 5 w' K' (qfJ a0_k_0_0 a1_s) r0∧(∀g,ob r0=some g→w0.heap.size≤g)∧Kd.bool.V K' ((qaq a1_s a0_k_0_0 0).isSome) r1):=by
 refine (qjM hM0 h_a0_k_B h_a0_k_0_0 h_a0_k_0_1 h_a1_s (qnu h_a1_s.wf hp)).mono ?_
 rintro _ w' ⟨K',r0,r1,o0,o1,rfl,⟨rfl,rfl⟩,hF⟩
 exact ⟨K',r0,r1,rfl,hF⟩
def qcf (a0_k_0_0:(List ((List UInt8)×(List UInt8)))) (a0_k_0_1:(List ((List UInt8)×Int))) (a0_k_1:Int) (Q:(List (List UInt8))→Prop):Prop:=
 ∃(I7:(List (List UInt8))→Int→Prop) (μ7:(List (List UInt8))→Int→Nat),I7 ([]:List (List UInt8)) 0∧∀(out7:(List (List UInt8))) (i7:Int),I7 out7 i7→(qaN.wf out7)→((Kd.int .i64).wf i7)→(((i7<(a0_k_0_0.length:Int))→(0≤i7∧i7<(a0_k_0_0.length:Int))∧((((ix a0_k_0_0 i7).2).length≤140737488355328)∧((qah.wf ((ix a0_k_0_0 i7).2))→(((out7.length+ [((ix a0_k_0_0 i7).2)].length) *24≤140737488355328)∧(I7 (out7++ [((ix a0_k_0_0 i7).2)]) (i7+1)∧μ7 (out7++ [((ix a0_k_0_0 i7).2)]) (i7+1)<μ7 out7 i7)))))∧((¬(i7<(a0_k_0_0.length:Int)))→Q out7))
theorem qhp {a0_k_0_0:(List ((List UInt8)×(List UInt8)))} {a0_k_0_1:(List ((List UInt8)×Int))} {a0_k_1:Int} (hp:a0_k_0_0.length *24≤140737488355328∧∀x∈a0_k_0_0,x.2.length≤140737488355328):qcf a0_k_0_0 a0_k_0_1 a0_k_1 (fun o0=>o0=(a0_k_0_0.map Prod.snd)):=by
 obtain ⟨h1,h2⟩:=hp
 unfold qcf
 refine ⟨fun out i=> ∃j:Nat,i=(j:Int)∧j≤a0_k_0_0.length∧out=(a0_k_0_0.take j).map Prod.snd,fun _ i=>a0_k_0_0.length - i.toNat,⟨0,rfl,by omega,rfl⟩,?_⟩
 rintro out i ⟨j,rfl,hj,rfl⟩ _ _
 refine ⟨fun hlt=>⟨⟨by omega,hlt⟩,h2 _ (qdA (by omega) hlt),fun _=>⟨?_,⟨j+1,by omega,by omega,?_⟩,?_⟩⟩,fun hge=>?_⟩
 ·simp only [List.length_map,List.length_take,List.length_cons,List.length_nil]
  omega
 ·rw [qbc hlt]
  simp
 ·show a0_k_0_0.length - ((j:Int)+1).toNat<a0_k_0_0.length - (j:Int).toNat
  omega
 ·have:j=a0_k_0_0.length:=by omega
  subst this
  rw [List.take_length]
theorem qfU {w0:World} {K0:Ghost} {a0_k_b:Nat} {a0_k_pre a0_k_post:List Value} {a0_k_0_0v:Value} {a0_k_0_0:(List ((List UInt8)×(List UInt8)))} {a0_k_0_1v:Value} {a0_k_0_1:(List ((List UInt8)×Int))} {a0_k_1:Int} {Q:(List (List UInt8))→Prop} (hM0:Models w0 K0) (h_a0_k_B:Bx qal w0 K0 a0_k_b a0_k_pre a0_k_post ((a0_k_0_0v,a0_k_0_1v),a0_k_1)) (h_a0_k_0_0:Own qae 146 w0 K0 a0_k_0_0 a0_k_0_0v) (h_a0_k_0_1:Mp qab (Kd.int .i64) w0 K0 a0_k_0_1 a0_k_0_1v) (h:qcf a0_k_0_0 a0_k_0_1 a0_k_1 Q):Calls Try.prog 100 #[(.pointer (some ⟨a0_k_b,a0_k_pre.length,none⟩))] w0 (fun e w'=> ∃(K':Ghost) (r0:Value) (o0:(List (List UInt8))),e= .returned r0∧Q o0∧Ext NX w0 K0 w' K'∧Models w' K'∧Own qah 32 w' K' o0 r0∧(∀g,ob r0=some g→w0.heap.size≤g)):=by
 unfold qcf at h
 have hE0:Ext NX w0 K0 w0 K0:=Ext.refl _ _ _
 refine qay fun R hR=>?_
 refine qax (args:=[(.pointer (some ⟨a0_k_b,a0_k_pre.length,none⟩))]) Try.func100 rfl (Nat.le_of_ble_eq_true rfl) ?_
 refine qaf ?_
 refine qac ?_
 have hR4:Own qah 32 w0 K0 ([]:List (List UInt8)) (.slice none 0 0):=Own.nil
 refine qaa (.slice none 0 0) (R_as rfl) rfl rfl ?_
 refine qaj ?_
 refine qaf ?_
 refine qaf ?_
 refine qac ?_
 refine qaa (.pointer (some ⟨a0_k_b,a0_k_pre.length,none⟩)) (R_mv rfl) rfl rfl ?_
 refine qaa (.bool false) (qjg rfl rfl Try.underlying35) rfl rfl ?_
 refine qaj ?_
 refine qau false rfl (fun hc=>by cases hc) (fun _=>?_)
 refine qaE ?_
 refine qaf ?_
 refine qac ?_
 have hR5:Own qah 32 w0 K0 ([]:List (List UInt8)) (.slice none 0 0):=Own.nil
 refine qaa (.slice none 0 0) (R_as rfl) rfl rfl ?_
 refine qaj ?_
 refine qaf ?_
 refine qaf ?_
 refine qac ?_
 refine qaa (.pointer (some ⟨a0_k_b,a0_k_pre.length,none⟩)) (R_mv rfl) rfl rfl ?_
 refine qaa (.pointer (some ⟨a0_k_b,a0_k_pre.length,none⟩)) (qaB rfl) rfl rfl ?_
 refine qaa (.pointer (some ⟨a0_k_b,a0_k_pre.length+0,none⟩)) (R_fa rfl Try.underlying41 rfl rfl ty39 rfl) rfl rfl ?_
 refine qaa (.pointer (some ⟨a0_k_b,a0_k_pre.length+0+0,none⟩)) (R_fa rfl Try.underlying39 rfl rfl qc4 rfl) rfl rfl ?_
 refine WL_L hM0 (qaT (Foc.trans (Foc.fst qak (Kd.int .i64)) (Foc.fst Kd.rsl Kd.rmp)) rfl qc4 h_a0_k_B (by first | rfl | simp | omega) (fun h=>h)) rfl rfl ?_
 rintro v6 (hV6:Kd.rsl.V _ a0_k_0_0v _)
 obtain rfl:=qbp hV6
 refine qaa (.int .i64 (a0_k_0_0.length:Int)) (qdr rfl h_a0_k_0_0.V Try.underlying36) rfl rfl ?_
 refine qaa (.int .i64 0) (R_mv rfl) rfl rfl ?_
 refine qaj ?_
 refine qa0 ?_
 obtain ⟨I7,μ7,h0,h⟩:=h
 refine qcK (ι:=(List (List UInt8))×Int) [3,5,14,15,16,17,18,19,20,21,22,23,24] (fun s l w=> ∃K u3,I7 s.1 s.2∧l=[(3,u3),(14,(.int .i64 s.2))]∧Ext (fun c=>ob (.slice none 0 0)=some c) w0 K0 w K∧Models w K∧(Kd.int .i64).wf s.2∧Own qah 32 w K s.1 u3∧(∀g,ob u3=some g→ob (.slice none 0 0)=some g∨w0.heap.size≤g)) (fun s=>μ7 s.1 s.2) (([]:List (List UInt8)),0) [(3,(.slice none 0 0)),(14,(.int .i64 0))]
  ⟨K0,(.slice none 0 0),h0,rfl,Ext.refl _ _ _,hM0,(show (Kd.int .i64).wf 0 from by constructor<;>decide),hR5,(fun g hg=> .inr (nilS hg))⟩ (by repeat (first | exact trivial | refine ⟨rfl,?_⟩)) ?_
 rintro ⟨out7,i7⟩ l σ7 w8 ⟨K8,u3_7,hI,rfl,hX8,hM8,hw7_14,hL7_u3,ho7_u3⟩
 dsimp only at hI hw7_14 hL7_u3 ho7_u3
 have hE8:=hE0.comp hX8 (fun c hx hlt=>(fun g hg _=>nilS hg) c hx hlt)
 have hR9:=(hR4.ext hX8 (fun g hg hx=>(fun g hg hx=>(fun g hg _=>nilS hg) g hx hg) g hg hx))
 have h:=h out7 i7 hI hL7_u3.wf hw7_14
 refine qaf ?_
 refine qac ?_
 refine qaa (.bool (decide (i7<(a0_k_0_0.length:Int)))) (qf5 rfl rfl) rfl rfl ?_
 refine qaj ?_
 refine qaf ?_
 refine qau (decide (i7<(a0_k_0_0.length:Int))) rfl (fun hc10=>?_) (fun hc10=>?_)
 ·have hd10:i7<(a0_k_0_0.length:Int):=qel hc10
  have h:=h.1 hd10
  refine qaE ?_
  refine qaf ?_
  refine qa0 ?_
  refine qaf ?_
  refine qac ?_
  obtain ⟨hp12,h⟩:=h
  refine WL_P (qej rfl (h_a0_k_0_0.V.mono hX8.le) rfl Try.underlying36 qcI hp12.1 hp12.2) rfl rfl ?_
  rintro b11 o11 hP11
  refine WL_L hM8 (S_ld rfl qcI hP11) rfl rfl ?_
  rintro v14 (hV14:qae.V _ (ix a0_k_0_0 i7) _)
  refine qaw rfl rfl (St_B (qcw hM8 qcI) ?_)
  rintro b16 w16 (hB16:Bx qae _ _ _ _ _ ((List.replicate 32 0),([]:List UInt8))) hS16 hM16 hge16
  have hE16:=hE8.andN hS16
  have hR18:=(h_a0_k_B.ext hX8 (fun hx=>(hR5.box h_a0_k_B) hx))
  refine qaw rfl rfl (qf7 (qf6 (Foc.id _) hM16 rfl rfl (hV14.mono hS16.le) qcI hB16 (by first | rfl | simp | omega)) ?_)
  rintro w19 (hB19:Bx qae _ _ b16 [] [] (ix a0_k_0_0 i7)) hS19 hM19
  have hE19:=hE16.comp hS19 (fun c hx hlt=>(by subst hx;exact (fun hlt=>absurd hlt (Nat.not_lt.2 (Nat.le_trans hE8.size hge16))) hlt))
  refine qaj ?_
  refine qac ?_
  refine qaa u3_7 (R_mv rfl) rfl rfl ?_
  refine qaa (.pointer (some ⟨b16,0+32,none⟩)) (R_fa rfl Try.underlying146 rfl rfl ty32 rfl) rfl rfl ?_
  refine WL_L hM19 (qaT (Foc.snd qab qah) rfl ty32 hB19 (by first | rfl | simp | omega) (fun h=>h)) rfl rfl ?_
  rintro v20 (hV20:qah.V _ ((ix a0_k_0_0 i7).2) _)
  have hR22:=((h_a0_k_0_0.ext hX8 (fun g hg hx=>(Own.ne_type h_a0_k_0_0 hR5 (by decide)) g hg hx)).extN hS16)
  have hR23:=(hR22.ext hS19 (fun g hg hx=>(fun g hg hx=>hR22.box hB16 (hg.trans (congrArg some hx))) g hg hx))
  have hR24:=((h_a0_k_0_1.ext hX8 (fun g hg hx=>(fun g hg hx=>h_a0_k_0_1.own hR5 g hx hg) g hg hx)).extN hS16)
  have hR25:=(hR24.ext hS19 (fun g hg hx=>(fun g hg hx=>hR24.box hB16 (hg.trans (congrArg some hx))) g hg hx))
  have hR26:=((h_a0_k_B.ext hX8 (fun hx=>(hR5.box h_a0_k_B) hx)).extN hS16)
  have hR27:=(hR26.ext hS19 (fun hx=>(fun he=>(qb8 hge16 hR18.lt) he.symm) hx))
  have hR28:=(hR9.extN hS16)
  have hR29:=(hR28.ext hS19 (fun g hg hx=>(fun g hg hx=>hR28.box hB16 (hg.trans (congrArg some hx))) g hg hx))
  have hR30:=(hL7_u3.extN hS16)
  have hR31:=(hR30.ext hS19 (fun g hg hx=>(fun g hg hx=>hR30.box hB16 (hg.trans (congrArg some hx))) g hg hx))
  obtain ⟨hp33,h⟩:=h
  refine qaw rfl rfl (qaL (qbn Try.call69 rfl) ((qeE hM19 hV20 hp33).mono ?_))
  rintro _ w32 ⟨K32,v32_0,rfl,hS32,hM32,hO32_0,hg32_0⟩
  refine ⟨v32_0,rfl,?_⟩
  have hE32:=hE19.andN hS32
  have h:=h hO32_0.wf
  refine qaw rfl rfl (ql0 (qjh (k:=qah) (l:=[(((ix a0_k_0_0 i7).2),v32_0)]) hM32 rfl (by intro p hp;simp only [List.mem_cons,List.not_mem_nil,or_false] at hp;subst hp;exact hO32_0.V) rfl Try.underlying96 ty32 rfl rfl) ?_)
  rintro v35 w35 K35 (hO35:Own qah 32 w35 K35 [((ix a0_k_0_0 i7).2)] v35) hS35 hM35 hg35
  have hE35:=hE32.andN hS35
  have hR37:=(hR29.extN hS32)
  have hR38:=(hR31.extN hS32)
  have hR39:=((hR31.extN hS32).extN hS35)
  obtain ⟨hp41,h⟩:=h
  refine qaw rfl rfl (St_S (qnL hM35 rfl hR39 rfl hO35.V Try.underlying96 ty32 rfl hp41) ?_)
  rintro v40 w40 K40 hO40 hS40 hM40 hob40
  have hE40:=hE35.comp hS40 (fun c hx hlt=>(fun g hg hlt=>absurd hlt (Nat.not_lt.2 ((fun g hg=>(ho7_u3 g hg).elim (fun hx=>(fun g hg=>nilS hg) g hx) (fun hx=>Nat.le_trans hE0.size hx)) g hg))) c hx hlt)
  have hR42:=((hR29.extN hS32).extN hS35)
  have hR43:=(hR42.ext hS40 (fun g hg hx=>(fun g hg hx=>(fun g hg hy=>(ho7_u3 g hg).elim (fun hz=>(fun g hg _=>nilS hg) g hz hy) (fun hz=>absurd (hR4.lt _ hy) (Nat.not_lt.2 hz))) g hx hg) g hg hx))
  have hR44:=(hO35.ext hS40 (fun g hg hx=>(fun g hg hx=>absurd (hR38.lt _ hx) (Nat.not_lt.2 (hg35 g hg))) g hg hx))
  have hf40: ∀g,ob v40=some g→w0.heap.size≤g:=fun g hg=>by rcases hob40 with hq | hq<;>rw [hq] at hg;exact (fun g hg=>(ho7_u3 g hg).elim (fun hx=>(fun g hg=>nilS hg) g hx) (fun hx=>Nat.le_trans hE0.size hx)) g hg;cases hg;exact hE35.size
  have hs46: ∀g,ob v40=some g→¬(ob v35=some g):=fun g hg hx=>by rcases hob40 with hq | hq<;>rw [hq] at hg;exact (fun g hg hx=>(fun g hg hx=>absurd (hR38.lt _ hx) (Nat.not_lt.2 (hg35 g hg))) g hx hg) g hg hx;cases hg;exact absurd (hO35.lt _ hx) (Nat.not_lt.2 (Nat.le_refl _))
  refine qaa v40 (R_as rfl) rfl rfl ?_
  refine qaj ?_
  refine qac ?_
  refine qaa (.int .i64 (i7+1)) (qjf rfl rfl hw7_14 hd10 (qbj ((h_a0_k_0_0).V).wf.1)) rfl rfl ?_
  refine qaa (.int .i64 (i7+1)) (R_mv rfl) rfl rfl ?_
  refine qaj ?_
  refine qeC.mk ((out7++ [((ix a0_k_0_0 i7).2)]),(i7+1)) [(3,v40),(14,(.int .i64 (i7+1)))] ?_ ?_ ?_ ?_
  rotate_left
  ·exact h.2
  ·repeat (first | exact Off.lay0 rfl | refine Off.updO ?_ rfl _ | refine Off.updN ?_ _ | refine Off.lay ?_ rfl)
  ·repeat (first | exact trivial | refine ⟨rfl,?_⟩)
  exact ⟨K40,v40,h.1,rfl,(((((((Ext.refl _ _ _).comp hX8 (fun c hx hlt=>(absurd hlt (Nat.not_lt.2 (nilS hx))))).andN hS16).comp hS19 (fun c hx hlt=>(by subst hx;exact absurd hlt (Nat.not_lt.2 (Nat.le_trans hE8.size hge16))))).andN hS32).andN hS35).comp hS40 (fun c hx hlt=>(absurd hlt (Nat.not_lt.2 ((ho7_u3 c hx).elim (fun hz=>(nilS hz)) (fun hz=>(Nat.le_trans (Nat.le_refl _) hz))))))),hM40,(qfF hw7_14 hd10 (qbj ((h_a0_k_0_0).V).wf.1)),hO40,(fun g hg=> .inr (by have hg:ob v40=some g:=hg;rcases hob40 with hq | hq<;>rw [hq] at hg;exact ((ho7_u3 g hg).elim (fun hz=>(nilS hz)) (fun hz=>(Nat.le_trans (Nat.le_refl _) hz)));cases hg;exact hE35.size))⟩
 ·have hd10: ¬(i7<(a0_k_0_0.length:Int)):=qek hc10
  have h:=h.2 hd10
  refine qcy ?_
  refine qaf ?_
  refine qac ?_
  refine qaa u3_7 (R_mv rfl) rfl rfl ?_
  refine qaa u3_7 (R_as rfl) rfl rfl ?_
  refine qaj ?_
  refine qa4 ?_
  exact qaC hR (v:=u3_7) (qcb rfl rfl) ⟨K8,u3_7,out7,rfl,h,hE8,hM8,hL7_u3,(fun g hg=>(ho7_u3 g hg).elim (fun hx=>(fun g hg=>nilS hg) g hx) (fun hx=>Nat.le_trans hE0.size hx))⟩
theorem qi5 {w0:World} {K0:Ghost} {a0_k_b:Nat} {a0_k_pre a0_k_post:List Value} {a0_k_0_0v:Value} {a0_k_0_0:(List ((List UInt8)×(List UInt8)))} {a0_k_0_1v:Value} {a0_k_0_1:(List ((List UInt8)×Int))} {a0_k_1:Int} (hM0:Models w0 K0) (h_a0_k_B:Bx qal w0 K0 a0_k_b a0_k_pre a0_k_post ((a0_k_0_0v,a0_k_0_1v),a0_k_1)) (h_a0_k_0_0:Own qae 146 w0 K0 a0_k_0_0 a0_k_0_0v) (h_a0_k_0_1:Mp qab (Kd.int .i64) w0 K0 a0_k_0_1 a0_k_0_1v) (hp:a0_k_0_0.length *24≤140737488355328∧∀x∈a0_k_0_0,x.2.length≤140737488355328):Calls Try.prog 100 #[(.pointer (some ⟨a0_k_b,a0_k_pre.length,none⟩))] w0 (fun e w'=> ∃(K':Ghost) (r0:Value),e= .returned r0∧Ext NX w0 K0 w' K'∧Models w' K'∧Own qah 32 w' K' (a0_k_0_0.map Prod.snd) r0∧(∀g,ob r0=some g→w0.heap.size≤g)):=by
 refine (qfU hM0 h_a0_k_B h_a0_k_0_0 h_a0_k_0_1 (qhp hp)).mono ?_
 rintro _ w' ⟨K',r0,o0,rfl,rfl,hF⟩
 exact ⟨K',r0,rfl,hF⟩
abbrev qhr:=qaJ 146
def qio (a0_k_0_0:(List ((List UInt8)×(List UInt8)))) (a0_k_0_1:(List ((List UInt8)×Int))) (a0_k_1:Int) (a1_kind:Int) (a2_parts:(List (List UInt8))) (Q:(List UInt8)→(List ((List UInt8)×(List UInt8)))→(List ((List UInt8)×Int))→Int→Prop):Prop:=
 (1+qao a2_parts≤140737488355328)∧((qah.wf (preimage a1_kind a2_parts))→(((1+ [(preimage a1_kind a2_parts)].length) *24≤140737488355328∧[(preimage a1_kind a2_parts)].flatten.length≤140737488355328)∧((qab.wf (qaZ [(preimage a1_kind a2_parts)]))→((qaK a0_k_0_0 a0_k_0_1∧(preimage a1_kind a2_parts).length≤140737488355328∧(a0_k_0_0.length+1) *64≤140737488355328)∧(Q (qaZ [(preimage a1_kind a2_parts)]) (addL a0_k_0_0 (qaZ [(preimage a1_kind a2_parts)]) (preimage a1_kind a2_parts)) (addM a0_k_0_0 a0_k_0_1 (qaZ [(preimage a1_kind a2_parts)]) (preimage a1_kind a2_parts)) (IntKind.i64.wrap (a0_k_1+1)))))))
theorem qo0 {a0_k_0_0:(List ((List UInt8)×(List UInt8)))} {a0_k_0_1:(List ((List UInt8)×Int))} {a0_k_1:Int} {a1_kind:Int} {a2_parts:(List (List UInt8))} (w_0:(Kd.int .i64).wf a1_kind) (w_1:qaN.wf a2_parts) (hp:qaK a0_k_0_0 a0_k_0_1∧1+qao a2_parts≤140737488355328∧(a0_k_0_0.length+1) *64≤140737488355328):qio a0_k_0_0 a0_k_0_1 a0_k_1 a1_kind a2_parts (fun o0 o1 o2 o3=>o0=(qam a1_kind a2_parts)∧o1=(addL a0_k_0_0 (qam a1_kind a2_parts) (preimage a1_kind a2_parts))∧o2=(addM a0_k_0_0 a0_k_0_1 (qam a1_kind a2_parts) (preimage a1_kind a2_parts))∧o3=(IntKind.i64.wrap (a0_k_1+1))):=by
 obtain ⟨h1,h2,h3⟩:=hp
 have hl:=qcF a1_kind h2
 unfold qio
 exact ⟨h2,fun _=>⟨⟨by simp,by simpa using by omega⟩,fun _=>⟨⟨h1,by omega,h3⟩,rfl,rfl,rfl,rfl⟩⟩⟩
theorem qlV {w0:World} {K0:Ghost} {a0_k_b:Nat} {a0_k_pre a0_k_post:List Value} {a0_k_0_0v:Value} {a0_k_0_0:(List ((List UInt8)×(List UInt8)))} {a0_k_0_1v:Value} {a0_k_0_1:(List ((List UInt8)×Int))} {a0_k_1:Int} {a1_kind_v:Value} {a1_kind:Int} {a2_parts_v:Value} {a2_parts:(List (List UInt8))} {Q:(List UInt8)→(List ((List UInt8)×(List UInt8)))→(List ((List UInt8)×Int))→Int→Prop} (hM0:Models w0 K0) (h_a0_k_B:Bx qal w0 K0 a0_k_b a0_k_pre a0_k_post ((a0_k_0_0v,a0_k_0_1v),a0_k_1)) (h_a0_k_0_0:Own qae 146 w0 K0 a0_k_0_0 a0_k_0_0v) (h_a0_k_0_1:Mp qab (Kd.int .i64) w0 K0 a0_k_0_1 a0_k_0_1v) (h_a1_kind:(Kd.int .i64).V K0 a1_kind a1_kind_v) (h_a2_parts:qaN.V K0 a2_parts a2_parts_v) (h:qio a0_k_0_0 a0_k_0_1 a0_k_1 a1_kind a2_parts Q):Calls Try.prog 67 #[(.pointer (some ⟨a0_k_b,a0_k_pre.length,none⟩)),a1_kind_v,a2_parts_v] w0 (fun e w'=> ∃(K':Ghost) (r0:Value) (u0_0_0:Value) (u0_0_1:Value) (o0:(List UInt8)) (o1:(List ((List UInt8)×(List UInt8)))) (o2:(List ((List UInt8)×Int))) (o3:Int),e= .returned r0∧Q o0 o1 o2 o3∧Ext (fun c=>c=a0_k_b∨ob a0_k_0_0v=some c∨mb a0_k_0_1v=some c) w0 K0 w' K'∧Models w' K'∧qab.V K' o0 r0∧Bx qal w' K' a0_k_b a0_k_pre a0_k_post ((u0_0_0,u0_0_1),o3)∧Own qae 146 w' K' o1 u0_0_0∧(∀g,ob u0_0_0=some g→ob a0_k_0_0v=some g∨w0.heap.size≤g)∧Mp qab (Kd.int .i64) w' K' o2 u0_0_1∧(∀g,mb u0_0_1=some g→mb a0_k_0_1v=some g∨w0.heap.size≤g)):=by
 unfold qio at h
 obtain rfl:=qa2 h_a1_kind
 have hE0:Ext (fun c=>c=a0_k_b∨ob a0_k_0_0v=some c∨mb a0_k_0_1v=some c) w0 K0 w0 K0:=Ext.refl _ _ _
 refine qay fun R hR=>?_
 refine qax (args:=[(.pointer (some ⟨a0_k_b,a0_k_pre.length,none⟩)),(.int .i64 a1_kind),a2_parts_v]) Try.func67 rfl (Nat.le_of_ble_eq_true rfl) ?_
 refine qaf ?_
 refine qac ?_
 refine qaw rfl rfl (St_B (qcw hM0 ty24) ?_)
 rintro b5 w5 (hB5:Bx qab _ _ _ _ _ (List.replicate 32 0)) hS5 hM5 hge5
 have hE5:=hE0.andN hS5
 refine qaj ?_
 refine qaf ?_
 refine qac ?_
 refine qaa (.int .i64 a1_kind) (R_mv rfl) rfl rfl ?_
 refine qaa a2_parts_v (R_mv rfl) rfl rfl ?_
 have hR7:=(h_a0_k_0_0.extN hS5)
 have hR8:=(h_a0_k_0_1.extN hS5)
 have hR9:=(h_a0_k_B.extN hS5)
 obtain ⟨hp11,h⟩:=h
 refine qaw rfl rfl (qaL (qbn Try.call98 rfl) ((qfp hM5 (qeo (h_a1_kind).wf) (h_a2_parts.mono hS5.le) hp11).mono ?_))
 rintro _ w10 ⟨K10,v10_0,rfl,hS10,hM10,hO10_0,hg10_0⟩
 refine ⟨v10_0,rfl,?_⟩
 have hE10:=hE5.andN hS10
 have h:=h hO10_0.wf
 refine qaa v10_0 (R_as rfl) rfl rfl ?_
 refine qaj ?_
 refine qaf ?_
 refine qac ?_
 refine qaa v10_0 (R_mv rfl) rfl rfl ?_
 refine qaw rfl rfl (ql0 (qjh (k:=qah) (l:=[((preimage a1_kind a2_parts),v10_0)]) hM10 rfl (by intro p hp;simp only [List.mem_cons,List.not_mem_nil,or_false] at hp;subst hp;exact hO10_0.V) rfl Try.underlying96 ty32 rfl rfl) ?_)
 rintro v13 w13 K13 (hO13:Own qah 32 w13 K13 [(preimage a1_kind a2_parts)] v13) hS13 hM13 hg13
 have hE13:=hE10.andN hS13
 obtain ⟨hp16,h⟩:=h
 refine qaw rfl rfl (qaL (qbn Try.call110 rfl) ((qis hM13 hO13.V hp16).mono ?_))
 rintro _ w15 ⟨K15,v15_0,rfl,hS15,hM15,hV15_0⟩
 refine ⟨v15_0,rfl,?_⟩
 have hE15:=hE13.andN hS15
 have h:=h hV15_0.wf
 refine qaw rfl rfl (St_B (qcw hM15 ty24) ?_)
 rintro b18 w18 (hB18:Bx qab _ _ _ _ _ (List.replicate 32 0)) hS18 hM18 hge18
 have hE18:=hE15.andN hS18
 have hR20:=(((hR9.extN hS10).extN hS13).extN hS15)
 have hR21:=(((hB5.extN hS10).extN hS13).extN hS15)
 refine qaw rfl rfl (qf7 (qf6 (Foc.id _) hM18 rfl rfl (hV15_0.mono hS18.le) ty24 hB18 (by first | rfl | simp | omega)) ?_)
 rintro w22 (hB22:Bx qab _ _ b18 [] [] (qaZ [(preimage a1_kind a2_parts)])) hS22 hM22
 have hE22:=hE18.comp hS22 (fun c hx hlt=>(by subst hx;exact (fun hlt=>absurd hlt (Nat.not_lt.2 (Nat.le_trans hE15.size hge18))) hlt))
 refine qaj ?_
 refine qaf ?_
 refine qaf ?_
 refine qac ?_
 refine qaa (.pointer (some ⟨a0_k_b,a0_k_pre.length,none⟩)) (R_mv rfl) rfl rfl ?_
 refine qaa (.bool true) (qj1 rfl rfl Try.underlying35) rfl rfl ?_
 refine qaj ?_
 refine qau true rfl (fun _=>?_) (fun hc=>by cases hc)
 refine qaf ?_
 refine qac ?_
 refine qaa (.pointer (some ⟨a0_k_b,a0_k_pre.length,none⟩)) (R_mv rfl) rfl rfl ?_
 refine qaa (.pointer (some ⟨a0_k_b,a0_k_pre.length,none⟩)) (qaB rfl) rfl rfl ?_
 refine qaa (.pointer (some ⟨a0_k_b,a0_k_pre.length+2,none⟩)) (R_fa rfl Try.underlying41 rfl rfl ty3 rfl) rfl rfl ?_
 have hR24:=((((hR9.extN hS10).extN hS13).extN hS15).extN hS18)
 have hR25:=(hR24.ext hS22 (fun hx=>(fun he=>(qb8 hge18 hR20.lt) he.symm) hx))
 refine WL_L hM22 (qaT (Foc.snd qak (Kd.int .i64)) rfl ty3 hR25 (by first | rfl | simp | omega) (fun h=>h)) rfl rfl ?_
 rintro v23 (hV23:(Kd.int .i64).V _ a0_k_1 _)
 obtain rfl:=qa2 hV23
 refine qaa (.int .i64 (IntKind.i64.wrap (a0_k_1+1))) (qje rfl rfl) rfl rfl ?_
 refine qaa (.pointer (some ⟨a0_k_b,a0_k_pre.length,none⟩)) (qaB rfl) rfl rfl ?_
 refine qaa (.pointer (some ⟨a0_k_b,a0_k_pre.length+2,none⟩)) (R_fa rfl Try.underlying41 rfl rfl ty3 rfl) rfl rfl ?_
 refine qaw rfl rfl (qf7 (qf6 (Foc.snd qak (Kd.int .i64)) hM22 rfl rfl (qeo (qb5 _ _)) ty3 hR25 (by first | rfl | simp | omega)) ?_)
 rintro w26 (hB26:Bx qal _ _ a0_k_b a0_k_pre a0_k_post ((a0_k_0_0v,a0_k_0_1v),(IntKind.i64.wrap (a0_k_1+1)))) hS26 hM26
 have hE26:=hE22.comp hS26 (fun c hx hlt=>(by subst hx;exact (fun _=>(.inl rfl)) hlt))
 refine qaj ?_
 have hR27:=(hB22.ext hS26 (fun hx=>(qb8 hge18 hR20.lt) hx))
 have hR28:=((((hR7.extN hS10).extN hS13).extN hS15).extN hS18)
 have hR29:=(hR28.ext hS22 (fun g hg hx=>(fun g hg hx=>hR28.box hB18 (hg.trans (congrArg some hx))) g hg hx))
 have hR30:=(hR29.ext hS26 (fun g hg hx=>(fun g hg hx=>hR29.box hR25 (hg.trans (congrArg some hx))) g hg hx))
 have hR31:=((((hR8.extN hS10).extN hS13).extN hS15).extN hS18)
 have hR32:=(hR31.ext hS22 (fun g hg hx=>(fun g hg hx=>hR31.box hB18 (hg.trans (congrArg some hx))) g hg hx))
 have hR33:=(hR32.ext hS26 (fun g hg hx=>(fun g hg hx=>hR32.box hR25 (hg.trans (congrArg some hx))) g hg hx))
 refine qbx (K:=K15) (fun c=>c=a0_k_b∨ob a0_k_0_0v=some c∨mb a0_k_0_1v=some c∨w26.heap.size≤c) [.o 0 2,.o 1 2,.o 2 2,.o 3 2,.o 4 2,.o 5 1] (by kernel_rfl) (by kernel_rfl) hM26 ?_
 rintro w34 hS34 hM34
 have hE34:=hE26.andN hS34
 refine qag (.pointer (some ⟨a0_k_b,a0_k_pre.length,none⟩)) rfl l0 hM34 (fun _=>R_mv rfl) rfl (gN rfl) rfl ?_
 refine qag (.pointer (some ⟨a0_k_b,a0_k_pre.length,none⟩)) rfl l0 hM34 (fun _=>qaB rfl) rfl (gN rfl) rfl ?_
 refine qag (.pointer (some ⟨a0_k_b,a0_k_pre.length+0,none⟩)) rfl l0 hM34 (fun _=>R_fa rfl Try.underlying41 rfl rfl ty39 rfl) rfl (gN rfl) rfl ?_
 have hR36:=(hR27.extN hS34)
 refine qbo hM34 (qaT (Foc.id _) rfl ty24 hR36 (by first | rfl | simp | omega) (fun h=>h)) rfl (gN rfl) rfl ?_
 rintro v35 (hV35:qab.V _ (qaZ [(preimage a1_kind a2_parts)]) _)
 refine qag v10_0 rfl l0 hM34 (fun _=>R_mv rfl) rfl (gN rfl) rfl ?_
 have hR38:=(hR30.extN hS34)
 have hR39:=(hR33.extN hS34)
 have hR40:=(hB26.extN hS34)
 have hR41:=((((hB5.extN hS10).extN hS13).extN hS15).extN hS18)
 have hR42:=(hR41.ext hS22 (fun hx=>(fun he=>(qb8 hge18 hR21.lt) he.symm) hx))
 have hR43:=((hR42.ext hS26 (fun hx=>(qb8 hge5 h_a0_k_B.lt) hx)).extN hS34)
 have hR44:=(((hO10_0.extN hS13).extN hS15).extN hS18)
 have hR45:=(hR44.ext hS22 (fun g hg hx=>(fun g hg hx=>hR44.box hB18 (hg.trans (congrArg some hx))) g hg hx))
 have hR46:=((hR45.ext hS26 (fun g hg hx=>(fun g hg hx=>hR45.box hR25 (hg.trans (congrArg some hx))) g hg hx)).extN hS34)
 have hR47:=((hO13.extN hS15).extN hS18)
 have hR48:=(hR47.ext hS22 (fun g hg hx=>(fun g hg hx=>hR47.box hB18 (hg.trans (congrArg some hx))) g hg hx))
 have hR49:=((hR48.ext hS26 (fun g hg hx=>(fun g hg hx=>hR48.box hR25 (hg.trans (congrArg some hx))) g hg hx)).extN hS34)
 obtain ⟨p51,q51,hl51,hB51,hback51⟩:=Bx.sub (Foc.fst qak (Kd.int .i64)) hR40
 obtain ⟨hp52,h⟩:=h
 refine qft rfl (gN rfl) rfl (qaL (qbn Try.call86 (mapC (show (Value.pointer (some ⟨a0_k_b,a0_k_pre.length+0,none⟩))= .pointer (some ⟨a0_k_b,((a0_k_pre:List Value)++p51).length,none⟩) from by rw [List.length_append,hl51];first | done | simp) (mapC rfl (mapC rfl mapN)))) ((qnQ hM34 hB51 hR38 hR39 hV35 hR46.V hp52).mono ?_))
 rintro _ w50 ⟨K50,u50_0_0,u50_0_1,rfl,hS50,hM50,hB50_m0,hu50_0_0,hxu50_0_0,hu50_0_1,hxu50_0_1⟩
 refine ⟨(.tuple #[]),rfl,?_⟩
 refine ⟨K50,(hS50.weak (fun c hlt hx=>Or.elim hx (fun hx=>(.inl (hx))) (fun hx=>Or.elim hx (fun hx=>(.inr (.inl (hx)))) (fun hx=>(.inr (.inr (.inl (hx)))))))),hM50,?_⟩
 have hE50:=hE34.comp hS50 (fun c hx hlt=>Or.elim hx (fun hx=>(by subst hx;exact (fun _=>(.inl rfl)) hlt)) (fun hx=>Or.elim hx (fun hx=>(fun g hg _=>(.inr (.inl hg))) c hx hlt) (fun hx=>(fun g hg _=>(.inr (.inr (hg)))) c hx hlt)))
 have hf53: ∀g,ob u50_0_0=some g→g<w0.heap.size→g=a0_k_b∨ob a0_k_0_0v=some g∨mb a0_k_0_1v=some g:=fun g hg hlt=>(hxu50_0_0 g hg).elim (fun hx=>(fun g hg _=>(.inr (.inl hg))) g hx hlt) (fun hx=>absurd hlt (Nat.not_lt.2 (Nat.le_trans hE34.size hx)))
 have hf54: ∀g,mb u50_0_1=some g→g<w0.heap.size→g=a0_k_b∨ob a0_k_0_0v=some g∨mb a0_k_0_1v=some g:=fun g hg hlt=>(hxu50_0_1 g hg).elim (fun hx=>(fun g hg _=>(.inr (.inr (hg)))) g hx hlt) (fun hx=>absurd hlt (Nat.not_lt.2 (Nat.le_trans hE34.size hx)))
 have hB50_w:Bx qal w50 K50 a0_k_b a0_k_pre a0_k_post ((u50_0_0,u50_0_1),(IntKind.i64.wrap (a0_k_1+1))):=hback51 hS50.le hB50_m0
 refine qcq ?_
 refine qaf ?_
 refine qac ?_
 have hR56:=(hR36.ext hS50 (fun hx=>Or.elim hx (fun hx=>(qb8 hge18 hR20.lt) hx) (fun hx=>Or.elim hx (fun hx=>(hR38.box hR36) hx) (fun hx=>(hR39.box hR36) hx))))
 refine WL_L hM50 (qaT (Foc.id _) rfl ty24 hR56 (by first | rfl | simp | omega) (fun h=>h)) rfl rfl ?_
 rintro v55 (hV55:qab.V _ (qaZ [(preimage a1_kind a2_parts)]) _)
 have hR59:=(hR43.ext hS50 (fun hx=>Or.elim hx (fun hx=>(qb8 hge5 h_a0_k_B.lt) hx) (fun hx=>Or.elim hx (fun hx=>(hR38.box hR43) hx) (fun hx=>(hR39.box hR43) hx))))
 refine qaw rfl rfl (qf7 (qf6 (Foc.id _) hM50 rfl rfl hV55 ty24 hR59 (by first | rfl | simp | omega)) ?_)
 rintro w58 (hB58:Bx qab _ _ b5 [] [] (qaZ [(preimage a1_kind a2_parts)])) hS58 hM58
 have hE58:=hE50.comp hS58 (fun c hx hlt=>(by subst hx;exact (fun hlt=>absurd hlt (Nat.not_lt.2 (Nat.le_trans hE0.size hge5))) hlt))
 refine qaj ?_
 refine qa4 ?_
 refine qiG hR (qne rfl rfl ty24 hB58) ?_
 rintro v60 hV60
 have hR61:=(hu50_0_0.ext hS58 (fun g hg hx=>(fun g hg hx=>hu50_0_0.box hR59 (hg.trans (congrArg some hx))) g hg hx))
 have hR62:=(hu50_0_1.ext hS58 (fun g hg hx=>(fun g hg hx=>hu50_0_1.box hR59 (hg.trans (congrArg some hx))) g hg hx))
 have hR63:=(hB50_w.ext hS58 (fun hx=>(fun he=>(qb8 hge5 h_a0_k_B.lt) he.symm) hx))
 exact ⟨K50,v60,u50_0_0,u50_0_1,(qaZ [(preimage a1_kind a2_parts)]),(addL a0_k_0_0 (qaZ [(preimage a1_kind a2_parts)]) (preimage a1_kind a2_parts)),(addM a0_k_0_0 a0_k_0_1 (qaZ [(preimage a1_kind a2_parts)]) (preimage a1_kind a2_parts)),(IntKind.i64.wrap (a0_k_1+1)),rfl,h,hE58,hM58,hV60,hR63,hR61,(fun g hg=>((hxu50_0_0 g hg).elim (fun hz=>(.inl hz)) (fun hz=> .inr (Nat.le_trans hE34.size hz)))),hR62,(fun g hg=>((hxu50_0_1 g hg).elim (fun hz=>(.inl hz)) (fun hz=> .inr (Nat.le_trans hE34.size hz))))⟩
theorem qql {w0:World} {K0:Ghost} {a0_k_b:Nat} {a0_k_pre a0_k_post:List Value} {a0_k_0_0v:Value} {a0_k_0_0:(List ((List UInt8)×(List UInt8)))} {a0_k_0_1v:Value} {a0_k_0_1:(List ((List UInt8)×Int))} {a0_k_1:Int} {a1_kind_v:Value} {a1_kind:Int} {a2_parts_v:Value} {a2_parts:(List (List UInt8))} (hM0:Models w0 K0) (h_a0_k_B:Bx qal w0 K0 a0_k_b a0_k_pre a0_k_post ((a0_k_0_0v,a0_k_0_1v),a0_k_1)) (h_a0_k_0_0:Own qae 146 w0 K0 a0_k_0_0 a0_k_0_0v) (h_a0_k_0_1:Mp qab (Kd.int .i64) w0 K0 a0_k_0_1 a0_k_0_1v) (h_a1_kind:(Kd.int .i64).V K0 a1_kind a1_kind_v) (h_a2_parts:qaN.V K0 a2_parts a2_parts_v) (hp:qaK a0_k_0_0 a0_k_0_1∧1+qao a2_parts≤140737488355328∧(a0_k_0_0.length+1) *64≤140737488355328):Calls Try.prog 67 #[(.pointer (some ⟨a0_k_b,a0_k_pre.length,none⟩)),a1_kind_v,a2_parts_v] w0 (fun e w'=> ∃(K':Ghost) (r0:Value) (u0_0_0:Value) (u0_0_1:Value),e= .returned r0∧Ext (fun c=>c=a0_k_b∨ob a0_k_0_0v=some c∨mb a0_k_0_1v=some c) w0 K0 w' K'∧Models w' K'∧qab.V K' (qam a1_kind a2_parts) r0∧Bx qal w' K' a0_k_b a0_k_pre a0_k_post ((u0_0_0,u0_0_1),(IntKind.i64.wrap (a0_k_1+1)))∧Own qae 146 w' K' (addL a0_k_0_0 (qam a1_kind a2_parts) (preimage a1_kind a2_parts)) u0_0_0∧(∀g,ob u0_0_0=some g→ob a0_k_0_0v=some g∨w0.heap.size≤g)∧Mp qab (Kd.int .i64) w' K' (addM a0_k_0_0 a0_k_0_1 (qam a1_kind a2_parts) (preimage a1_kind a2_parts)) u0_0_1∧(∀g,mb u0_0_1=some g→mb a0_k_0_1v=some g∨w0.heap.size≤g)):=by
 refine (qlV hM0 h_a0_k_B h_a0_k_0_0 h_a0_k_0_1 h_a1_kind h_a2_parts (qo0 h_a1_kind.wf h_a2_parts.wf hp)).mono ?_
 rintro _ w' ⟨K',r0,u0,u1,o0,o1,o2,o3,rfl,⟨rfl,rfl,rfl,rfl⟩,hF⟩
 exact ⟨K',r0,u0,u1,rfl,hF⟩
def qip (a1_kind:Int) (a2_parts:(List (List UInt8))) (Q:(List UInt8)→Prop):Prop:=
 (1+qao a2_parts≤140737488355328)∧((qah.wf (preimage a1_kind a2_parts))→(((1+ [(preimage a1_kind a2_parts)].length) *24≤140737488355328∧[(preimage a1_kind a2_parts)].flatten.length≤140737488355328)∧((qab.wf (qaZ [(preimage a1_kind a2_parts)]))→(Q (qaZ [(preimage a1_kind a2_parts)])))))
theorem qo1 {a1_kind:Int} {a2_parts:(List (List UInt8))} (w_0:(Kd.int .i64).wf a1_kind) (w_1:qaN.wf a2_parts) (hp:1+qao a2_parts≤140737488355328):qip a1_kind a2_parts (fun o0=>o0=(qam a1_kind a2_parts)):=by
 have hl:=qcF a1_kind hp
 unfold qip
 exact ⟨hp,fun _=>⟨⟨by simp,by simpa using by omega⟩,fun _=>rfl⟩⟩
theorem qlW {w0:World} {K0:Ghost} {a1_kind_v:Value} {a1_kind:Int} {a2_parts_v:Value} {a2_parts:(List (List UInt8))} {Q:(List UInt8)→Prop} (hM0:Models w0 K0) (h_a1_kind:(Kd.int .i64).V K0 a1_kind a1_kind_v) (h_a2_parts:qaN.V K0 a2_parts a2_parts_v) (h:qip a1_kind a2_parts Q):Calls Try.prog 67 #[(.pointer none),a1_kind_v,a2_parts_v] w0 (fun e w'=> ∃(K':Ghost) (r0:Value) (o0:(List UInt8)),e= .returned r0∧Q o0∧Ext NX w0 K0 w' K'∧Models w' K'∧qab.V K' o0 r0):=by
 unfold qip at h
 obtain rfl:=qa2 h_a1_kind
 have hE0:Ext NX w0 K0 w0 K0:=Ext.refl _ _ _
 refine qay fun R hR=>?_
 refine qax (args:=[(.pointer none),(.int .i64 a1_kind),a2_parts_v]) Try.func67 rfl (Nat.le_of_ble_eq_true rfl) ?_
 refine qaf ?_
 refine qac ?_
 refine qaw rfl rfl (St_B (qcw hM0 ty24) ?_)
 rintro b2 w2 (hB2:Bx qab _ _ _ _ _ (List.replicate 32 0)) hS2 hM2 hge2
 have hE2:=hE0.andN hS2
 refine qaj ?_
 refine qaf ?_
 refine qac ?_
 refine qaa (.int .i64 a1_kind) (R_mv rfl) rfl rfl ?_
 refine qaa a2_parts_v (R_mv rfl) rfl rfl ?_
 obtain ⟨hp5,h⟩:=h
 refine qaw rfl rfl (qaL (qbn Try.call98 rfl) ((qfp hM2 (qeo (h_a1_kind).wf) (h_a2_parts.mono hS2.le) hp5).mono ?_))
 rintro _ w4 ⟨K4,v4_0,rfl,hS4,hM4,hO4_0,hg4_0⟩
 refine ⟨v4_0,rfl,?_⟩
 have hE4:=hE2.andN hS4
 have h:=h hO4_0.wf
 refine qaa v4_0 (R_as rfl) rfl rfl ?_
 refine qaj ?_
 refine qaf ?_
 refine qac ?_
 refine qaa v4_0 (R_mv rfl) rfl rfl ?_
 refine qaw rfl rfl (ql0 (qjh (k:=qah) (l:=[((preimage a1_kind a2_parts),v4_0)]) hM4 rfl (by intro p hp;simp only [List.mem_cons,List.not_mem_nil,or_false] at hp;subst hp;exact hO4_0.V) rfl Try.underlying96 ty32 rfl rfl) ?_)
 rintro v7 w7 K7 (hO7:Own qah 32 w7 K7 [(preimage a1_kind a2_parts)] v7) hS7 hM7 hg7
 have hE7:=hE4.andN hS7
 obtain ⟨hp10,h⟩:=h
 refine qaw rfl rfl (qaL (qbn Try.call110 rfl) ((qis hM7 hO7.V hp10).mono ?_))
 rintro _ w9 ⟨K9,v9_0,rfl,hS9,hM9,hV9_0⟩
 refine ⟨v9_0,rfl,?_⟩
 have hE9:=hE7.andN hS9
 have h:=h hV9_0.wf
 refine qaw rfl rfl (St_B (qcw hM9 ty24) ?_)
 rintro b12 w12 (hB12:Bx qab _ _ _ _ _ (List.replicate 32 0)) hS12 hM12 hge12
 have hE12:=hE9.andN hS12
 have hR14:=(((hB2.extN hS4).extN hS7).extN hS9)
 refine qaw rfl rfl (qf7 (qf6 (Foc.id _) hM12 rfl rfl (hV9_0.mono hS12.le) ty24 hB12 (by first | rfl | simp | omega)) ?_)
 rintro w15 (hB15:Bx qab _ _ b12 [] [] (qaZ [(preimage a1_kind a2_parts)])) hS15 hM15
 have hE15:=hE12.comp hS15 (fun c hx hlt=>(by subst hx;exact (fun hlt=>absurd hlt (Nat.not_lt.2 (Nat.le_trans hE9.size hge12))) hlt))
 refine qaj ?_
 refine qaf ?_
 refine qaf ?_
 refine qac ?_
 refine qaa (.pointer none) (R_mv rfl) rfl rfl ?_
 refine qaa (.bool false) (qgO rfl rfl Try.underlying35) rfl rfl ?_
 refine qaj ?_
 refine qau false rfl (fun hc=>by cases hc) (fun _=>?_)
 refine qaE ?_
 refine qaf ?_
 refine qac ?_
 refine WL_L hM15 (qaT (Foc.id _) rfl ty24 hB15 (by first | rfl | simp | omega) (fun h=>h)) rfl rfl ?_
 rintro v16 (hV16:qab.V _ (qaZ [(preimage a1_kind a2_parts)]) _)
 have hR19:=((((hB2.extN hS4).extN hS7).extN hS9).extN hS12)
 have hR20:=(hR19.ext hS15 (fun hx=>(fun he=>(qb8 hge12 hR14.lt) he.symm) hx))
 refine qaw rfl rfl (qf7 (qf6 (Foc.id _) hM15 rfl rfl hV16 ty24 hR20 (by first | rfl | simp | omega)) ?_)
 rintro w18 (hB18:Bx qab _ _ b2 [] [] (qaZ [(preimage a1_kind a2_parts)])) hS18 hM18
 have hE18:=hE15.comp hS18 (fun c hx hlt=>(by subst hx;exact (fun hlt=>absurd hlt (Nat.not_lt.2 (Nat.le_trans hE0.size hge2))) hlt))
 refine qaj ?_
 refine qa4 ?_
 refine qiG hR (qne rfl rfl ty24 hB18) ?_
 rintro v21 hV21
 exact ⟨K9,v21,(qaZ [(preimage a1_kind a2_parts)]),rfl,h,hE18,hM18,hV21⟩
theorem qqm {w0:World} {K0:Ghost} {a1_kind_v:Value} {a1_kind:Int} {a2_parts_v:Value} {a2_parts:(List (List UInt8))} (hM0:Models w0 K0) (h_a1_kind:(Kd.int .i64).V K0 a1_kind a1_kind_v) (h_a2_parts:qaN.V K0 a2_parts a2_parts_v) (hp:1+qao a2_parts≤140737488355328):Calls Try.prog 67 #[(.pointer none),a1_kind_v,a2_parts_v] w0 (fun e w'=> ∃(K':Ghost) (r0:Value),e= .returned r0∧Ext NX w0 K0 w' K'∧Models w' K'∧qab.V K' (qam a1_kind a2_parts) r0):=by
 refine (qlW hM0 h_a1_kind h_a2_parts (qo1 h_a1_kind.wf h_a2_parts.wf hp)).mono ?_
 rintro _ w' ⟨K',r0,o0,rfl,rfl,hF⟩
 exact ⟨K',r0,rfl,hF⟩
def qf2 (a1_s:(List UInt8)) (a2_b:(List UInt8)) (Q:Prop):Prop:=
 Q
theorem qlU {a1_s:(List UInt8)} {a2_b:(List UInt8)} (w_0:qab.wf a1_s) (w_1:qah.wf a2_b):qf2 a1_s a2_b (True):=by
 trivial
theorem qjc {w0:World} {K0:Ghost} {a1_s_v:Value} {a1_s:(List UInt8)} {a2_b_v:Value} {a2_b:(List UInt8)} {Q:Prop} (hM0:Models w0 K0) (h_a1_s:qab.V K0 a1_s a1_s_v) (h_a2_b:qah.V K0 a2_b a2_b_v) (h:qf2 a1_s a2_b Q):Calls Try.prog 56 #[(.pointer none),a1_s_v,a2_b_v] w0 (fun e w'=> ∃(K':Ghost),e= .returned (.tuple #[])∧Q∧Ext NX w0 K0 w' K'∧Models w' K'):=by
 unfold qf2 at h
 have hE0:Ext NX w0 K0 w0 K0:=Ext.refl _ _ _
 refine qay fun R hR=>?_
 refine qax (args:=[(.pointer none),a1_s_v,a2_b_v]) Try.func56 rfl (Nat.le_of_ble_eq_true rfl) ?_
 refine qaf ?_
 refine qac ?_
 refine qaw rfl rfl (St_B (qei hM0 rfl h_a1_s) ?_)
 rintro b3 w3 (hB3:Bx qab _ _ _ _ _ a1_s) hS3 hM3 hge3
 have hE3:=hE0.andN hS3
 refine qaj ?_
 refine qaf ?_
 refine qac ?_
 refine qaa (.pointer none) (R_mv rfl) rfl rfl ?_
 refine qaa (.bool false) (qgO rfl rfl Try.underlying35) rfl rfl ?_
 refine qaj ?_
 refine qau false rfl (fun hc=>by cases hc) (fun _=>?_)
 refine qaE ?_
 exact qgk hR (v:=(.tuple #[])) (qiW rfl) ⟨K0,rfl,h,hE3,hM3⟩
theorem qnD {w0:World} {K0:Ghost} {a1_s_v:Value} {a1_s:(List UInt8)} {a2_b_v:Value} {a2_b:(List UInt8)} (hM0:Models w0 K0) (h_a1_s:qab.V K0 a1_s a1_s_v) (h_a2_b:qah.V K0 a2_b a2_b_v):Calls Try.prog 56 #[(.pointer none),a1_s_v,a2_b_v] w0 (fun e w'=> ∃(K':Ghost),e= .returned (.tuple #[])∧Ext NX w0 K0 w' K'∧Models w' K'):=by
 refine (qjc hM0 h_a1_s h_a2_b (qlU h_a1_s.wf h_a2_b.wf)).mono ?_
 rintro _ w' ⟨K',rfl, -,hF⟩
 exact ⟨K',rfl,hF⟩
def qeD  (Q:Int→Prop):Prop:=
 Q 0
theorem qjE  :qeD  (fun o0=>o0=(0:Int)):=by
 rfl
theorem qhs {w0:World} {K0:Ghost}  {Q:Int→Prop} (hM0:Models w0 K0)  (h:qeD  Q):Calls Try.prog 99 #[(.pointer none)] w0 (fun e w'=> ∃(K':Ghost) (r0:Value) (o0:Int),e= .returned r0∧Q o0∧Ext NX w0 K0 w' K'∧Models w' K'∧(Kd.int .i64).V K' o0 r0):=by
 unfold qeD at h
 have hE0:Ext NX w0 K0 w0 K0:=Ext.refl _ _ _
 refine qay fun R hR=>?_
 refine qax (args:=[(.pointer none)]) Try.func99 rfl (Nat.le_of_ble_eq_true rfl) ?_
 refine qaf ?_
 refine qac ?_
 refine qaa (.int .i64 0) (R_as rfl) rfl rfl ?_
 refine qaj ?_
 refine qaf ?_
 refine qaf ?_
 refine qac ?_
 refine qaa (.pointer none) (R_mv rfl) rfl rfl ?_
 refine qaa (.bool true) (qfr rfl rfl Try.underlying35) rfl rfl ?_
 refine qaj ?_
 refine qau true rfl (fun _=>?_) (fun hc=>by cases hc)
 refine qaf ?_
 refine qac ?_
 refine qaa (.int .i64 0) (R_as rfl) rfl rfl ?_
 refine qaj ?_
 refine qa4 ?_
 exact qaC hR (v:=(.int .i64 0)) (qcb rfl rfl) ⟨K0,(.int .i64 0),0,rfl,h,hE0,hM0,(qeo (show (Kd.int .i64).wf 0 from by constructor<;>decide))⟩
theorem qlD {w0:World} {K0:Ghost}  (hM0:Models w0 K0)  :Calls Try.prog 99 #[(.pointer none)] w0 (fun e w'=> ∃(K':Ghost) (r0:Value),e= .returned r0∧Ext NX w0 K0 w' K'∧Models w' K'∧(Kd.int .i64).V K' (0:Int) r0):=by
 refine (qhs hM0  (qjE)).mono ?_
 rintro _ w' ⟨K',r0,o0,rfl,rfl,hF⟩
 exact ⟨K',r0,rfl,hF⟩
def qfY (a1_s:(List UInt8)) (Q:(List UInt8)→Bool→Prop):Prop:=
 Q ([]:List UInt8) false
theorem qlO {a1_s:(List UInt8)} (w_0:qab.wf a1_s):qfY a1_s (fun o0 o1=>o0=([]:List UInt8)∧o1=false):=by
 exact ⟨rfl,rfl⟩
theorem qi9 {w0:World} {K0:Ghost} {a1_s_v:Value} {a1_s:(List UInt8)} {Q:(List UInt8)→Bool→Prop} (hM0:Models w0 K0) (h_a1_s:qab.V K0 a1_s a1_s_v) (h:qfY a1_s Q):Calls Try.prog 52 #[(.pointer none),a1_s_v] w0 (fun e w'=> ∃(K':Ghost) (r0:Value) (r1:Value) (o0:(List UInt8)) (o1:Bool),e= .returned (.tuple #[r0,r1])∧Q o0 o1∧Ext NX w0 K0 w' K'∧Models w' K'∧Own Kd.byte 5 w' K' o0 r0∧(∀g,ob r0=some g→w0.heap.size≤g)∧Kd.bool.V K' o1 r1):=by
 unfold qfY at h
 have hE0:Ext NX w0 K0 w0 K0:=Ext.refl _ _ _
 refine qay fun R hR=>?_
 refine qax (args:=[(.pointer none),a1_s_v]) Try.func52 rfl (Nat.le_of_ble_eq_true rfl) ?_
 refine qaf ?_
 refine qac ?_
 refine qaw rfl rfl (St_B (qei hM0 rfl h_a1_s) ?_)
 rintro b2 w2 (hB2:Bx qab _ _ _ _ _ a1_s) hS2 hM2 hge2
 have hE2:=hE0.andN hS2
 have hR4:Own Kd.byte 5 w2 K0 ([]:List UInt8) (.slice none 0 0):=Own.nil
 refine qaa (.slice none 0 0) (R_as rfl) rfl rfl ?_
 refine qaa (.bool false) (R_as rfl) rfl rfl ?_
 refine qaj ?_
 refine qaf ?_
 refine qaf ?_
 refine qac ?_
 refine qaa (.pointer none) (R_mv rfl) rfl rfl ?_
 refine qaa (.bool true) (qfr rfl rfl Try.underlying35) rfl rfl ?_
 refine qaj ?_
 refine qau true rfl (fun _=>?_) (fun hc=>by cases hc)
 refine qaf ?_
 refine qac ?_
 have hR5:Own Kd.byte 5 w2 K0 ([]:List UInt8) (.slice none 0 0):=Own.nil
 refine qaa (.slice none 0 0) (R_as rfl) rfl rfl ?_
 refine qaa (.bool false) (R_as rfl) rfl rfl ?_
 refine qaj ?_
 refine qa4 ?_
 exact qaC hR (v:=(.tuple #[(.slice none 0 0),(.bool false)])) (qla rfl rfl rfl) ⟨K0,(.slice none 0 0),(.bool false),([]:List UInt8),false,rfl,h,hE2,hM2,hR5,(fun g hg=>nilS hg),qcs⟩
theorem qnr {w0:World} {K0:Ghost} {a1_s_v:Value} {a1_s:(List UInt8)} (hM0:Models w0 K0) (h_a1_s:qab.V K0 a1_s a1_s_v):Calls Try.prog 52 #[(.pointer none),a1_s_v] w0 (fun e w'=> ∃(K':Ghost) (r0:Value) (r1:Value),e= .returned (.tuple #[r0,r1])∧Ext NX w0 K0 w' K'∧Models w' K'∧Own Kd.byte 5 w' K' ([]:List UInt8) r0∧(∀g,ob r0=some g→w0.heap.size≤g)∧Kd.bool.V K' false r1):=by
 refine (qi9 hM0 h_a1_s (qlO h_a1_s.wf)).mono ?_
 rintro _ w' ⟨K',r0,r1,o0,o1,rfl,⟨rfl,rfl⟩,hF⟩
 exact ⟨K',r0,r1,rfl,hF⟩
def qho  (Q:(List (List UInt8))→Prop):Prop:=
 Q ([]:List (List UInt8))
theorem qnl  :qho  (fun o0=>o0=([]:List (List UInt8))):=by
 rfl
theorem qjD {w0:World} {K0:Ghost}  {Q:(List (List UInt8))→Prop} (hM0:Models w0 K0)  (h:qho  Q):Calls Try.prog 100 #[(.pointer none)] w0 (fun e w'=> ∃(K':Ghost) (r0:Value) (o0:(List (List UInt8))),e= .returned r0∧Q o0∧Ext NX w0 K0 w' K'∧Models w' K'∧Own qah 32 w' K' o0 r0∧(∀g,ob r0=some g→w0.heap.size≤g)):=by
 unfold qho at h
 have hE0:Ext NX w0 K0 w0 K0:=Ext.refl _ _ _
 refine qay fun R hR=>?_
 refine qax (args:=[(.pointer none)]) Try.func100 rfl (Nat.le_of_ble_eq_true rfl) ?_
 refine qaf ?_
 refine qac ?_
 have hR1:Own qah 32 w0 K0 ([]:List (List UInt8)) (.slice none 0 0):=Own.nil
 refine qaa (.slice none 0 0) (R_as rfl) rfl rfl ?_
 refine qaj ?_
 refine qaf ?_
 refine qaf ?_
 refine qac ?_
 refine qaa (.pointer none) (R_mv rfl) rfl rfl ?_
 refine qaa (.bool true) (qfr rfl rfl Try.underlying35) rfl rfl ?_
 refine qaj ?_
 refine qau true rfl (fun _=>?_) (fun hc=>by cases hc)
 refine qaf ?_
 refine qac ?_
 have hR2:Own qah 32 w0 K0 ([]:List (List UInt8)) (.slice none 0 0):=Own.nil
 refine qaa (.slice none 0 0) (R_as rfl) rfl rfl ?_
 refine qaj ?_
 refine qa4 ?_
 exact qaC hR (v:=(.slice none 0 0)) (qcb rfl rfl) ⟨K0,(.slice none 0 0),([]:List (List UInt8)),rfl,h,hE0,hM0,hR2,(fun g hg=>nilS hg)⟩
theorem qoJ {w0:World} {K0:Ghost}  (hM0:Models w0 K0)  :Calls Try.prog 100 #[(.pointer none)] w0 (fun e w'=> ∃(K':Ghost) (r0:Value),e= .returned r0∧Ext NX w0 K0 w' K'∧Models w' K'∧Own qah 32 w' K' ([]:List (List UInt8)) r0∧(∀g,ob r0=some g→w0.heap.size≤g)):=by
 refine (qjD hM0  (qnl)).mono ?_
 rintro _ w' ⟨K',r0,o0,rfl,rfl,hF⟩
 exact ⟨K',r0,rfl,hF⟩
theorem Of_c {w0:World} {K0:Ghost} {a0_k_v:Value} {a0_k_F:Nat→Prop} {a0_k:qav} {a1_kind_v:Value} {a1_kind:Int} {a2_parts_v:Value} {a2_parts:(List (List UInt8))} (hM0:Models w0 K0) (h_a0_k:qhr w0 K0 a0_k_v a0_k_F a0_k) (h_a1_kind:(Kd.int .i64).V K0 a1_kind a1_kind_v) (h_a2_parts:qaN.V K0 a2_parts a2_parts_v) (hp:1+qao a2_parts≤140737488355328∧qaP a0_k):Calls Try.prog 67 #[a0_k_v,a1_kind_v,a2_parts_v] w0 (fun e w'=> ∃(K':Ghost) (r0:Value) (F0:Nat→Prop),e= .returned r0∧Ext a0_k_F w0 K0 w' K'∧Models w' K'∧qab.V K' (qam a1_kind a2_parts) r0∧qhr w' K' a0_k_v F0 (qaD a0_k a1_kind a2_parts)∧(∀g,F0 g→a0_k_F g∨w0.heap.size≤g)):=by
 cases a0_k with
 | none=>
   obtain ⟨rfl,rfl⟩:=h_a0_k
   refine (qqm hM0 h_a1_kind h_a2_parts hp.1).mono ?_
   rintro _ w' ⟨K',r0,rfl,hE,hM,hr0⟩
   exact ⟨K',r0,NX,rfl,hE,hM,hr0,⟨rfl,rfl⟩,fun g hg=>hg.elim⟩
 | some x=>
   obtain ⟨b,pre,post,lv,mv,m,rfl,hB,hO,hm,hi,hF,hlt⟩:=h_a0_k
   refine (qql hM0 hB hO hm h_a1_kind h_a2_parts ⟨hi,hp.1,hp.2 x rfl⟩).mono ?_
   rintro _ w' ⟨K',r0,u0,u1,rfl,hE,hM,hr0,hB',hO',hx,hm',hy⟩
   refine ⟨K',r0,_,rfl,hE.weak (fun g hg hx=>hF g hx),hM,hr0,qaJ.mk hB' hO' hm' (qkd hi _ _),fun g hg=>?_⟩
   rcases hg with rfl | hg | hg
   ·exact .inl (hF _ (.inl rfl))
   ·exact (hx g hg).imp (fun h=>hF g (.inr (.inl h))) id
   ·exact (hy g hg).imp (fun h=>hF g (.inr (.inr h))) id
theorem qnE {w0:World} {K0:Ghost} {a0_k_v:Value} {a0_k_F:Nat→Prop} {a0_k:qav} {a1_s_v:Value} {a1_s:(List UInt8)} {a2_b_v:Value} {a2_b:(List UInt8)} (hM0:Models w0 K0) (h_a0_k:qhr w0 K0 a0_k_v a0_k_F a0_k) (h_a1_s:qab.V K0 a1_s a1_s_v) (h_a2_b:qah.V K0 a2_b a2_b_v) (hp:a2_b.length≤140737488355328∧qaP a0_k):Calls Try.prog 56 #[a0_k_v,a1_s_v,a2_b_v] w0 (fun e w'=> ∃(K':Ghost) (F0:Nat→Prop),e= .returned (.tuple #[])∧Ext a0_k_F w0 K0 w' K'∧Models w' K'∧qhr w' K' a0_k_v F0 (qai a0_k a1_s a2_b)∧(∀g,F0 g→a0_k_F g∨w0.heap.size≤g)):=by
 cases a0_k with
 | none=>
   obtain ⟨rfl,rfl⟩:=h_a0_k
   refine (qnD hM0 h_a1_s h_a2_b ).mono ?_
   rintro _ w' ⟨K',rfl,hE,hM⟩
   exact ⟨K',NX,rfl,hE,hM,⟨rfl,rfl⟩,fun g hg=>hg.elim⟩
 | some x=>
   obtain ⟨b,pre,post,lv,mv,m,rfl,hB,hO,hm,hi,hF,hlt⟩:=h_a0_k
   refine (qoW hM0 hB hO hm h_a1_s h_a2_b ⟨hi,hp.1,hp.2 x rfl⟩).mono ?_
   rintro _ w' ⟨K',u0,u1,rfl,hE,hM,hB',hO',hx,hm',hy⟩
   refine ⟨K',_,rfl,hE.weak (fun g hg hx=>hF g hx),hM,qaJ.mk hB' hO' hm' (qkd hi _ _),fun g hg=>?_⟩
   rcases hg with rfl | hg | hg
   ·exact .inl (hF _ (.inl rfl))
   ·exact (hx g hg).imp (fun h=>hF g (.inr (.inl h))) id
   ·exact (hy g hg).imp (fun h=>hF g (.inr (.inr h))) id
theorem qlE {w0:World} {K0:Ghost} {a0_k_v:Value} {a0_k_F:Nat→Prop} {a0_k:qav} (hM0:Models w0 K0) (h_a0_k:qhr w0 K0 a0_k_v a0_k_F a0_k):Calls Try.prog 99 #[a0_k_v] w0 (fun e w'=> ∃(K':Ghost) (r0:Value),e= .returned r0∧Ext NX w0 K0 w' K'∧Models w' K'∧(Kd.int .i64).V K' (qbI a0_k) r0):=by
 cases a0_k with
 | none=>
   obtain ⟨rfl,rfl⟩:=h_a0_k
   exact (qlD hM0  )
 | some x=>
   obtain ⟨b,pre,post,lv,mv,m,rfl,hB,hO,hm,hi,hF,hlt⟩:=h_a0_k
   exact (qno hM0 hB hO hm  )
theorem qns {w0:World} {K0:Ghost} {a0_k_v:Value} {a0_k_F:Nat→Prop} {a0_k:qav} {a1_s_v:Value} {a1_s:(List UInt8)} (hM0:Models w0 K0) (h_a0_k:qhr w0 K0 a0_k_v a0_k_F a0_k) (h_a1_s:qab.V K0 a1_s a1_s_v) (hp:qbV a0_k):Calls Try.prog 52 #[a0_k_v,a1_s_v] w0 (fun e w'=> ∃(K':Ghost) (r0:Value) (r1:Value),e= .returned (.tuple #[r0,r1])∧Ext NX w0 K0 w' K'∧Models w' K'∧Own Kd.byte 5 w' K' (qci a0_k a1_s) r0∧(∀g,ob r0=some g→w0.heap.size≤g)∧Kd.bool.V K' (qdR a0_k a1_s) r1):=by
 cases a0_k with
 | none=>
   obtain ⟨rfl,rfl⟩:=h_a0_k
   exact (qnr hM0 h_a1_s )
 | some x=>
   obtain ⟨b,pre,post,lv,mv,m,rfl,hB,hO,hm,hi,hF,hlt⟩:=h_a0_k
   exact (qoN hM0 hB hO hm h_a1_s ⟨hi,(hp x rfl).2⟩)
theorem qoK {w0:World} {K0:Ghost} {a0_k_v:Value} {a0_k_F:Nat→Prop} {a0_k:qav} (hM0:Models w0 K0) (h_a0_k:qhr w0 K0 a0_k_v a0_k_F a0_k) (hp:qbV a0_k):Calls Try.prog 100 #[a0_k_v] w0 (fun e w'=> ∃(K':Ghost) (r0:Value),e= .returned r0∧Ext NX w0 K0 w' K'∧Models w' K'∧Own qah 32 w' K' (qdQ a0_k) r0∧(∀g,ob r0=some g→w0.heap.size≤g)):=by
 cases a0_k with
 | none=>
   obtain ⟨rfl,rfl⟩:=h_a0_k
   exact (qoJ hM0  )
 | some x=>
   obtain ⟨b,pre,post,lv,mv,m,rfl,hB,hO,hm,hi,hF,hlt⟩:=h_a0_k
   exact (qi5 hM0 hB hO hm  (hp x rfl))
abbrev qbO:Kd ((List ((List UInt8)×(List UInt8)))×Unit):=(Kd.pr qar Kd.anm)
abbrev qfh:Kd (((List ((List UInt8)×(List UInt8)))×Unit)×Int):=(Kd.pr qbO (Kd.int .i64))
abbrev qby:Kd (Option (((List ((List UInt8)×(List UInt8)))×Unit)×Int)):=(Kd.ptr qfh)
abbrev qbi:Kd (List (Option (((List ((List UInt8)×(List UInt8)))×Unit)×Int))):=(Kd.sl qby)
theorem ty41:TyOk Try.prog 41 qal 40:=⟨⟨Try.t41,_,Try.type41,rfl,rfl,rfl,rfl,rfl⟩,⟨_,Try.underlying41,rfl⟩⟩
theorem qqe:TyOk Try.prog 35 qby 8:=⟨⟨Try.t35,_,Try.type35,rfl,rfl,rfl,rfl,rfl⟩,⟨_,Try.underlying35,rfl⟩⟩
theorem qrB:TyOk Try.prog 39 qbO 32:=⟨⟨Try.t39,_,Try.type39,rfl,rfl,rfl,rfl,rfl⟩,⟨_,Try.underlying39,rfl⟩⟩
theorem ty36:TyOk Try.prog 36 qar 24:=⟨⟨Try.t36,_,Try.type36,rfl,rfl,rfl,rfl,rfl⟩,⟨_,Try.underlying36,rfl⟩⟩
theorem fs41 {fs:Array Field} (h:Try.prog.underlying 41=some (.struct fs)): ∀f∈fs.toList,∃i,Try.prog.info? f.type=some i:=by
 have h2:=(Try.underlying41).symm.trans h
 cases h2
 intro f hf
 simp only [List.mem_cons,List.not_mem_nil,or_false] at hf
 rcases hf with rfl | rfl
 ·exact ⟨_,Try.type39⟩
 ·exact ⟨_,Try.type3⟩
def qep (a0_l:(List (Option (((List ((List UInt8)×(List UInt8)))×Unit)×Int)))) (Q:(List UInt8)→(List UInt8)→Bool→Prop):Prop:=
 ∃(I10:(List UInt8)→(List UInt8)→Bool→Int→(List ((List UInt8)×(List UInt8)))→(List ((List UInt8)×Int))→Prop) (μ10:(List UInt8)→(List UInt8)→Bool→Int→(List ((List UInt8)×(List UInt8)))→(List ((List UInt8)×Int))→Nat),I10 ([]:List UInt8) ([]:List UInt8) false 0 ([]:List ((List UInt8)×(List UInt8))) ([]:List ((List UInt8)×Int))∧∀(a10:(List UInt8)) (b10:(List UInt8)) (found10:Bool) (i10:Int) (y10:(List ((List UInt8)×(List UInt8)))) (y10':(List ((List UInt8)×Int))),I10 a10 b10 found10 i10 y10 y10'→(qah.wf a10)→(qah.wf b10)→((Kd.int .i64).wf i10)→(qar.wf y10)→(((i10<(a0_l.length:Int))→(0≤i10∧i10<(a0_l.length:Int))∧(((((ix a0_l i10).isNone)=true)→I10 a10 b10 found10 (i10+1) y10 y10'∧μ10 a10 b10 found10 (i10+1) y10 y10'<μ10 a10 b10 found10 i10 y10 y10')∧((((ix a0_l i10).isNone)=false)→∀(y20:(((List ((List UInt8)×(List UInt8)))×Unit)×Int)),(ix a0_l i10)=some y20→(∃(I28:(List UInt8)→(List UInt8)→Bool→Int→(List ((List UInt8)×(List UInt8)))→(List ((List UInt8)×Int))→Prop) (μ28:(List UInt8)→(List UInt8)→Bool→Int→(List ((List UInt8)×(List UInt8)))→(List ((List UInt8)×Int))→Nat),I28 a10 b10 found10 0 y10 y10'∧∀(a28:(List UInt8)) (b28:(List UInt8)) (found28:Bool) (i28:Int) (y28:(List ((List UInt8)×(List UInt8)))) (y28':(List ((List UInt8)×Int))),I28 a28 b28 found28 i28 y28 y28'→(qah.wf a28)→(qah.wf b28)→((Kd.int .i64).wf i28)→(qar.wf y28)→(((i28<(y20.1.1.length:Int))→(0≤i28∧i28<(y20.1.1.length:Int))∧(((((mfind ((ix y20.1.1 i28).1) y28').isSome)=true)→((0≤((mfind ((ix y20.1.1 i28).1) y28').getD 0)∧((mfind ((ix y20.1.1 i28).1) y28').getD 0)<(y28.length:Int))∧(True)))∧((((((mfind ((ix y20.1.1 i28).1) y28').isSome)=true)∧(¬(((ix y28 ((mfind ((ix y20.1.1 i28).1) y28').getD 0)).2)=((ix y20.1.1 i28).2))))→(0≤((mfind ((ix y20.1.1 i28).1) y28').getD 0)∧((mfind ((ix y20.1.1 i28).1) y28').getD 0)<(y28.length:Int))∧((((ix y28 ((mfind ((ix y20.1.1 i28).1) y28').getD 0)).2).length≤140737488355328)∧((qah.wf ((ix y28 ((mfind ((ix y20.1.1 i28).1) y28').getD 0)).2))→((((ix y20.1.1 i28).2).length≤140737488355328)∧((qah.wf ((ix y20.1.1 i28).2))→(Q ((ix y28 ((mfind ((ix y20.1.1 i28).1) y28').getD 0)).2) ((ix y20.1.1 i28).2) true))))))∧((¬((((mfind ((ix y20.1.1 i28).1) y28').isSome)=true)∧(¬(((ix y28 ((mfind ((ix y20.1.1 i28).1) y28').getD 0)).2)=((ix y20.1.1 i28).2)))))→(qaK y28 y28'∧((ix y20.1.1 i28).2).length≤140737488355328∧(y28.length+1) *64≤140737488355328)∧(I28 a28 b28 found28 (i28+1) (addL y28 ((ix y20.1.1 i28).1) ((ix y20.1.1 i28).2)) (addM y28 y28' ((ix y20.1.1 i28).1) ((ix y20.1.1 i28).2))∧μ28 a28 b28 found28 (i28+1) (addL y28 ((ix y20.1.1 i28).1) ((ix y20.1.1 i28).2)) (addM y28 y28' ((ix y20.1.1 i28).1) ((ix y20.1.1 i28).2))<μ28 a28 b28 found28 i28 y28 y28')))))∧((¬(i28<(y20.1.1.length:Int)))→I10 a28 b28 found28 (IntKind.i64.wrap (i10+1)) y28 y28'∧μ10 a28 b28 found28 (IntKind.i64.wrap (i10+1)) y28 y28'<μ10 a10 b10 found10 i10 y10 y10'))))))∧((¬(i10<(a0_l.length:Int)))→Q ([]:List UInt8) ([]:List UInt8) false))
theorem qlH {a0_l:(List (Option (((List ((List UInt8)×(List UInt8)))×Unit)×Int)))} (w_0:qbi.wf a0_l) (hp:qbW a0_l):qep a0_l (fun o0 o1 o2=>o0=(qan a0_l).1∧o1=(qan a0_l).2.1∧o2=(qan a0_l).2.2):=by
 obtain ⟨hp1,hp2⟩:=hp
 unfold qep
 refine ⟨fun _ _ _ i l m=> ∃j:Nat,i=(j:Int)∧j≤a0_l.length∧qan a0_l=qaX l (qaG (a0_l.drop j))∧qaK l m∧l.length≤(qaG (a0_l.take j)).length∧∀z∈l,z∈qaG a0_l,fun _ _ _ i _ _=>a0_l.length - i.toNat,⟨0,rfl,by omega,by simp [qan],fun s=>rfl,by simp,by simp⟩,?_⟩
 rintro a b f i l m ⟨j,rfl,hj,hc,hi,hlen,hmem⟩ _ _ _ _
 refine ⟨fun hlt=>⟨⟨by omega,hlt⟩,fun hn=>⟨⟨j+1,by omega,by omega,?_,hi,?_,hmem⟩,?_⟩,fun hs y hy=>?_⟩,fun hge=>?_⟩
 ·rw [hc,qe3 hlt]
  rw [Option.isNone_iff_eq_none] at hn
  rw [hn]
  rfl
 ·have h1:=congrArg List.length (qdi (a0_l.take (j+1)) j)
  rw [List.take_take,Nat.min_eq_left (by omega),List.length_append] at h1
  omega
 ·show a0_l.length - ((j:Int)+1).toNat<a0_l.length - (j:Int).toNat
  omega
 ·have hd:=qe3 hlt
  rw [hy] at hd
  simp only at hd
  have hall:=qdi a0_l j
  have hal:=congrArg List.length hall
  rw [hd,List.length_append,List.length_append] at hal
  have hym: ∀z∈y.1.1,z∈qaG a0_l:=fun z hz=>by
   rw [hall,hd]
   simp [hz]
  refine ⟨fun _ _ _ i l m=> ∃n:Nat,i=(n:Int)∧n≤y.1.1.length∧qan a0_l=qaX l (y.1.1.drop n++qaG (a0_l.drop (j+1)))∧qaK l m∧l.length≤(qaG (a0_l.take j)).length+n∧∀z∈l,z∈qaG a0_l,fun _ _ _ i _ _=>y.1.1.length - i.toNat,⟨0,rfl,by omega,by rw [hc,hd];simp,hi,by omega,hmem⟩,?_⟩
  rintro a b f i l m ⟨n,rfl,hn,hc,hi,hlen,hmem⟩ _ _ _ _
  simp only [hi _]
  refine ⟨fun hlt2=>⟨⟨by omega,hlt2⟩,?_,?_,?_⟩,fun hge=>?_⟩
  ·intro hs
   obtain ⟨a,ha⟩:=Option.isSome_iff_exists.1 hs
   have:=qfB ha
   rw [ha]
   exact ⟨this,trivial⟩
  ·intro hs
   have hnl:n<y.1.1.length:=by omega
   have hst:y.1.1.drop n++qaG (a0_l.drop (j+1))=ix y.1.1 (n:Int)::(y.1.1.drop (n+1)++qaG (a0_l.drop (j+1))):=by
    rw [List.drop_eq_getElem_cons hnl,qa3 (by simpa using hnl)]
    rfl
   rw [hst,qdc,if_pos hs] at hc
   obtain ⟨a,ha⟩:=Option.isSome_iff_exists.1 hs.1
   have hb:=qfB ha
   rw [ha] at hc⊢
   simp only [Option.getD_some] at hc⊢
   refine ⟨hb,hp2 _ (hmem _ (qh0 hb.1 hb.2)),fun _=>⟨hp2 _ (hym _ (qh0 (by omega) hlt2)),fun _=>?_⟩⟩
   rw [hc]
   exact ⟨rfl,rfl,rfl⟩
  ·intro hs
   have hnl:n<y.1.1.length:=by omega
   have hst:y.1.1.drop n++qaG (a0_l.drop (j+1))=ix y.1.1 (n:Int)::(y.1.1.drop (n+1)++qaG (a0_l.drop (j+1))):=by
    rw [List.drop_eq_getElem_cons hnl,qa3 (by simpa using hnl)]
    rfl
   rw [hst,qdc,if_neg hs] at hc
   have hx:=hym _ (qh0 (l:=y.1.1) (i:=(n:Int)) (by omega) hlt2)
   refine ⟨⟨fun s=>hi s,hp2 _ hx,by omega⟩,⟨n+1,by omega,by omega,hc,qkd hi _ _,?_,?_⟩,?_⟩
   ·have:=qgb l (ix y.1.1 (n:Int)).1 (ix y.1.1 (n:Int)).2
    omega
   ·intro z hz
    rcases qdt hz with h | rfl
    ·exact hmem z h
    ·exact hx
   ·show y.1.1.length - ((n:Int)+1).toNat<y.1.1.length - (n:Int).toNat
    omega
  ·have hne:n=y.1.1.length:=by omega
   subst hne
   have hw:IntKind.i64.wrap ((j:Int)+1)=(j:Int)+1:=qaI (wf64 (by omega) (by have:=w_0.1;unfold LM at this;omega))
   rw [hw]
   refine ⟨⟨j+1,by omega,by omega,by rw [hc];simp,hi,?_,hmem⟩,?_⟩
   ·have h1:=congrArg List.length (qdi (a0_l.take (j+1)) j)
    rw [List.take_take,Nat.min_eq_left (by omega),List.length_append,List.drop_take] at h1
    have h2:qaG ((a0_l.drop j).take (j+1 - j))=y.1.1:=by
     have hj':j<a0_l.length:=by omega
     rw [List.drop_eq_getElem_cons hj',show j+1 - j=1 from by omega,List.take_succ_cons,List.take_zero]
     have:a0_l[j]=some y:=by
      rw [←hy,qa3 (by simpa using hj')]
      rfl
     rw [this]
     simp [qaG]
    rw [h2] at h1
    omega
   ·show a0_l.length - ((j:Int)+1).toNat<a0_l.length - (j:Int).toNat
    omega
 ·have:j=a0_l.length:=by omega
  subst this
  rw [hc]
  simp [qaG,qaX]
theorem qi8 {w0:World} {K0:Ghost} {a0_l_v:Value} {a0_l:(List (Option (((List ((List UInt8)×(List UInt8)))×Unit)×Int)))} {Q:(List UInt8)→(List UInt8)→Bool→Prop} (hM0:Models w0 K0) (h_a0_l:qbi.V K0 a0_l a0_l_v) (h:qep a0_l Q):Calls Try.prog 36 #[a0_l_v] w0 (fun e w'=> ∃(K':Ghost) (r0:Value) (r1:Value) (r2:Value) (o0:(List UInt8)) (o1:(List UInt8)) (o2:Bool),e= .returned (.tuple #[r0,r1,r2])∧Q o0 o1 o2∧Ext NX w0 K0 w' K'∧Models w' K'∧qah.V K' o0 r0∧qah.V K' o1 r1∧Kd.bool.V K' o2 r2):=by
 unfold qep at h
 have hE0:Ext NX w0 K0 w0 K0:=Ext.refl _ _ _
 refine qay fun R hR=>?_
 refine qax (args:=[a0_l_v]) Try.func36 rfl (Nat.le_of_ble_eq_true rfl) ?_
 refine qaf ?_
 refine qac ?_
 have hR2:Own Kd.byte 5 w0 K0 ([]:List UInt8) (.slice none 0 0):=Own.nil
 refine qaa (.slice none 0 0) (R_as rfl) rfl rfl ?_
 have hR3:Own Kd.byte 5 w0 K0 ([]:List UInt8) (.slice none 0 0):=Own.nil
 refine qaa (.slice none 0 0) (R_as rfl) rfl rfl ?_
 refine qaa (.bool false) (R_as rfl) rfl rfl ?_
 refine qaj ?_
 refine qaf ?_
 refine qac ?_
 refine WL_V (qnM (K:=K0) (vs:=[]) (Z:=(((.slice none 0 0),(.map none)),0)) ty41 rfl Try.underlying41 (fs41 Try.underlying41) rfl Parts.nil) rfl rfl ?_
 rintro v4 (hV4:qal.V _ (((.slice none 0 0),(.map none)),0) _)
 refine qaw rfl rfl (St_B (qei hM0 rfl hV4) ?_)
 rintro b6 w6 (hB6:Bx qal _ _ _ _ _ (((.slice none 0 0),(.map none)),0)) hS6 hM6 hge6
 have hE6:=hE0.andN hS6
 have hR8:Own qae 146 w6 K0 ([]:List ((List UInt8)×(List UInt8))) (.slice none 0 0):=Own.nil
 have hR9:Mp qab (Kd.int .i64) w6 K0 ([]:List ((List UInt8)×Int)) (.map none):=Or.inl ⟨rfl,rfl⟩
 refine qaa (.pointer (some ⟨b6,0,none⟩)) (R_as rfl) rfl rfl ?_
 refine qaj ?_
 refine qaf ?_
 refine qaf ?_
 refine qac ?_
 refine qaa a0_l_v (R_mv rfl) rfl rfl ?_
 refine qaa (.int .i64 (a0_l.length:Int)) (qdr rfl (h_a0_l.mono hS6.le) Try.underlying107) rfl rfl ?_
 refine qaa (.int .i64 0) (R_mv rfl) rfl rfl ?_
 refine qaj ?_
 refine qa0 ?_
 have hR12:=(hR2.extN hS6)
 have hR13:=(hR3.extN hS6)
 obtain ⟨I10,μ10,h0,h⟩:=h
 refine qcK (ι:=(List UInt8)×(List UInt8)×Bool×Int×(List ((List UInt8)×(List UInt8)))×(List ((List UInt8)×Int))) [2,3,4,7,9,10,11,16,17,18,19,20,21,22,23,24,25,26,27,28,29,30,31,32,33,34,35,36,37,38,39,40,41,42,43,44,45,46,47,48,49,50,51,52,53,54,55,56,57,58,59,60,61,62,63,64,65,66,67,68,69,70,71,72,73,74,75,76,77,78,79,80,81] (fun s l w=> ∃K u2 u3 z7_0_0 z7_0_1,I10 s.1 s.2.1 s.2.2.1 s.2.2.2.1 s.2.2.2.2.1 s.2.2.2.2.2∧l=[(2,u2),(3,u3),(4,(.bool s.2.2.1)),(16,(.int .i64 s.2.2.2.1))]∧Ext (fun c=>ob (.slice none 0 0)=some c∨ob (.slice none 0 0)=some c∨ob (.slice none 0 0)=some c∨mb (.map none)=some c∨c=b6) w6 K0 w K∧Models w K∧(Kd.int .i64).wf s.2.2.2.1∧Own Kd.byte 5 w K s.1 u2∧(∀g,ob u2=some g→ob (.slice none 0 0)=some g∨w6.heap.size≤g)∧Own Kd.byte 5 w K s.2.1 u3∧(∀g,ob u3=some g→ob (.slice none 0 0)=some g∨w6.heap.size≤g)∧Own qae 146 w K s.2.2.2.2.1 z7_0_0∧(∀g,ob z7_0_0=some g→ob (.slice none 0 0)=some g∨w6.heap.size≤g)∧Mp qab (Kd.int .i64) w K s.2.2.2.2.2 z7_0_1∧(∀g,mb z7_0_1=some g→mb (.map none)=some g∨w6.heap.size≤g)∧Bx qal w K b6 [] [] ((z7_0_0,z7_0_1),0)∧(∀g,ob u2=some g→¬(ob u3=some g))) (fun s=>μ10 s.1 s.2.1 s.2.2.1 s.2.2.2.1 s.2.2.2.2.1 s.2.2.2.2.2) (([]:List UInt8),([]:List UInt8),false,0,([]:List ((List UInt8)×(List UInt8))),([]:List ((List UInt8)×Int))) [(2,(.slice none 0 0)),(3,(.slice none 0 0)),(4,(.bool false)),(16,(.int .i64 0))]
  ⟨K0,(.slice none 0 0),(.slice none 0 0),(.slice none 0 0),(.map none),h0,rfl,Ext.refl _ _ _,hM6,(show (Kd.int .i64).wf 0 from by constructor<;>decide),hR12,(fun g hg=>(.inl hg)),hR13,(fun g hg=>(.inl hg)),hR8,(fun g hg=> .inr (nilS hg)),hR9,(fun g hg=> .inr (nilM hg)),hB6,(fun g hg hx=>(fun g hg _=>nilS hg) g hx hg)⟩ (by repeat (first | exact trivial | refine ⟨rfl,?_⟩)) ?_
 rintro ⟨a10,b10,found10,i10,y10,y10'⟩ l σ10 w11 ⟨K11,u2_10,u3_10,z7_0_0_10,z7_0_1_10,hI,rfl,hX11,hM11,hw10_16,hL10_u2,ho10_u2,hL10_u3,ho10_u3,hL10_z7_0_0,ho10_z7_0_0,hL10_z7_0_1,ho10_z7_0_1,hL10_7,hs10_u2_u3⟩
 dsimp only at hI hw10_16 hL10_u2 ho10_u2 hL10_u3 ho10_u3 hL10_z7_0_0 ho10_z7_0_0 hL10_z7_0_1 ho10_z7_0_1 hL10_7
 have hE11:=hE6.comp hX11 (fun c hx hlt=>Or.elim hx (fun hx=>(fun g hg _=>nilS hg) c hx hlt) (fun hx=>Or.elim hx (fun hx=>(fun g hg _=>nilS hg) c hx hlt) (fun hx=>Or.elim hx (fun hx=>(fun g hg _=>nilS hg) c hx hlt) (fun hx=>Or.elim hx (fun hx=>(fun g hg _=>nilM hg) c hx hlt) (fun hx=>(by subst hx;exact (fun hlt=>absurd hlt (Nat.not_lt.2 (Nat.le_trans hE0.size hge6))) hlt))))))
 have h:=h a10 b10 found10 i10 y10 y10' hI hL10_u2.wf hL10_u3.wf hw10_16 hL10_z7_0_0.wf
 refine qaf ?_
 refine qac ?_
 refine qaa (.bool (decide (i10<(a0_l.length:Int)))) (qf5 rfl rfl) rfl rfl ?_
 refine qaj ?_
 refine qaf ?_
 refine qau (decide (i10<(a0_l.length:Int))) rfl (fun hc14=>?_) (fun hc14=>?_)
 ·have hd14:i10<(a0_l.length:Int):=qel hc14
  have h:=h.1 hd14
  refine qaE ?_
  refine qaf ?_
  refine qa0 ?_
  refine qaf ?_
  refine qac ?_
  obtain ⟨hp16,h⟩:=h
  refine WL_P (qej rfl (h_a0_l.mono (hS6.le.trans hX11.le)) rfl Try.underlying107 qqe hp16.1 hp16.2) rfl rfl ?_
  rintro b15 o15 hP15
  refine WL_L hM11 (S_ld rfl qqe hP15) rfl rfl ?_
  rintro v18 (hV18:qby.V _ (ix a0_l i10) _)
  refine qaa v18 (R_as rfl) rfl rfl ?_
  refine qaj ?_
  refine qaf ?_
  refine qaf ?_
  refine qac ?_
  refine qaa v18 (R_mv rfl) rfl rfl ?_
  refine qaa (.bool ((ix a0_l i10).isNone)) (qiq rfl hV18 rfl Try.underlying35) rfl rfl ?_
  refine qaj ?_
  refine qau ((ix a0_l i10).isNone) rfl (fun hc20=>?_) (fun hc20=>?_)
  ·have hd20:((ix a0_l i10).isNone)=true:=hc20
   have h:=h.1 hd20
   refine qcy ?_
   refine qac ?_
   refine qaa (.int .i64 (i10+1)) (qjf rfl rfl hw10_16 hd14 (qbj (h_a0_l).wf.1)) rfl rfl ?_
   refine qaa (.int .i64 (i10+1)) (R_mv rfl) rfl rfl ?_
   refine qaj ?_
   refine qeC.mk (a10,b10,found10,(i10+1),y10,y10') [(2,u2_10),(3,u3_10),(4,(.bool found10)),(16,(.int .i64 (i10+1)))] ?_ ?_ ?_ ?_
   rotate_left
   ·exact h.2
   ·repeat (first | exact Off.lay0 rfl | refine Off.updO ?_ rfl _ | refine Off.updN ?_ _ | refine Off.lay ?_ rfl)
   ·repeat (first | exact trivial | refine ⟨rfl,?_⟩)
   exact ⟨K11,u2_10,u3_10,z7_0_0_10,z7_0_1_10,h.1,rfl,((Ext.refl _ _ _).comp hX11 (fun c hx hlt=>Or.elim hx (fun hx=>(.inl (hx))) (fun hx=>Or.elim hx (fun hx=>(.inl (hx))) (fun hx=>Or.elim hx (fun hx=>(absurd hlt (Nat.not_lt.2 (nilS hx)))) (fun hx=>Or.elim hx (fun hx=>(absurd hlt (Nat.not_lt.2 (nilM hx)))) (fun hx=>(.inr (.inr (.inr (.inr (hx))))))))))),hM11,(qfF hw10_16 hd14 (qbj (h_a0_l).wf.1)),hL10_u2,(fun g hg=>((ho10_u2 g hg).elim (fun hz=>(.inl hz)) (fun hz=> .inr (Nat.le_trans (Nat.le_refl _) hz)))),hL10_u3,(fun g hg=>((ho10_u3 g hg).elim (fun hz=>(.inl hz)) (fun hz=> .inr (Nat.le_trans (Nat.le_refl _) hz)))),hL10_z7_0_0,(fun g hg=> .inr ((ho10_z7_0_0 g hg).elim (fun hz=>(nilS hz)) (fun hz=>(Nat.le_trans (Nat.le_refl _) hz)))),hL10_z7_0_1,(fun g hg=> .inr ((ho10_z7_0_1 g hg).elim (fun hz=>(nilM hz)) (fun hz=>(Nat.le_trans (Nat.le_refl _) hz)))),hL10_7,hs10_u2_u3⟩
  ·have hd20:((ix a0_l i10).isNone)=false:=hc20
   have h:=h.2 hd20
   obtain ⟨y20,b20,o20,hy20,hv20,hP20⟩:=qgB hV18 (by rw [hd20];decide)
   have h:=h y20 hy20
   subst hv20
   refine qaE ?_
   refine qaf ?_
   refine qac ?_
   refine qaa (.pointer (some ⟨b20,o20,none⟩)) (R_mv rfl) rfl rfl ?_
   refine qaa (.pointer (some ⟨b20,o20,none⟩)) (qaB rfl) rfl rfl ?_
   have hP22:=Kd.Pt.foc (Foc.fst qbO (Kd.int .i64)) hP20
   refine qaa (.pointer (some ⟨b20,o20+0,none⟩)) (R_fa rfl Try.underlying41 rfl rfl qrB rfl) rfl rfl ?_
   have hP24:=Kd.Pt.foc (Foc.fst qar Kd.anm) hP22
   refine qaa (.pointer (some ⟨b20,o20+0+0,none⟩)) (R_fa rfl Try.underlying39 rfl rfl ty36 rfl) rfl rfl ?_
   refine WL_L hM11 (S_ld rfl ty36 hP24) rfl rfl ?_
   rintro v26 (hV26:qar.V _ y20.1.1 _)
   refine qaa (.int .i64 (y20.1.1.length:Int)) (qdr rfl hV26 Try.underlying36) rfl rfl ?_
   refine qaa (.int .i64 0) (R_mv rfl) rfl rfl ?_
   refine qaj ?_
   refine qa0 ?_
   obtain ⟨I28,μ28,h0,h⟩:=h
   refine qcK (ι:=(List UInt8)×(List UInt8)×Bool×Int×(List ((List UInt8)×(List UInt8)))×(List ((List UInt8)×Int))) [2,3,4,9,10,11,28,29,30,31,32,33,34,35,36,37,38,39,40,41,42,43,44,45,46,47,48,49,50,51,52,53,54,55,56,57,58,59,60,61,62,63,64,65,66,67,68,69,70,71,72,73,74,75,76,77,78,79,80] (fun s l w=> ∃K u2 u3 z7_0_0 z7_0_1,I28 s.1 s.2.1 s.2.2.1 s.2.2.2.1 s.2.2.2.2.1 s.2.2.2.2.2∧l=[(2,u2),(3,u3),(4,(.bool s.2.2.1)),(28,(.int .i64 s.2.2.2.1))]∧Ext (fun c=>ob u2_10=some c∨ob u3_10=some c∨ob z7_0_0_10=some c∨mb z7_0_1_10=some c∨c=b6) w11 K11 w K∧Models w K∧(Kd.int .i64).wf s.2.2.2.1∧Own Kd.byte 5 w K s.1 u2∧(∀g,ob u2=some g→ob u2_10=some g∨w11.heap.size≤g)∧Own Kd.byte 5 w K s.2.1 u3∧(∀g,ob u3=some g→ob u3_10=some g∨w11.heap.size≤g)∧Own qae 146 w K s.2.2.2.2.1 z7_0_0∧(∀g,ob z7_0_0=some g→ob z7_0_0_10=some g∨w11.heap.size≤g)∧Mp qab (Kd.int .i64) w K s.2.2.2.2.2 z7_0_1∧(∀g,mb z7_0_1=some g→mb z7_0_1_10=some g∨w11.heap.size≤g)∧Bx qal w K b6 [] [] ((z7_0_0,z7_0_1),0)∧(∀g,ob u2=some g→¬(ob u3=some g))) (fun s=>μ28 s.1 s.2.1 s.2.2.1 s.2.2.2.1 s.2.2.2.2.1 s.2.2.2.2.2) (a10,b10,found10,0,y10,y10') [(2,u2_10),(3,u3_10),(4,(.bool found10)),(28,(.int .i64 0))]
    ⟨K11,u2_10,u3_10,z7_0_0_10,z7_0_1_10,h0,rfl,Ext.refl _ _ _,hM11,(show (Kd.int .i64).wf 0 from by constructor<;>decide),hL10_u2,(fun g hg=>(.inl hg)),hL10_u3,(fun g hg=>(.inl hg)),hL10_z7_0_0,(fun g hg=>(.inl hg)),hL10_z7_0_1,(fun g hg=>(.inl hg)),hL10_7,hs10_u2_u3⟩ (by repeat (first | exact trivial | refine ⟨rfl,?_⟩)) ?_
   rintro ⟨a28,b28,found28,i28,y28,y28'⟩ l σ28 w29 ⟨K29,u2_28,u3_28,z7_0_0_28,z7_0_1_28,hI,rfl,hX29,hM29,hw28_28,hL28_u2,ho28_u2,hL28_u3,ho28_u3,hL28_z7_0_0,ho28_z7_0_0,hL28_z7_0_1,ho28_z7_0_1,hL28_7,hs28_u2_u3⟩
   dsimp only at hI hw28_28 hL28_u2 ho28_u2 hL28_u3 ho28_u3 hL28_z7_0_0 ho28_z7_0_0 hL28_z7_0_1 ho28_z7_0_1 hL28_7
   have hE29:=hE11.comp hX29 (fun c hx hlt=>Or.elim hx (fun hx=>(fun g hg hlt=>absurd hlt (Nat.not_lt.2 ((fun g hg=>(ho10_u2 g hg).elim (fun hx=>(fun g hg=>nilS hg) g hx) (fun hx=>Nat.le_trans hE6.size hx)) g hg))) c hx hlt) (fun hx=>Or.elim hx (fun hx=>(fun g hg hlt=>absurd hlt (Nat.not_lt.2 ((fun g hg=>(ho10_u3 g hg).elim (fun hx=>(fun g hg=>nilS hg) g hx) (fun hx=>Nat.le_trans hE6.size hx)) g hg))) c hx hlt) (fun hx=>Or.elim hx (fun hx=>(fun g hg hlt=>absurd hlt (Nat.not_lt.2 ((fun g hg=>(ho10_z7_0_0 g hg).elim (fun hx=>(fun g hg=>nilS hg) g hx) (fun hx=>Nat.le_trans hE6.size hx)) g hg))) c hx hlt) (fun hx=>Or.elim hx (fun hx=>(fun g hg hlt=>absurd hlt (Nat.not_lt.2 ((fun g hg=>(ho10_z7_0_1 g hg).elim (fun hx=>(fun g hg=>nilM hg) g hx) (fun hx=>Nat.le_trans hE6.size hx)) g hg))) c hx hlt) (fun hx=>(by subst hx;exact (fun hlt=>absurd hlt (Nat.not_lt.2 (Nat.le_trans hE0.size hge6))) hlt))))))
   have h:=h a28 b28 found28 i28 y28 y28' hI hL28_u2.wf hL28_u3.wf hw28_28 hL28_z7_0_0.wf
   refine qaf ?_
   refine qac ?_
   refine qaa (.bool (decide (i28<(y20.1.1.length:Int)))) (qf5 rfl rfl) rfl rfl ?_
   refine qaj ?_
   refine qaf ?_
   refine qau (decide (i28<(y20.1.1.length:Int))) rfl (fun hc30=>?_) (fun hc30=>?_)
   ·have hd30:i28<(y20.1.1.length:Int):=qel hc30
    have h:=h.1 hd30
    refine qaE ?_
    refine qaf ?_
    refine qa0 ?_
    refine qaf ?_
    refine qac ?_
    obtain ⟨hp32,h⟩:=h
    refine WL_P (qej rfl (hV26.mono hX29.le) rfl Try.underlying36 qcI hp32.1 hp32.2) rfl rfl ?_
    rintro b31 o31 hP31
    refine WL_L hM29 (S_ld rfl qcI hP31) rfl rfl ?_
    rintro v34 (hV34:qae.V _ (ix y20.1.1 i28) _)
    refine qaw rfl rfl (St_B (qcw hM29 qcI) ?_)
    rintro b36 w36 (hB36:Bx qae _ _ _ _ _ ((List.replicate 32 0),([]:List UInt8))) hS36 hM36 hge36
    have hE36:=hE29.andN hS36
    refine qaw rfl rfl (qf7 (qf6 (Foc.id _) hM36 rfl rfl (hV34.mono hS36.le) qcI hB36 (by first | rfl | simp | omega)) ?_)
    rintro w38 (hB38:Bx qae _ _ b36 [] [] (ix y20.1.1 i28)) hS38 hM38
    have hE38:=hE36.comp hS38 (fun c hx hlt=>(by subst hx;exact (fun hlt=>absurd hlt (Nat.not_lt.2 (Nat.le_trans hE29.size hge36))) hlt))
    refine qaj ?_
    refine qaf ?_
    refine qaf ?_
    refine qbx (K:=K29) NX [.o 0 2,.o 1 2,.o 2 2,.o 3 2,.o 4 2,.o 5 2,.o 6 2,.o 7 2,.o 8 2,.o 9 2,.o 10 2,.o 11 2,.o 12 2] (by kernel_rfl) (by kernel_rfl) hM38 ?_
    rintro w39 hS39 hM39
    have hE39:=hE38.andN hS39
    refine qag (.pointer (some ⟨b6,0,none⟩)) rfl l0 hM39 (fun _=>R_mv rfl) rfl (gN rfl) rfl ?_
    refine qag (.pointer (some ⟨b6,0,none⟩)) rfl l0 hM39 (fun _=>qaB rfl) rfl (gN rfl) rfl ?_
    refine qag (.pointer (some ⟨b6,0+0,none⟩)) rfl l0 hM39 (fun _=>R_fa rfl Try.underlying41 rfl rfl ty39 rfl) rfl (gN rfl) rfl ?_
    refine qag (.pointer (some ⟨b6,0+0+1,none⟩)) rfl l0 hM39 (fun _=>R_fa rfl Try.underlying39 rfl rfl qdJ rfl) rfl (gN rfl) rfl ?_
    have hR41:=(hL28_7.extN hS36)
    have hR42:=((hR41.ext hS38 (fun hx=>(fun he=>(qb8 hge36 hL28_7.lt) he.symm) hx)).extN hS39)
    refine qbo hM39 (qaT (Foc.trans (Foc.fst qak (Kd.int .i64)) (Foc.snd Kd.rsl Kd.rmp)) rfl qdJ hR42 (by first | rfl | simp | omega) (fun h=>h)) rfl (gN rfl) rfl ?_
    rintro v40 (hV40:Kd.rmp.V _ z7_0_1_28 _)
    obtain rfl:=qbp hV40
    refine qag (.pointer (some ⟨b36,0+0,none⟩)) rfl l0 hM39 (fun _=>R_fa rfl Try.underlying146 rfl rfl ty24 rfl) rfl (gN rfl) rfl ?_
    have hR44:=(hB38.extN hS39)
    refine qbo hM39 (qaT (Foc.fst qab qah) rfl ty24 hR44 (by first | rfl | simp | omega) (fun h=>h)) rfl (gN rfl) rfl ?_
    rintro v43 (hV43:qab.V _ ((ix y20.1.1 i28).1) _)
    have hR47:=(hL28_z7_0_1.extN hS36)
    have hR48:=((hR47.ext hS38 (fun g hg hx=>(fun g hg hx=>hR47.box hB36 (hg.trans (congrArg some hx))) g hg hx)).extN hS39)
    refine qit hM39 (qj5 (kv:=(Kd.int .i64)) rfl rfl hR48 hV43 Try.underlying37 (qb6 Try.underlying24 Try.underlying5 ty5b) ty3 (fun _ _ h=>h)) rfl (gN rfl) rfl ?_
    rintro v46 (hV46:(Kd.int .i64).V _ ((mfind ((ix y20.1.1 i28).1) y28').getD 0) _)
    obtain rfl:=qa2 hV46
    refine qag (.tuple #[(.int .i64 ((mfind ((ix y20.1.1 i28).1) y28').getD 0)),(.bool ((mfind ((ix y20.1.1 i28).1) y28').isSome))]) rfl l0 hM39 (fun _=>R_mv rfl) rfl (gN rfl) rfl ?_
    refine qag (.int .i64 ((mfind ((ix y20.1.1 i28).1) y28').getD 0)) rfl l0 hM39 (fun _=>qf4 rfl rfl) rfl (gN rfl) rfl ?_
    refine qag (.bool ((mfind ((ix y20.1.1 i28).1) y28').isSome)) rfl l0 hM39 (fun _=>qf4 rfl rfl) rfl (gN rfl) rfl ?_
    refine qag (.int .i64 ((mfind ((ix y20.1.1 i28).1) y28').getD 0)) rfl l0 hM39 (fun _=>R_as rfl) rfl (gN rfl) rfl ?_
    refine qag (.bool ((mfind ((ix y20.1.1 i28).1) y28').isSome)) rfl l0 hM39 (fun _=>R_as rfl) rfl (gN rfl) rfl ?_
    refine qcq ?_
    refine qaf ?_
    refine qbx (K:=K29) NX [.o 0 2,.o 1 2,.o 2 2,.o 3 2,.o 4 2,.o 5 2,.o 6 2,.o 7 2,.o 8 2,.o 9 2,.o 10 2,.o 11 2,.o 12 2,.o 13 0,.o 14 2,.o 15 2] (by kernel_rfl) (by kernel_rfl) hM39 ?_
    rintro w49 hS49 hM49
    have hE49:=hE39.andN hS49
    refine qag (.bool ((mfind ((ix y20.1.1 i28).1) y28').isSome)) rfl l0 hM49 (fun _=>R_mv rfl) rfl (gN rfl) rfl ?_
    refine qag (.bool ((mfind ((ix y20.1.1 i28).1) y28').isSome)) rfl l0 hM49 (fun _=>R_mv rfl) rfl (gN rfl) rfl ?_
    obtain ⟨hq50,h⟩:=h
    refine qj9 (al:=true) (l1:=[.o 2 2,.o 3 2,.o 4 2,.o 5 2,.o 6 2,.o 7 2,.o 8 2,.o 9 2,.o 10 2,.o 11 2,.o 12 2,.o 13 0,.o 14 2,.o 15 2]) [45,46,47,48,49,50,51,52,53,54,55,56,57,58] NX (fun l w K=>l=[(58,(.bool (decide ((((mfind ((ix y20.1.1 i28).1) y28').isSome)=true)∧(¬(((ix y28 ((mfind ((ix y20.1.1 i28).1) y28').getD 0)).2)=((ix y20.1.1 i28).2)))))))]∧Ext NX w49 K29 w K∧Models w K) ?_ ?_
    ·rcases Classical.em (((mfind ((ix y20.1.1 i28).1) y28').isSome)=true) with hp50 | hp50
     ·skip
      have h:=hq50 hp50
      refine qag (.pointer (some ⟨b6,0,none⟩)) rfl l0 hM49 (fun _=>R_mv rfl) rfl (gY rfl rfl rfl hp50) rfl ?_
      refine qag (.pointer (some ⟨b6,0,none⟩)) rfl l0 hM49 (fun _=>qaB rfl) rfl (gY rfl rfl rfl hp50) rfl ?_
      refine qag (.pointer (some ⟨b6,0+0,none⟩)) rfl l0 hM49 (fun _=>R_fa rfl Try.underlying41 rfl rfl ty39 rfl) rfl (gY rfl rfl rfl hp50) rfl ?_
      refine qag (.pointer (some ⟨b6,0+0+0,none⟩)) rfl l0 hM49 (fun _=>R_fa rfl Try.underlying39 rfl rfl qc4 rfl) rfl (gY rfl rfl rfl hp50) rfl ?_
      have hR52:=(hR42.extN hS49)
      refine qbo hM49 (qaT (Foc.trans (Foc.fst qak (Kd.int .i64)) (Foc.fst Kd.rsl Kd.rmp)) rfl qc4 hR52 (by first | rfl | simp | omega) (fun h=>h)) rfl (gY rfl rfl rfl hp50) rfl ?_
      rintro v51 (hV51:Kd.rsl.V _ z7_0_0_28 _)
      obtain rfl:=qbp hV51
      refine qag (.int .i64 ((mfind ((ix y20.1.1 i28).1) y28').getD 0)) rfl l0 hM49 (fun _=>R_mv rfl) rfl (gY rfl rfl rfl hp50) rfl ?_
      obtain ⟨hp54,h⟩:=h
      refine WO_P rfl l0 hM49 (qej rfl (hL28_z7_0_0.V.mono (hS36.le.trans (hS38.le.trans (hS39.le.trans hS49.le)))) rfl Try.underlying36 qcI hp54.1 hp54.2) rfl (gY rfl rfl rfl hp50) rfl ?_
      rintro b53 o53 hP53
      have hP56:=Kd.Pt.foc (Foc.snd qab qah) hP53
      refine qag (.pointer (some ⟨b53,o53+32,none⟩)) rfl l0 hM49 (fun _=>R_fa rfl Try.underlying146 rfl rfl ty32 rfl) rfl (gY rfl rfl rfl hp50) rfl ?_
      refine qbo hM49 (S_ld rfl ty32 hP56) rfl (gY rfl rfl rfl hp50) rfl ?_
      rintro v58 (hV58:qah.V _ ((ix y28 ((mfind ((ix y20.1.1 i28).1) y28').getD 0)).2) _)
      refine qag (.pointer (some ⟨b36,0+32,none⟩)) rfl l0 hM49 (fun _=>R_fa rfl Try.underlying146 rfl rfl ty32 rfl) rfl (gY rfl rfl rfl hp50) rfl ?_
      have hR61:=(hR44.extN hS49)
      refine qbo hM49 (qaT (Foc.snd qab qah) rfl ty32 hR61 (by first | rfl | simp | omega) (fun h=>h)) rfl (gY rfl rfl rfl hp50) rfl ?_
      rintro v60 (hV60:qah.V _ ((ix y20.1.1 i28).2) _)
      refine qdO rfl (gY rfl rfl rfl hp50) rfl (qaL (qbn Try.call85 rfl) ((qjK hM49 hV58 hV60).mono ?_))
      rintro _ w63 ⟨K63,v63_0,rfl,hS63,hM63,hV63_0⟩
      refine ⟨v63_0,rfl,?_⟩
      refine ⟨K63,hS63,hM63,?_⟩
      have hE63:=hE49.andN hS63
      obtain rfl:=qbJ hV63_0
      refine qag (.bool (decide (¬(((ix y28 ((mfind ((ix y20.1.1 i28).1) y28').getD 0)).2)=((ix y20.1.1 i28).2))))) rfl l0 hM63 (fun _=>qpe rfl) rfl (gY rfl rfl rfl hp50) rfl ?_
      refine qag (.bool (decide ((((mfind ((ix y20.1.1 i28).1) y28').isSome)=true)∧(¬(((ix y28 ((mfind ((ix y20.1.1 i28).1) y28').getD 0)).2)=((ix y20.1.1 i28).2)))))) rfl l0 hM63 (fun _=>qjZ rfl hp50 rfl (qpK hp50)) rfl (gN rfl) rfl ?_
      exact qiv [(58,(.bool (decide ((((mfind ((ix y20.1.1 i28).1) y28').isSome)=true)∧(¬(((ix y28 ((mfind ((ix y20.1.1 i28).1) y28').getD 0)).2)=((ix y20.1.1 i28).2)))))))] K63 rfl ⟨rfl,((Ext.refl _ _ _).andN hS63),hM63⟩ (by repeat (first | exact Off.refl _ _ | refine Off.updO ?_ rfl _ | refine Off.updN ?_ _ | refine Off.lay ?_ rfl)) ⟨rfl,trivial⟩
     ·skip
      refine qaU _ hM49 l0 rfl (gF rfl rfl rfl (eq_false_of_ne_true hp50)) rfl ?_
      refine qaU _ hM49 l0 rfl (gF rfl rfl rfl (eq_false_of_ne_true hp50)) rfl ?_
      refine qaU _ hM49 l0 rfl (gF rfl rfl rfl (eq_false_of_ne_true hp50)) rfl ?_
      refine qaU _ hM49 l0 rfl (gF rfl rfl rfl (eq_false_of_ne_true hp50)) rfl ?_
      refine qaU _ hM49 l0 rfl (gF rfl rfl rfl (eq_false_of_ne_true hp50)) rfl ?_
      refine qaU _ hM49 l0 rfl (gF rfl rfl rfl (eq_false_of_ne_true hp50)) rfl ?_
      refine qaU _ hM49 l0 rfl (gF rfl rfl rfl (eq_false_of_ne_true hp50)) rfl ?_
      refine qaU _ hM49 l0 rfl (gF rfl rfl rfl (eq_false_of_ne_true hp50)) rfl ?_
      refine qaU _ hM49 l0 rfl (gF rfl rfl rfl (eq_false_of_ne_true hp50)) rfl ?_
      refine qaU _ hM49 l0 rfl (gF rfl rfl rfl (eq_false_of_ne_true hp50)) rfl ?_
      refine qaU _ hM49 l0 rfl (gF rfl rfl rfl (eq_false_of_ne_true hp50)) rfl ?_
      refine qaU _ hM49 l0 rfl (gF rfl rfl rfl (eq_false_of_ne_true hp50)) rfl ?_
      refine qaU _ hM49 l0 rfl (gF rfl rfl rfl (eq_false_of_ne_true hp50)) rfl ?_
      refine qag (.bool (decide ((((mfind ((ix y20.1.1 i28).1) y28').isSome)=true)∧(¬(((ix y28 ((mfind ((ix y20.1.1 i28).1) y28').getD 0)).2)=((ix y20.1.1 i28).2)))))) rfl l0 hM49 (fun _=>qj0 rfl (eq_false_of_ne_true hp50) rfl (qpJ hp50)) rfl (gN rfl) rfl ?_
      exact qiv [(58,(.bool (decide ((((mfind ((ix y20.1.1 i28).1) y28').isSome)=true)∧(¬(((ix y28 ((mfind ((ix y20.1.1 i28).1) y28').getD 0)).2)=((ix y20.1.1 i28).2)))))))] K29 rfl ⟨rfl,(Ext.refl _ _ _),hM49⟩ (by repeat (first | exact Off.refl _ _ | refine Off.updO ?_ rfl _ | refine Off.updN ?_ _ | refine Off.lay ?_ rfl)) ⟨rfl,trivial⟩
    rintro l σ64 w64 K64 ⟨rfl,hS64,hM64⟩
    have hE64:=hE49.andN hS64
    refine qcq ?_
    refine qau (decide ((((mfind ((ix y20.1.1 i28).1) y28').isSome)=true)∧(¬(((ix y28 ((mfind ((ix y20.1.1 i28).1) y28').getD 0)).2)=((ix y20.1.1 i28).2))))) rfl (fun hc65=>?_) (fun hc65=>?_)
    ·have hd65:(((mfind ((ix y20.1.1 i28).1) y28').isSome)=true)∧(¬(((ix y28 ((mfind ((ix y20.1.1 i28).1) y28').getD 0)).2)=((ix y20.1.1 i28).2))):=qel hc65
     have h:=h.1 hd65
     refine qaf ?_
     refine qbx (K:=K64) NX [.o 0 2,.o 1 2,.o 2 2,.o 3 2,.o 4 2,.o 5 2,.o 6 2,.o 7 2,.o 8 2,.o 10 2,.o 11 2,.o 9 0,.o 12 0,.o 13 2,.o 14 2,.o 15 2] (by kernel_rfl) (by kernel_rfl) hM64 ?_
     rintro w66 hS66 hM66
     have hE66:=hE64.andN hS66
     refine qag (.pointer (some ⟨b6,0,none⟩)) rfl l0 hM66 (fun _=>R_mv rfl) rfl (gN rfl) rfl ?_
     refine qag (.pointer (some ⟨b6,0,none⟩)) rfl l0 hM66 (fun _=>qaB rfl) rfl (gN rfl) rfl ?_
     refine qag (.pointer (some ⟨b6,0+0,none⟩)) rfl l0 hM66 (fun _=>R_fa rfl Try.underlying41 rfl rfl ty39 rfl) rfl (gN rfl) rfl ?_
     refine qag (.pointer (some ⟨b6,0+0+0,none⟩)) rfl l0 hM66 (fun _=>R_fa rfl Try.underlying39 rfl rfl qc4 rfl) rfl (gN rfl) rfl ?_
     have hR68:=(((hR42.extN hS49).extN hS64).extN hS66)
     refine qbo hM66 (qaT (Foc.trans (Foc.fst qak (Kd.int .i64)) (Foc.fst Kd.rsl Kd.rmp)) rfl qc4 hR68 (by first | rfl | simp | omega) (fun h=>h)) rfl (gN rfl) rfl ?_
     rintro v67 (hV67:Kd.rsl.V _ z7_0_0_28 _)
     obtain rfl:=qbp hV67
     refine qag (.int .i64 ((mfind ((ix y20.1.1 i28).1) y28').getD 0)) rfl l0 hM66 (fun _=>R_mv rfl) rfl (gN rfl) rfl ?_
     obtain ⟨hp70,h⟩:=h
     refine WO_P rfl l0 hM66 (qej rfl (hL28_z7_0_0.V.mono (hS36.le.trans (hS38.le.trans (hS39.le.trans (hS49.le.trans (hS64.le.trans hS66.le)))))) rfl Try.underlying36 qcI hp70.1 hp70.2) rfl (gN rfl) rfl ?_
     rintro b69 o69 hP69
     have hP72:=Kd.Pt.foc (Foc.snd qab qah) hP69
     refine qag (.pointer (some ⟨b69,o69+32,none⟩)) rfl l0 hM66 (fun _=>R_fa rfl Try.underlying146 rfl rfl ty32 rfl) rfl (gN rfl) rfl ?_
     refine qbo hM66 (S_ld rfl ty32 hP72) rfl (gN rfl) rfl ?_
     rintro v74 (hV74:qah.V _ ((ix y28 ((mfind ((ix y20.1.1 i28).1) y28').getD 0)).2) _)
     refine qag (.pointer (some ⟨b36,0+32,none⟩)) rfl l0 hM66 (fun _=>R_fa rfl Try.underlying146 rfl rfl ty32 rfl) rfl (gN rfl) rfl ?_
     have hR77:=(((hR44.extN hS49).extN hS64).extN hS66)
     refine qbo hM66 (qaT (Foc.snd qab qah) rfl ty32 hR77 (by first | rfl | simp | omega) (fun h=>h)) rfl (gN rfl) rfl ?_
     rintro v76 (hV76:qah.V _ ((ix y20.1.1 i28).2) _)
     have hR79:=(hL28_u2.extN hS36)
     have hR80:=(((((hR79.ext hS38 (fun g hg hx=>(fun g hg hx=>hR79.box hB36 (hg.trans (congrArg some hx))) g hg hx)).extN hS39).extN hS49).extN hS64).extN hS66)
     have hR81:=(hL28_u3.extN hS36)
     have hR82:=(((((hR81.ext hS38 (fun g hg hx=>(fun g hg hx=>hR81.box hB36 (hg.trans (congrArg some hx))) g hg hx)).extN hS39).extN hS49).extN hS64).extN hS66)
     have hR83:=(hL28_z7_0_0.extN hS36)
     have hR84:=(((((hR83.ext hS38 (fun g hg hx=>(fun g hg hx=>hR83.box hB36 (hg.trans (congrArg some hx))) g hg hx)).extN hS39).extN hS49).extN hS64).extN hS66)
     have hR85:=(((hR48.extN hS49).extN hS64).extN hS66)
     obtain ⟨hp87,h⟩:=h
     refine qdO rfl (gN rfl) rfl (qaL (qbn Try.call69 rfl) ((qeE hM66 hV74 hp87).mono ?_))
     rintro _ w86 ⟨K86,v86_0,rfl,hS86,hM86,hO86_0,hg86_0⟩
     refine ⟨v86_0,rfl,?_⟩
     refine ⟨K86,hS86,hM86,?_⟩
     have hE86:=hE66.andN hS86
     have h:=h hO86_0.wf
     have hR89:=(hR80.extN hS86)
     have hR90:=(hR82.extN hS86)
     have hR91:=(hR68.extN hS86)
     have hR92:=(hR84.extN hS86)
     have hR93:=(hR85.extN hS86)
     have hR94:=(hR77.extN hS86)
     obtain ⟨hp96,h⟩:=h
     refine qdO rfl (gN rfl) rfl (qaL (qbn Try.call69 rfl) ((qeE hM86 (hV76.mono hS86.le) hp96).mono ?_))
     rintro _ w95 ⟨K95,v95_0,rfl,hS95,hM95,hO95_0,hg95_0⟩
     refine ⟨v95_0,rfl,?_⟩
     refine ⟨K95,hS95,hM95,?_⟩
     have hE95:=hE86.andN hS95
     have h:=h hO95_0.wf
     refine qag v86_0 rfl l0 hM95 (fun _=>R_as rfl) rfl (gN rfl) rfl ?_
     refine qag v95_0 rfl l0 hM95 (fun _=>R_as rfl) rfl (gN rfl) rfl ?_
     refine qag (.bool true) rfl l0 hM95 (fun _=>R_as rfl) rfl (gN rfl) rfl ?_
     refine qcq ?_
     refine qa4 ?_
     exact qaC hR (v:=(.tuple #[v86_0,v95_0,(.bool true)])) (qnd rfl rfl rfl rfl) ⟨K95,v86_0,v95_0,(.bool true),((ix y28 ((mfind ((ix y20.1.1 i28).1) y28').getD 0)).2),((ix y20.1.1 i28).2),true,rfl,h,hE95,hM95,(hO86_0.V.mono hS95.le),hO95_0.V,qcs⟩
    ·have hd65: ¬((((mfind ((ix y20.1.1 i28).1) y28').isSome)=true)∧(¬(((ix y28 ((mfind ((ix y20.1.1 i28).1) y28').getD 0)).2)=((ix y20.1.1 i28).2)))):=qek hc65
     have h:=h.2 hd65
     refine qaE ?_
     have hR98:=(hL28_z7_0_0.extN hS36)
     have hR99:=((((hR98.ext hS38 (fun g hg hx=>(fun g hg hx=>hR98.box hB36 (hg.trans (congrArg some hx))) g hg hx)).extN hS39).extN hS49).extN hS64)
     have hR100:=((hR48.extN hS49).extN hS64)
     have hR101:=((hR44.extN hS49).extN hS64)
     have hR102:=((hR42.extN hS49).extN hS64)
     refine qbx (K:=K64) (fun c=>c=b6∨ob z7_0_0_28=some c∨mb z7_0_1_28=some c∨w64.heap.size≤c) [.o 0 2,.o 1 2,.o 2 2,.o 3 2,.o 4 2,.o 5 2,.o 6 2,.o 7 1] (by kernel_rfl) (by kernel_rfl) hM64 ?_
     rintro w103 hS103 hM103
     have hE103:=hE64.andN hS103
     refine qag (.pointer (some ⟨b6,0,none⟩)) rfl l0 hM103 (fun _=>R_mv rfl) rfl (gN rfl) rfl ?_
     refine qag (.pointer (some ⟨b6,0,none⟩)) rfl l0 hM103 (fun _=>qaB rfl) rfl (gN rfl) rfl ?_
     refine qag (.pointer (some ⟨b6,0+0,none⟩)) rfl l0 hM103 (fun _=>R_fa rfl Try.underlying41 rfl rfl ty39 rfl) rfl (gN rfl) rfl ?_
     refine qag (.pointer (some ⟨b36,0+0,none⟩)) rfl l0 hM103 (fun _=>R_fa rfl Try.underlying146 rfl rfl ty24 rfl) rfl (gN rfl) rfl ?_
     have hR105:=(hR101.extN hS103)
     refine qbo hM103 (qaT (Foc.fst qab qah) rfl ty24 hR105 (by first | rfl | simp | omega) (fun h=>h)) rfl (gN rfl) rfl ?_
     rintro v104 (hV104:qab.V _ ((ix y20.1.1 i28).1) _)
     refine qag (.pointer (some ⟨b36,0+32,none⟩)) rfl l0 hM103 (fun _=>R_fa rfl Try.underlying146 rfl rfl ty32 rfl) rfl (gN rfl) rfl ?_
     refine qbo hM103 (qaT (Foc.snd qab qah) rfl ty32 hR105 (by first | rfl | simp | omega) (fun h=>h)) rfl (gN rfl) rfl ?_
     rintro v107 (hV107:qah.V _ ((ix y20.1.1 i28).2) _)
     have hR109:=(hL28_u2.extN hS36)
     have hR110:=(((((hR109.ext hS38 (fun g hg hx=>(fun g hg hx=>hR109.box hB36 (hg.trans (congrArg some hx))) g hg hx)).extN hS39).extN hS49).extN hS64).extN hS103)
     have hR111:=(hL28_u3.extN hS36)
     have hR112:=(((((hR111.ext hS38 (fun g hg hx=>(fun g hg hx=>hR111.box hB36 (hg.trans (congrArg some hx))) g hg hx)).extN hS39).extN hS49).extN hS64).extN hS103)
     have hR113:=(hR102.extN hS103)
     have hR114:=(hR99.extN hS103)
     have hR115:=(hR100.extN hS103)
     obtain ⟨p117,q117,hl117,hB117,hback117⟩:=Bx.sub (Foc.fst qak (Kd.int .i64)) hR113
     obtain ⟨hp118,h⟩:=h
     refine qft rfl (gN rfl) rfl (qaL (qbn Try.call86 (mapC (show (Value.pointer (some ⟨b6,0+0,none⟩))= .pointer (some ⟨b6,(([]:List Value)++p117).length,none⟩) from by rw [List.length_append,hl117];first | done | simp) (mapC rfl (mapC rfl mapN)))) ((qnQ hM103 hB117 hR114 hR115 hV104 hV107 hp118).mono ?_))
     rintro _ w116 ⟨K116,u116_0_0,u116_0_1,rfl,hS116,hM116,hB116_m0,hu116_0_0,hxu116_0_0,hu116_0_1,hxu116_0_1⟩
     refine ⟨(.tuple #[]),rfl,?_⟩
     refine ⟨K116,(hS116.weak (fun c hlt hx=>Or.elim hx (fun hx=>(.inl (hx))) (fun hx=>Or.elim hx (fun hx=>(.inr (.inl (hx)))) (fun hx=>(.inr (.inr (.inl (hx)))))))),hM116,?_⟩
     have hE116:=hE103.comp hS116 (fun c hx hlt=>Or.elim hx (fun hx=>(by subst hx;exact (fun hlt=>absurd hlt (Nat.not_lt.2 (Nat.le_trans hE0.size hge6))) hlt)) (fun hx=>Or.elim hx (fun hx=>(fun g hg hlt=>absurd hlt (Nat.not_lt.2 ((fun g hg=>(ho28_z7_0_0 g hg).elim (fun hx=>(fun g hg=>(ho10_z7_0_0 g hg).elim (fun hx=>(fun g hg=>nilS hg) g hx) (fun hx=>Nat.le_trans hE6.size hx)) g hx) (fun hx=>Nat.le_trans hE11.size hx)) g hg))) c hx hlt) (fun hx=>(fun g hg hlt=>absurd hlt (Nat.not_lt.2 ((fun g hg=>(ho28_z7_0_1 g hg).elim (fun hx=>(fun g hg=>(ho10_z7_0_1 g hg).elim (fun hx=>(fun g hg=>nilM hg) g hx) (fun hx=>Nat.le_trans hE6.size hx)) g hx) (fun hx=>Nat.le_trans hE11.size hx)) g hg))) c hx hlt)))
     have hB116_w:Bx qal w116 K116 b6 [] [] ((u116_0_0,u116_0_1),0):=hback117 hS116.le hB116_m0
     refine qcq ?_
     refine qac ?_
     refine qaa (.int .i64 (i28+1)) (qjf rfl rfl hw28_28 hd30 (qbj (hV26).wf.1)) rfl rfl ?_
     refine qaa (.int .i64 (i28+1)) (R_mv rfl) rfl rfl ?_
     refine qaj ?_
     have hR119:=(hR110.ext hS116 (fun g hg hx=>Or.elim hx (fun hx=>(fun g hg hx=>hR110.box hR113 (hg.trans (congrArg some hx))) g hg hx) (fun hx=>Or.elim hx (fun hx=>(Own.ne_type hR110 hR114 (by decide)) g hg hx) (fun hx=>(fun g hg=>hR115.own hR110 g hg) g hg hx))))
     have hR120:=(hR112.ext hS116 (fun g hg hx=>Or.elim hx (fun hx=>(fun g hg hx=>hR112.box hR113 (hg.trans (congrArg some hx))) g hg hx) (fun hx=>Or.elim hx (fun hx=>(Own.ne_type hR112 hR114 (by decide)) g hg hx) (fun hx=>(fun g hg=>hR115.own hR112 g hg) g hg hx))))
     refine qeC.mk (a28,b28,found28,(i28+1),(addL y28 ((ix y20.1.1 i28).1) ((ix y20.1.1 i28).2)),(addM y28 y28' ((ix y20.1.1 i28).1) ((ix y20.1.1 i28).2))) [(2,u2_28),(3,u3_28),(4,(.bool found28)),(28,(.int .i64 (i28+1)))] ?_ ?_ ?_ ?_
     rotate_left
     ·exact h.2
     ·repeat (first | exact Off.lay0 rfl | refine Off.updO ?_ rfl _ | refine Off.updN ?_ _ | refine Off.lay ?_ rfl)
     ·repeat (first | exact trivial | refine ⟨rfl,?_⟩)
     exact ⟨K116,u2_28,u3_28,u116_0_0,u116_0_1,h.1,rfl,(((((((((Ext.refl _ _ _).comp hX29 (fun c hx hlt=>Or.elim hx (fun hx=>(.inl (hx))) (fun hx=>Or.elim hx (fun hx=>(.inr (.inl (hx)))) (fun hx=>Or.elim hx (fun hx=>(.inr (.inr (.inl (hx))))) (fun hx=>Or.elim hx (fun hx=>(.inr (.inr (.inr (.inl (hx)))))) (fun hx=>(.inr (.inr (.inr (.inr (hx))))))))))).andN hS36).comp hS38 (fun c hx hlt=>(by subst hx;exact absurd hlt (Nat.not_lt.2 (Nat.le_trans hX29.size hge36))))).andN hS39).andN hS49).andN hS64).andN hS103).comp hS116 (fun c hx hlt=>Or.elim hx (fun hx=>(.inr (.inr (.inr (.inr (hx)))))) (fun hx=>Or.elim hx (fun hx=>((((ho28_z7_0_0 c hx).elim (fun hz=>(.inl hz)) (fun hz=> .inr (Nat.le_trans (Nat.le_refl _) hz))):ob z7_0_0_10=some c∨w11.heap.size≤c).elim (fun hx=>(.inr (.inr (.inl (hx))))) (fun hz=>absurd hlt (Nat.not_lt.2 hz)))) (fun hx=>((((ho28_z7_0_1 c hx).elim (fun hz=>(.inl hz)) (fun hz=> .inr (Nat.le_trans (Nat.le_refl _) hz))):mb z7_0_1_10=some c∨w11.heap.size≤c).elim (fun hx=>(.inr (.inr (.inr (.inl (hx)))))) (fun hz=>absurd hlt (Nat.not_lt.2 hz))))))),hM116,(qfF hw28_28 hd30 (qbj (hV26).wf.1)),hR119,(fun g hg=>((ho28_u2 g hg).elim (fun hz=>(.inl hz)) (fun hz=> .inr (Nat.le_trans (Nat.le_refl _) hz)))),hR120,(fun g hg=>((ho28_u3 g hg).elim (fun hz=>(.inl hz)) (fun hz=> .inr (Nat.le_trans (Nat.le_refl _) hz)))),hu116_0_0,(fun g hg=>((hxu116_0_0 g hg).elim (fun hz=>((ho28_z7_0_0 g hz).elim (fun hz=>(.inl hz)) (fun hz=> .inr (Nat.le_trans (Nat.le_refl _) hz)))) (fun hz=> .inr (Nat.le_trans (Nat.le_trans hX29.size (Nat.le_trans hS36.size (Nat.le_trans hS38.size (Nat.le_trans hS39.size (Nat.le_trans hS49.size (Nat.le_trans hS64.size hS103.size)))))) hz)))),hu116_0_1,(fun g hg=>((hxu116_0_1 g hg).elim (fun hz=>((ho28_z7_0_1 g hz).elim (fun hz=>(.inl hz)) (fun hz=> .inr (Nat.le_trans (Nat.le_refl _) hz)))) (fun hz=> .inr (Nat.le_trans (Nat.le_trans hX29.size (Nat.le_trans hS36.size (Nat.le_trans hS38.size (Nat.le_trans hS39.size (Nat.le_trans hS49.size (Nat.le_trans hS64.size hS103.size)))))) hz)))),hB116_w,hs28_u2_u3⟩
   ·have hd30: ¬(i28<(y20.1.1.length:Int)):=qek hc30
    have h:=h.2 hd30
    refine qcy ?_
    refine qac ?_
    refine qaa (.int .i64 (IntKind.i64.wrap (i10+1))) (qje rfl rfl) rfl rfl ?_
    refine qaa (.int .i64 (IntKind.i64.wrap (i10+1))) (R_mv rfl) rfl rfl ?_
    refine qaj ?_
    refine qeC.mk (a28,b28,found28,(IntKind.i64.wrap (i10+1)),y28,y28') [(2,u2_28),(3,u3_28),(4,(.bool found28)),(16,(.int .i64 (IntKind.i64.wrap (i10+1))))] ?_ ?_ ?_ ?_
    rotate_left
    ·exact h.2
    ·repeat (first | exact Off.lay0 rfl | refine Off.updO ?_ rfl _ | refine Off.updN ?_ _ | refine Off.lay ?_ rfl)
    ·repeat (first | exact trivial | refine ⟨rfl,?_⟩)
    exact ⟨K29,u2_28,u3_28,z7_0_0_28,z7_0_1_28,h.1,rfl,(((Ext.refl _ _ _).comp hX11 (fun c hx hlt=>Or.elim hx (fun hx=>(.inl (hx))) (fun hx=>Or.elim hx (fun hx=>(.inl (hx))) (fun hx=>Or.elim hx (fun hx=>(absurd hlt (Nat.not_lt.2 (nilS hx)))) (fun hx=>Or.elim hx (fun hx=>(absurd hlt (Nat.not_lt.2 (nilM hx)))) (fun hx=>(.inr (.inr (.inr (.inr (hx))))))))))).comp hX29 (fun c hx hlt=>Or.elim hx (fun hx=>((((ho10_u2 c hx).elim (fun hz=>(.inl hz)) (fun hz=> .inr (Nat.le_trans (Nat.le_refl _) hz))):ob (.slice none 0 0)=some c∨w6.heap.size≤c).elim (fun hx=>(.inl (hx))) (fun hz=>absurd hlt (Nat.not_lt.2 hz)))) (fun hx=>Or.elim hx (fun hx=>((((ho10_u3 c hx).elim (fun hz=>(.inl hz)) (fun hz=> .inr (Nat.le_trans (Nat.le_refl _) hz))):ob (.slice none 0 0)=some c∨w6.heap.size≤c).elim (fun hx=>(.inl (hx))) (fun hz=>absurd hlt (Nat.not_lt.2 hz)))) (fun hx=>Or.elim hx (fun hx=>(absurd hlt (Nat.not_lt.2 ((ho10_z7_0_0 c hx).elim (fun hz=>(nilS hz)) (fun hz=>(Nat.le_trans (Nat.le_refl _) hz)))))) (fun hx=>Or.elim hx (fun hx=>(absurd hlt (Nat.not_lt.2 ((ho10_z7_0_1 c hx).elim (fun hz=>(nilM hz)) (fun hz=>(Nat.le_trans (Nat.le_refl _) hz)))))) (fun hx=>(.inr (.inr (.inr (.inr (hx))))))))))),hM29,(qb5 _ _),hL28_u2,(fun g hg=>((ho28_u2 g hg).elim (fun hz=>((ho10_u2 g hz).elim (fun hz=>(.inl hz)) (fun hz=> .inr (Nat.le_trans (Nat.le_refl _) hz)))) (fun hz=> .inr (Nat.le_trans hX11.size hz)))),hL28_u3,(fun g hg=>((ho28_u3 g hg).elim (fun hz=>((ho10_u3 g hz).elim (fun hz=>(.inl hz)) (fun hz=> .inr (Nat.le_trans (Nat.le_refl _) hz)))) (fun hz=> .inr (Nat.le_trans hX11.size hz)))),hL28_z7_0_0,(fun g hg=> .inr ((ho28_z7_0_0 g hg).elim (fun hz=>((ho10_z7_0_0 g hz).elim (fun hz=>(nilS hz)) (fun hz=>(Nat.le_trans (Nat.le_refl _) hz)))) (fun hz=>(Nat.le_trans hX11.size hz)))),hL28_z7_0_1,(fun g hg=> .inr ((ho28_z7_0_1 g hg).elim (fun hz=>((ho10_z7_0_1 g hz).elim (fun hz=>(nilM hz)) (fun hz=>(Nat.le_trans (Nat.le_refl _) hz)))) (fun hz=>(Nat.le_trans hX11.size hz)))),hL28_7,hs28_u2_u3⟩
 ·have hd14: ¬(i10<(a0_l.length:Int)):=qek hc14
  have h:=h.2 hd14
  refine qcy ?_
  refine qaf ?_
  refine qac ?_
  have hR121:Own Kd.byte 5 w11 K11 ([]:List UInt8) (.slice none 0 0):=Own.nil
  refine qaa (.slice none 0 0) (R_as rfl) rfl rfl ?_
  have hR122:Own Kd.byte 5 w11 K11 ([]:List UInt8) (.slice none 0 0):=Own.nil
  refine qaa (.slice none 0 0) (R_as rfl) rfl rfl ?_
  refine qaa (.bool false) (R_as rfl) rfl rfl ?_
  refine qaj ?_
  refine qa4 ?_
  exact qaC hR (v:=(.tuple #[(.slice none 0 0),(.slice none 0 0),(.bool false)])) (qnd rfl rfl rfl rfl) ⟨K11,(.slice none 0 0),(.slice none 0 0),(.bool false),([]:List UInt8),([]:List UInt8),false,rfl,h,hE11,hM11,hR121.V,hR122.V,qcs⟩
theorem qnp {w0:World} {K0:Ghost} {a0_l_v:Value} {a0_l:(List (Option (((List ((List UInt8)×(List UInt8)))×Unit)×Int)))} (hM0:Models w0 K0) (h_a0_l:qbi.V K0 a0_l a0_l_v) (hp:qbW a0_l):Calls Try.prog 36 #[a0_l_v] w0 (fun e w'=> ∃(K':Ghost) (r0:Value) (r1:Value) (r2:Value),e= .returned (.tuple #[r0,r1,r2])∧Ext NX w0 K0 w' K'∧Models w' K'∧qah.V K' ((qan a0_l).1) r0∧qah.V K' ((qan a0_l).2.1) r1∧Kd.bool.V K' ((qan a0_l).2.2) r2):=by
 refine (qi8 hM0 h_a0_l (qlH h_a0_l.wf hp)).mono ?_
 rintro _ w' ⟨K',r0,r1,r2,o0,o1,o2,rfl,⟨rfl,rfl,rfl⟩,hF⟩
 exact ⟨K',r0,r1,r2,rfl,hF⟩
end Go.Proofs.Ytmjjkpiglbpkhaa

set_option linter.unusedVariables false
set_option maxRecDepth 100000
set_option maxHeartbeats 2000000
namespace Go.Proofs.Ytmjjkpiglbpkhaa
open Go Go.RowKit Go.Inc
noncomputable def Of_C:Ctr:=⟨[.bk 146 true,.v (.int .i64),.v (.sl (.sl .byte))],[.v (.arr 32 .byte)],some (fun a=>(fun (a0_k:qav) (a1_kind:Int) (a2_parts:List (List UInt8))=>(1+qao a2_parts≤140737488355328∧qaP a0_k:Prop)) a.1 a.2.1 a.2.2.1),fun a=>(fun (a0_k:qav) (a1_kind:Int) (a2_parts:List (List UInt8))=>(((qam a1_kind a2_parts),()),((qaD a0_k a1_kind a2_parts),()))) a.1 a.2.1 a.2.2.1⟩
theorem Of_k:Of_C.valid Try.prog 67:=qpP (fun _=>rfl) (fun _=>rfl) fun a hp θ v F vs w K hM hB hv=>by
 obtain ⟨v1,vs,rfl,h1,v2,vs,rfl,h2,hnil⟩:=hv
 have hnil':vs=[]:=hnil
 subst hnil'
 refine (Of_c hM hB (qcG (t:= .int .i64) h1 rfl) (qcG (t:= .sl (.sl .byte)) h2 rfl) hp).mono ?_
 rintro ed w' ⟨K',r0,F0,rfl,hE,hM',hr,hB',hg⟩
 exact ⟨K',[r0],F0,rfl,hE,hM',fun θ'=>qh8 (SVal.of_rel (t:= .arr 32 .byte) hr),hB',hg⟩
noncomputable def qhz:Ctr:=⟨[.bk 146 true,.v (.arr 32 .byte),.v (.sl .byte)],[],some (fun a=>(fun (a0_k:qav) (a1_s:List UInt8) (a2_b:List UInt8)=>(a2_b.length≤140737488355328∧qaP a0_k:Prop)) a.1 a.2.1 a.2.2.1),fun a=>(fun (a0_k:qav) (a1_s:List UInt8) (a2_b:List UInt8)=>((()),((qai a0_k a1_s a2_b),()))) a.1 a.2.1 a.2.2.1⟩
theorem qjU:qhz.valid Try.prog 56:=qpP (fun _=>rfl) (fun _=>rfl) fun a hp θ v F vs w K hM hB hv=>by
 obtain ⟨v1,vs,rfl,h1,v2,vs,rfl,h2,hnil⟩:=hv
 have hnil':vs=[]:=hnil
 subst hnil'
 refine (qnE hM hB (qcG (t:= .arr 32 .byte) h1 rfl) (qcG (t:= .sl .byte) h2 rfl) hp).mono ?_
 rintro ed w' ⟨K',F0,rfl,hE,hM',hB',hg⟩
 exact ⟨K',[],F0,rfl,hE,hM',fun θ'=>rfl,hB',hg⟩
noncomputable def qih:Ctr:=⟨[.bk 146 false],[.v (.int .i64)],none,fun a=>(fun (a0_k:qav)=>(((qbI a0_k),()),(()))) a.1⟩
theorem qlF:qih.valid Try.prog 99:=qkq (fun _=>rfl) (fun _=>rfl) fun a hp θ v F vs w K hM hB hv=>by
 have hnil':vs=[]:=hv
 subst hnil'
 refine (qlE hM hB).mono ?_
 rintro ed w' ⟨K',r0,rfl,hE,hM',hr⟩
 exact ⟨K',[r0],rfl,hE,hM',fun θ'=>qh8 (SVal.of_rel (t:= .int .i64) hr)⟩
noncomputable def qht:Ctr:=⟨[.v (.sl (.ptr (.pr (.pr (.sl (.pr (.arr 32 .byte) (.sl .byte))) .anm) (.int .i64))))],[.v (.sl .byte),.v (.sl .byte),.v .bool],some (fun a=>(fun (a0_l:List (Option (((List ((List UInt8)×(List UInt8)))×Unit)×Int)))=>(qbW a0_l:Prop)) a.1),fun a=>(fun (a0_l:List (Option (((List ((List UInt8)×(List UInt8)))×Unit)×Int)))=>(((qan a0_l).1,(qan a0_l).2.1,(qan a0_l).2.2,()),(()))) a.1⟩
theorem qjF:qht.valid Try.prog 36:=br_v (fun _=>rfl) (fun _=>rfl) fun a hp θ vs w K hM hv=>by
 obtain ⟨v1,vs,rfl,h1,hnil⟩:=hv
 have hnil':vs=[]:=hnil
 subst hnil'
 refine (qnp hM (qcG (t:= .sl (.ptr (.pr (.pr (.sl (.pr (.arr 32 .byte) (.sl .byte))) .anm) (.int .i64)))) h1 rfl) hp).mono ?_
 rintro ed w' ⟨K',r0,r1,r2,rfl,hE,hM',hr0,hr1,hr2⟩
 exact ⟨K',[r0,r1,r2],rfl,hE,hM',⟨r0,_,rfl,SVal.of_rel (t:= .sl .byte) hr0,r1,_,rfl,SVal.of_rel (t:= .sl .byte) hr1,qh8 (SVal.of_rel (t:= .bool) hr2)⟩⟩
end Go.Proofs.Ytmjjkpiglbpkhaa

set_option linter.unusedVariables false
set_option maxRecDepth 100000
set_option maxHeartbeats 2000000
namespace Go.Proofs.Ytmjjkpiglbpkhaa
open Go Go.RowKit Go.Inc
noncomputable def qjL:Ctr:=⟨[.bk 146 false,.v (.arr 32 .byte)],[.v (.sl .byte),.v .bool],some (fun a=>(fun (a0_k:qav) (a1_s:List UInt8)=>(qbV a0_k:Prop)) a.1 a.2.1),fun a=>(fun (a0_k:qav) (a1_s:List UInt8)=>(((qci a0_k a1_s),(qdR a0_k a1_s),()),(()))) a.1 a.2.1⟩
theorem qnt:qjL.valid Try.prog 52:=qkq (fun _=>rfl) (fun _=>rfl) fun a hp θ v F vs w K hM hB hv=>by
 obtain ⟨v1,vs,rfl,h1,hnil⟩:=hv
 have hnil':vs=[]:=hnil
 subst hnil'
 refine (qns hM hB (qcG (t:= .arr 32 .byte) h1 rfl) hp).mono ?_
 rintro ed w' ⟨K',r0,r1,rfl,hE,hM',hO,hg,hb⟩
 exact ⟨K',[r0,r1],rfl,hE,hM',fun θ'=>⟨r0,[r1],rfl,SVal.of_rel (t:= .sl .byte) hO.V,r1,[],rfl,SVal.of_rel (t:= .bool) hb,rfl⟩⟩
noncomputable def qmU:Ctr:=⟨[.bk 146 false],[.v (.sl (.sl .byte))],some (fun a=>(fun (a0_k:qav)=>(qbV a0_k:Prop)) a.1),fun a=>(fun (a0_k:qav)=>(((qdQ a0_k),()),(()))) a.1⟩
theorem qoL:qmU.valid Try.prog 100:=qkq (fun _=>rfl) (fun _=>rfl) fun a hp θ v F vs w K hM hB hv=>by
 have hnil':vs=[]:=hv
 subst hnil'
 refine (qoK hM hB hp).mono ?_
 rintro ed w' ⟨K',r0,rfl,hE,hM',hO,hg⟩
 exact ⟨K',[r0],rfl,hE,hM',fun θ'=>qh8 (SVal.of_rel (t:= .sl (.sl .byte)) hO.V)⟩
end Go.Proofs.Ytmjjkpiglbpkhaa

set_option linter.unusedVariables false
namespace Go.Inc
open Go
theorem qix {l:List Nt} {s b:List UInt8} {z:Nt} (h:z∈l∨z=(s,b)):z∈addL l s b:=by
 unfold addL
 split
 ·rename_i hm
  rcases h with h | h
  ·exact h
  ·rw [h];exact hm
 ·rcases h with h | h
  ·exact List.mem_append.2 (.inl h)
  ·exact List.mem_append.2 (.inr (List.mem_singleton.2 h))
theorem qfw: ∀(m all:List Nt),(qaX all m).2.2=true→∃s,(s,(qaX all m).1)∈all++m∧(s,(qaX all m).2.1)∈all++m
 | [],all,h=>by simp [qaX] at h
 | x::m,all,h=>by
   have sub: ∀z,z∈addL all x.1 x.2++m→z∈all++x::m:=fun z hz=>by
    rcases List.mem_append.1 hz with hz | hz
    ·rcases qdt hz with hz | hz
     ·exact List.mem_append.2 (.inl hz)
     ·rw [hz];exact List.mem_append.2 (.inr (by simp))
    ·exact List.mem_append.2 (.inr (by simp [hz]))
   have rec_:(qaX (addL all x.1 x.2) m).2.2=true→∃s,(s,(qaX (addL all x.1 x.2) m).1)∈all++x::m∧(s,(qaX (addL all x.1 x.2) m).2.1)∈all++x::m:=fun h=>by
    obtain ⟨s,h1,h2⟩:=qfw m (addL all x.1 x.2) h
    exact ⟨s,sub _ h1,sub _ h2⟩
   unfold qaX at h⊢
   cases hf:qaq x.1 all 0 with
   | none=>
     rw [hf] at h
     exact rec_ h
   | some a=>
     rw [hf] at h
     dsimp only at h⊢
     by_cases he:(ix all a).2=x.2
     ·rw [if_pos he] at h⊢
      exact rec_ h
     ·rw [if_neg he]
      exact ⟨x.1,List.mem_append.2 (.inl (qdg hf)),List.mem_append.2 (.inr (by simp))⟩
def nb (l:List Act) (r:Nat):Nat→List Nt
 | 0=> []
 | j+1=>if j%3=r then addL (nb l r j) (ix l (j:Int)).2.2.2.1 (ix l (j:Int)).2.2.2.2 else nb l r j
theorem qm9 {l:List Act} {r:Nat} {z:Nt}: ∀ {j:Nat},z∈nb l r j↔ ∃i,i<j∧i%3=r∧z=((ix l (i:Int)).2.2.2.1,(ix l (i:Int)).2.2.2.2)
 | 0=>by
   constructor
   ·intro h
    cases h
   ·rintro ⟨i,h,_⟩
    exact absurd h (Nat.not_lt_zero _)
 | j+1=>by
   have ih:=qm9 (l:=l) (r:=r) (z:=z) (j:=j)
   unfold nb
   by_cases hr:j%3=r
   ·rw [if_pos hr]
    constructor
    ·intro h
     rcases qdt h with h | h
     ·obtain ⟨i,h1,h2⟩:=ih.1 h
      exact ⟨i,by omega,h2⟩
     ·exact ⟨j,by omega,hr,h⟩
    ·rintro ⟨i,h1,h2,h3⟩
     rcases Nat.lt_or_ge i j with h4 | h4
     ·exact qix (.inl (ih.2 ⟨i,h4,h2,h3⟩))
     ·obtain rfl:i=j:=by omega
      exact qix (.inr h3)
   ·rw [if_neg hr]
    constructor
    ·intro h
     obtain ⟨i,h1,h2⟩:=ih.1 h
     exact ⟨i,by omega,h2⟩
    ·rintro ⟨i,h1,h2,h3⟩
     rcases Nat.lt_or_ge i j with h4 | h4
     ·exact ih.2 ⟨i,h4,h2,h3⟩
     ·obtain rfl:i=j:=by omega
      exact absurd h2 hr
theorem qg8 (l:List Act) (r:Nat): ∀j:Nat,(nb l r j).length≤j
 | 0=>Nat.le_refl _
 | j+1=>by
   have ih:=qg8 l r j
   unfold nb
   split
   ·exact Nat.le_trans (qgb _ _ _) (Nat.succ_le_succ ih)
   ·exact Nat.le_succ_of_le ih
end Go.Inc

set_option linter.unusedVariables false
set_option maxRecDepth 100000
set_option maxHeartbeats 20000000
namespace Go.Proofs.Ytmjjkpiglbpkhaa
open Go Go.RowKit Go.Inc
noncomputable def qd0:Ctr:=⟨[.v (.sl (.pr (.int .i64) (.pr (.int .i64) (.pr (.sl (.sl .byte)) (.pr (.arr 32 .byte) (.sl .byte))))))],[.v .bool],none,fun a=>(fun (a0_l:List (Int×Int×(List (List UInt8))×(List UInt8)×List UInt8))=>((decide (¬light a0_l),()),(()))) a.1⟩
noncomputable def qkS:Fx:=⟨seat,some bkT,fns,[],[],[],[]⟩
def qgs (a0_l:List (Int×Int×(List (List UInt8))×(List UInt8)×List UInt8)) (Q:Bool→Prop):Prop:=
 ((200:Int)<(a0_l.length:Int)→Q true)∧(¬(200:Int)<(a0_l.length:Int)→∃(x0:Bool→Int→Int→Prop),∃(x1:Bool→Int→Int→Nat),x0 false (60000:Int) (0:Int)∧∀(x2:Bool) (x3 x4:Int),x0 x2 x3 x4→(Kd.int IntKind.i64).wf x3→(Kd.int IntKind.i64).wf x4→(x4<(a0_l.length:Int)→((0:Int)≤x4∧x4<(a0_l.length:Int))∧((500:Int)<((ix a0_l x4).snd.snd.fst.length:Int)→Q true)∧(¬(500:Int)<((ix a0_l x4).snd.snd.fst.length:Int)→((0:Int)≤x4∧x4<(a0_l.length:Int))∧∃(x10:Int→Int→Prop),∃(x11:Int→Int→Nat),x10 (IntKind.i64.wrap (x3 - ((ix a0_l x4).snd.snd.snd.snd.length:Int))) (0:Int)∧∀(x12 x13:Int),x10 x12 x13→(Kd.int IntKind.i64).wf x12→(Kd.int IntKind.i64).wf x13→((0:Int)≤x4∧x4<(a0_l.length:Int))∧(x13<((ix a0_l x4).snd.snd.fst.length:Int)→((0:Int)≤x12→((0:Int)≤x4∧x4<(a0_l.length:Int))∧((0:Int)≤x13∧x13<((ix a0_l x4).snd.snd.fst.length:Int))∧x13<(9223372036854775807:Int)∧x10 (IntKind.i64.wrap (x12 - ((ix (ix a0_l x4).snd.snd.fst x13).length:Int))) (x13+(1:Int))∧x11 (IntKind.i64.wrap (x12 - ((ix (ix a0_l x4).snd.snd.fst x13).length:Int))) (x13+(1:Int))<x11 x12 x13)∧(¬(0:Int)≤x12→(x12<(0:Int)→Q true)∧(¬x12<(0:Int)→x4<(9223372036854775807:Int)∧x0 x2 x12 (x4+(1:Int))∧x1 x2 x12 (x4+(1:Int))<x1 x2 x3 x4)))∧(¬x13<((ix a0_l x4).snd.snd.fst.length:Int)→(x12<(0:Int)→Q true)∧(¬x12<(0:Int)→x4<(9223372036854775807:Int)∧x0 x2 x12 (x4+(1:Int))∧x1 x2 x12 (x4+(1:Int))<x1 x2 x3 x4))))∧(¬x4<(a0_l.length:Int)→Q false))
theorem qmr {a0_l:List (Int×Int×(List (List UInt8))×(List UInt8)×List UInt8)} (w_0:(Ty.kd (.sl (.pr (.int .i64) (.pr (.int .i64) (.pr (.sl (.sl .byte)) (.pr (.arr 32 .byte) (.sl .byte))))))).wf a0_l):qgs a0_l (fun o0=>o0=decide (¬light a0_l)):=by
 unfold qgs
 refine ⟨fun h=>by rw [decide_eq_true];exact fun hl=>by have:=hl.1;omega,fun h200=>?_⟩
 refine ⟨fun _ left i=> ∃j:Nat,i=(j:Int)∧j≤a0_l.length∧0≤left∧left=60000 - (qch (a0_l.take j):Int)∧∀a∈a0_l.take j,a.2.2.1.length≤500,fun _ _ i=>a0_l.length - i.toNat,⟨0,rfl,by omega,by omega,by simp [qch],by simp⟩,?_⟩
 rintro _ left i ⟨j,rfl,hj,hl0,hl,hp⟩ _ _
 refine ⟨fun hlt=>⟨⟨by omega,hlt⟩,fun h500=>?_,fun h500=>⟨⟨by omega,hlt⟩,?_⟩⟩,fun hge=>?_⟩
 ·rw [decide_eq_true]
  intro hq
  have:=hq.2.1 _ (qdA (l:=a0_l) (by omega) hlt)
  omega
 ·have hm:=qdA (l:=a0_l) (i:=(j:Int)) (by omega) hlt
  have hwf:=w_0.2 _ hm
  have hst:=qea hlt
  have htk:=qeb a0_l (j+1)
  generalize hx:ix a0_l (j:Int)=x at hm hwf hst h500⊢
  have hb:x.2.2.2.2.length≤LM:=hwf.2.2.2.2.1
  have hpl: ∀y∈x.2.2.1,y.length≤LM:=fun y hy=>(hwf.2.2.1.2 y hy).1
  unfold LM at hb hpl
  have e0:IntKind.i64.wrap (left - (x.2.2.2.2.length:Int))=left - (x.2.2.2.2.length:Int):=qaI (wf64 (by omega) (by omega))
  rw [e0]
  refine ⟨fun lf k=> ∃m:Nat,k=(m:Int)∧m≤x.2.2.1.length∧ -281474976710656≤lf∧lf=left - (x.2.2.2.2.length:Int) - (qbs (x.2.2.1.take m):Int),fun _ k=>x.2.2.1.length - k.toNat,⟨0,rfl,by omega,by omega,by simp [qbs]⟩,?_⟩
  rintro lf k ⟨m,rfl,hm2,hlo,hlf⟩ _ _
  have hptk:=qgz x.2.2.1 m
  have neg:lf<0→true=decide (¬light a0_l):=fun hneg=>by
   rw [decide_eq_true]
   intro hq
   have:=hq.2.2
   omega
  refine ⟨⟨by omega,hlt⟩,fun hc=>⟨fun h0=>⟨⟨by omega,hlt⟩,⟨by omega,hc⟩,by omega,?_,?_⟩,fun h0=>⟨neg,fun hnn=>absurd (by omega:(0:Int)≤lf) h0⟩⟩,fun hc=>⟨neg,fun hnn=>?_⟩⟩
  ·have h1:=hpl _ (qdA (l:=x.2.2.1) (i:=(m:Int)) (by omega) hc)
   have h2:=qgy hc
   rw [qaI (wf64 (by omega) (by omega))]
   exact ⟨m+1,rfl,by omega,by omega,by omega⟩
  ·show x.2.2.1.length - ((m:Int)+1).toNat<x.2.2.1.length - (m:Int).toNat
   omega
  ·have hme:m=x.2.2.1.length:=by omega
   subst hme
   rw [List.take_length] at hlf
   refine ⟨by omega,⟨j+1,rfl,by omega,by omega,by omega,?_⟩,?_⟩
   ·intro a ha
    rw [qbc hlt] at ha
    rcases List.mem_append.1 ha with ha | ha
    ·exact hp a ha
    ·rw [List.mem_singleton,hx] at ha
     subst ha
     omega
   ·show a0_l.length - ((j:Int)+1).toNat<a0_l.length - (j:Int).toNat
    omega
 ·have:j=a0_l.length:=by omega
  subst this
  rw [List.take_length] at hl hp
  show false=decide (¬light a0_l)
  rw [eq_comm,decide_eq_false_iff_not,Decidable.not_not]
  exact ⟨by omega,hp,by omega⟩
theorem qmq:(∀a,qd0.pre a→PM.wfP qd0.pm a (fvc qkS 200 49 qd0 a (eqO qd0 a)))=(∀a:(List (Int×Int×(List (List UInt8))×(List UInt8)×List UInt8))×Unit,True→(Ty.kd (.sl (.pr (.int .i64) (.pr (.int .i64) (.pr (.sl (.sl .byte)) (.pr (.arr 32 .byte) (.sl .byte))))))).wf a.1→qgs a.1 (fun o0=>o0=decide (¬light (a.1)))):=by kernel_rfl
theorem qn8:qd0.valid Try.prog 49:=qa6 (X:=qkS) (qbT qaH (fun b hb=>by cases hb;exact qa5) qa8 trivial) 200 (qmq.mpr fun a hp w_0=> @qmr a.1 w_0)
noncomputable def qfv:Ctr:=⟨[.v (.sl .byte),.v (.sl .byte),.v (.sl .byte),.v (.sl .byte)],[.v .bool],none,fun a=>(fun (a0_x:List UInt8) (a1_y:List UInt8) (a2_a:List UInt8) (a3_b:List UInt8)=>((decide ((a0_x=a2_a∧a1_y=a3_b)∨(a0_x=a3_b∧a1_y=a2_a)),()),(()))) a.1 a.2.1 a.2.2.1 a.2.2.2.1⟩
noncomputable def qm5:Fx:=⟨seat,some bkT,fns,[],[],[],[]⟩
def qhJ (a0_x:List UInt8) (a1_y:List UInt8) (a2_a:List UInt8) (a3_b:List UInt8) (Q:Bool→Prop):Prop:=
 (a0_x=a2_a→(a1_y=a3_b→Q true)∧(¬a1_y=a3_b→(a0_x=a3_b→Q (decide (a1_y=a2_a)))∧(¬a0_x=a3_b→Q false)))∧(¬a0_x=a2_a→(a0_x=a3_b→Q (decide (a1_y=a2_a)))∧(¬a0_x=a3_b→Q false))
theorem qnT {a0_x:List UInt8} {a1_y:List UInt8} {a2_a:List UInt8} {a3_b:List UInt8} (w_0:(Ty.kd (.sl .byte)).wf a0_x) (w_1:(Ty.kd (.sl .byte)).wf a1_y) (w_2:(Ty.kd (.sl .byte)).wf a2_a) (w_3:(Ty.kd (.sl .byte)).wf a3_b):qhJ a0_x a1_y a2_a a3_b (fun o0=>o0=decide ((a0_x=a2_a∧a1_y=a3_b)∨(a0_x=a3_b∧a1_y=a2_a))):=by
 unfold qhJ
 refine ⟨fun h1=>⟨fun h2=>?_,fun h2=>⟨fun h3=>?_,fun h3=>?_⟩⟩,fun h1=>⟨fun h3=>?_,fun h3=>?_⟩⟩
 ·exact (decide_eq_true (.inl ⟨h1,h2⟩)).symm
 ·exact decide_eq_decide.2 ⟨fun h=> .inr ⟨h3,h⟩,fun h=>h.elim (fun h=>absurd h.2 h2) (fun h=>h.2)⟩
 ·exact (decide_eq_false fun h=>h.elim (fun h=>h2 h.2) (fun h=>h3 h.1)).symm
 ·exact decide_eq_decide.2 ⟨fun h=> .inr ⟨h3,h⟩,fun h=>h.elim (fun h=>absurd h.1 h1) (fun h=>h.2)⟩
 ·exact (decide_eq_false fun h=>h.elim (fun h=>h1 h.1) (fun h=>h3 h.1)).symm
theorem qnS:(∀a,qfv.pre a→PM.wfP qfv.pm a (fvc qm5 200 57 qfv a (eqO qfv a)))=(∀a:(List UInt8)×(List UInt8)×(List UInt8)×(List UInt8)×Unit,True→(Ty.kd (.sl .byte)).wf a.1→(Ty.kd (.sl .byte)).wf a.2.1→(Ty.kd (.sl .byte)).wf a.2.2.1→(Ty.kd (.sl .byte)).wf a.2.2.2.1→qhJ a.1 a.2.1 a.2.2.1 a.2.2.2.1 (fun o0=>o0=decide (((a.1)=(a.2.2.1)∧(a.2.1)=(a.2.2.2.1))∨((a.1)=(a.2.2.2.1)∧(a.2.1)=(a.2.2.1))))):=by kernel_rfl
theorem qpO:qfv.valid Try.prog 57:=qa6 (X:=qm5) (qbT qaH (fun b hb=>by cases hb;exact qa5) qa8 trivial) 200 (qnS.mpr fun a hp w_0 w_1 w_2 w_3=> @qnT a.1 a.2.1 a.2.2.1 a.2.2.2.1 w_0 w_1 w_2 w_3)
def qiZ:List UInt8:=[98]
def qeA:List UInt8:=[97]
def qfO:List UInt8:=[2,0,1,2,97,98]
noncomputable def qcL:Ctr:=⟨[],[.v .bool],none,fun _=>((true,()),(()))⟩
noncomputable def qiA:Fx:=⟨seat,some bkT,fns,[(67,Of_C),(56,qhz),(52,qjL),(36,qht),(98,qbD),(99,qih),(100,qmU)],[],[],[]⟩
def qeN (Q:Bool→Prop):Prop:=
 toB (97:Int)::([]:List UInt8)≠([]:List UInt8)∧((1:Nat)+qao ((toB (97:Int)::([]:List UInt8))::([]:List (List UInt8)))≤(140737488355328:Nat)∧qaP (some (([]:List Nt),(0:Int))))∧((Ty.arr (32:Nat) Ty.byte).kd.wf (qam (1:Int) ((toB (97:Int)::([]:List UInt8))::([]:List (List UInt8))))→toB (97:Int)::([]:List UInt8)≠([]:List UInt8)∧((1:Nat)+qao ((toB (97:Int)::([]:List UInt8))::([]:List (List UInt8)))≤(140737488355328:Nat)∧qaP (qaD (some (([]:List Nt),(0:Int))) (1:Int) ((toB (97:Int)::([]:List UInt8))::([]:List (List UInt8)))))∧((Ty.arr (32:Nat) Ty.byte).kd.wf (qam (1:Int) ((toB (97:Int)::([]:List UInt8))::([]:List (List UInt8))))→toB (97:Int)::([]:List UInt8)≠([]:List UInt8)∧((toB (97:Int)::([]:List UInt8)).length≤(140737488355328:Nat)∧qaP (some (([]:List Nt),(0:Int))))∧toB (98:Int)::([]:List UInt8)≠([]:List UInt8)∧((toB (98:Int)::([]:List UInt8)).length≤(140737488355328:Nat)∧qaP (qai (some (([]:List Nt),(0:Int))) (qam (1:Int) ((toB (97:Int)::([]:List UInt8))::([]:List (List UInt8)))) (toB (97:Int)::([]:List UInt8))))∧toB (97:Int)::([]:List UInt8)≠([]:List UInt8)∧((toB (97:Int)::([]:List UInt8)).length≤(140737488355328:Nat)∧qaP (qai (qai (some (([]:List Nt),(0:Int))) (qam (1:Int) ((toB (97:Int)::([]:List UInt8))::([]:List (List UInt8)))) (toB (97:Int)::([]:List UInt8))) (qam (1:Int) ((toB (97:Int)::([]:List UInt8))::([]:List (List UInt8)))) (toB (98:Int)::([]:List UInt8))))∧qbV (qai (qai (qai (some (([]:List Nt),(0:Int))) (qam (1:Int) ((toB (97:Int)::([]:List UInt8))::([]:List (List UInt8)))) (toB (97:Int)::([]:List UInt8))) (qam (1:Int) ((toB (97:Int)::([]:List UInt8))::([]:List (List UInt8)))) (toB (98:Int)::([]:List UInt8))) (qam (1:Int) ((toB (97:Int)::([]:List UInt8))::([]:List (List UInt8)))) (toB (97:Int)::([]:List UInt8)))∧(Ty.byte.sl.kd.wf (qci (qai (qai (qai (some (([]:List Nt),(0:Int))) (qam (1:Int) ((toB (97:Int)::([]:List UInt8))::([]:List (List UInt8)))) (toB (97:Int)::([]:List UInt8))) (qam (1:Int) ((toB (97:Int)::([]:List UInt8))::([]:List (List UInt8)))) (toB (98:Int)::([]:List UInt8))) (qam (1:Int) ((toB (97:Int)::([]:List UInt8))::([]:List (List UInt8)))) (toB (97:Int)::([]:List UInt8))) (qam (1:Int) ((toB (97:Int)::([]:List UInt8))::([]:List (List UInt8)))))→qbW (Option.map (fun (x0:List Nt×Int)=>((x0.fst,()),x0.snd)) (qai (qai (qai (some (([]:List Nt),(0:Int))) (qam (1:Int) ((toB (97:Int)::([]:List UInt8))::([]:List (List UInt8)))) (toB (97:Int)::([]:List UInt8))) (qam (1:Int) ((toB (97:Int)::([]:List UInt8))::([]:List (List UInt8)))) (toB (98:Int)::([]:List UInt8))) (qam (1:Int) ((toB (97:Int)::([]:List UInt8))::([]:List (List UInt8)))) (toB (97:Int)::([]:List UInt8)))::([]:List (Option ((List (List UInt8×List UInt8)×Unit)×Int))))∧(Ty.byte.sl.kd.wf (qan (Option.map (fun (x0:List Nt×Int)=>((x0.fst,()),x0.snd)) (qai (qai (qai (some (([]:List Nt),(0:Int))) (qam (1:Int) ((toB (97:Int)::([]:List UInt8))::([]:List (List UInt8)))) (toB (97:Int)::([]:List UInt8))) (qam (1:Int) ((toB (97:Int)::([]:List UInt8))::([]:List (List UInt8)))) (toB (98:Int)::([]:List UInt8))) (qam (1:Int) ((toB (97:Int)::([]:List UInt8))::([]:List (List UInt8)))) (toB (97:Int)::([]:List UInt8)))::([]:List (Option ((List (List UInt8×List UInt8)×Unit)×Int))))).fst→Ty.byte.sl.kd.wf (qan (Option.map (fun (x0:List Nt×Int)=>((x0.fst,()),x0.snd)) (qai (qai (qai (some (([]:List Nt),(0:Int))) (qam (1:Int) ((toB (97:Int)::([]:List UInt8))::([]:List (List UInt8)))) (toB (97:Int)::([]:List UInt8))) (qam (1:Int) ((toB (97:Int)::([]:List UInt8))::([]:List (List UInt8)))) (toB (98:Int)::([]:List UInt8))) (qam (1:Int) ((toB (97:Int)::([]:List UInt8))::([]:List (List UInt8)))) (toB (97:Int)::([]:List UInt8)))::([]:List (Option ((List (List UInt8×List UInt8)×Unit)×Int))))).snd.fst→toB (97:Int)::toB (98:Int)::([]:List UInt8)≠([]:List UInt8)∧(1:Nat)+qao (([]:List UInt8)::(toB (97:Int)::toB (98:Int)::([]:List UInt8))::([]:List (List UInt8)))≤(140737488355328:Nat)∧(Ty.byte.kd.sl.wf (preimage (2:Int) (([]:List UInt8)::(toB (97:Int)::toB (98:Int)::([]:List UInt8))::([]:List (List UInt8))))→(preimage (2:Int) (([]:List UInt8)::(toB (97:Int)::toB (98:Int)::([]:List UInt8))::([]:List (List UInt8)))=qfO→(qam (1:Int) ((toB (97:Int)::([]:List UInt8))::([]:List (List UInt8)))=qam (1:Int) ((toB (97:Int)::([]:List UInt8))::([]:List (List UInt8)))→(Ty.int IntKind.i64).kd.wf (qbI (qaD (qaD (some (([]:List Nt),(0:Int))) (1:Int) ((toB (97:Int)::([]:List UInt8))::([]:List (List UInt8)))) (1:Int) ((toB (97:Int)::([]:List UInt8))::([]:List (List UInt8)))))→(qbI (qaD (qaD (some (([]:List Nt),(0:Int))) (1:Int) ((toB (97:Int)::([]:List UInt8))::([]:List (List UInt8)))) (1:Int) ((toB (97:Int)::([]:List UInt8))::([]:List (List UInt8))))=(2:Int)→qbV (qaD (qaD (some (([]:List Nt),(0:Int))) (1:Int) ((toB (97:Int)::([]:List UInt8))::([]:List (List UInt8)))) (1:Int) ((toB (97:Int)::([]:List UInt8))::([]:List (List UInt8))))∧(Ty.byte.sl.sl.kd.wf (qdQ (qaD (qaD (some (([]:List Nt),(0:Int))) (1:Int) ((toB (97:Int)::([]:List UInt8))::([]:List (List UInt8)))) (1:Int) ((toB (97:Int)::([]:List UInt8))::([]:List (List UInt8)))))→(((qdQ (qaD (qaD (some (([]:List Nt),(0:Int))) (1:Int) ((toB (97:Int)::([]:List UInt8))::([]:List (List UInt8)))) (1:Int) ((toB (97:Int)::([]:List UInt8))::([]:List (List UInt8))))).length:Int)=(1:Int)→(qci (qai (qai (qai (some (([]:List Nt),(0:Int))) (qam (1:Int) ((toB (97:Int)::([]:List UInt8))::([]:List (List UInt8)))) (toB (97:Int)::([]:List UInt8))) (qam (1:Int) ((toB (97:Int)::([]:List UInt8))::([]:List (List UInt8)))) (toB (98:Int)::([]:List UInt8))) (qam (1:Int) ((toB (97:Int)::([]:List UInt8))::([]:List (List UInt8)))) (toB (97:Int)::([]:List UInt8))) (qam (1:Int) ((toB (97:Int)::([]:List UInt8))::([]:List (List UInt8))))=qeA→(qdR (qai (qai (qai (some (([]:List Nt),(0:Int))) (qam (1:Int) ((toB (97:Int)::([]:List UInt8))::([]:List (List UInt8)))) (toB (97:Int)::([]:List UInt8))) (qam (1:Int) ((toB (97:Int)::([]:List UInt8))::([]:List (List UInt8)))) (toB (98:Int)::([]:List UInt8))) (qam (1:Int) ((toB (97:Int)::([]:List UInt8))::([]:List (List UInt8)))) (toB (97:Int)::([]:List UInt8))) (qam (1:Int) ((toB (97:Int)::([]:List UInt8))::([]:List (List UInt8))))=true→((qan (Option.map (fun (x0:List Nt×Int)=>((x0.fst,()),x0.snd)) (qai (qai (qai (some (([]:List Nt),(0:Int))) (qam (1:Int) ((toB (97:Int)::([]:List UInt8))::([]:List (List UInt8)))) (toB (97:Int)::([]:List UInt8))) (qam (1:Int) ((toB (97:Int)::([]:List UInt8))::([]:List (List UInt8)))) (toB (98:Int)::([]:List UInt8))) (qam (1:Int) ((toB (97:Int)::([]:List UInt8))::([]:List (List UInt8)))) (toB (97:Int)::([]:List UInt8)))::([]:List (Option ((List (List UInt8×List UInt8)×Unit)×Int))))).fst=qeA→((qan (Option.map (fun (x0:List Nt×Int)=>((x0.fst,()),x0.snd)) (qai (qai (qai (some (([]:List Nt),(0:Int))) (qam (1:Int) ((toB (97:Int)::([]:List UInt8))::([]:List (List UInt8)))) (toB (97:Int)::([]:List UInt8))) (qam (1:Int) ((toB (97:Int)::([]:List UInt8))::([]:List (List UInt8)))) (toB (98:Int)::([]:List UInt8))) (qam (1:Int) ((toB (97:Int)::([]:List UInt8))::([]:List (List UInt8)))) (toB (97:Int)::([]:List UInt8)))::([]:List (Option ((List (List UInt8×List UInt8)×Unit)×Int))))).snd.fst=qiZ→Q (qan (Option.map (fun (x0:List Nt×Int)=>((x0.fst,()),x0.snd)) (qai (qai (qai (some (([]:List Nt),(0:Int))) (qam (1:Int) ((toB (97:Int)::([]:List UInt8))::([]:List (List UInt8)))) (toB (97:Int)::([]:List UInt8))) (qam (1:Int) ((toB (97:Int)::([]:List UInt8))::([]:List (List UInt8)))) (toB (98:Int)::([]:List UInt8))) (qam (1:Int) ((toB (97:Int)::([]:List UInt8))::([]:List (List UInt8)))) (toB (97:Int)::([]:List UInt8)))::([]:List (Option ((List (List UInt8×List UInt8)×Unit)×Int))))).snd.snd)∧(¬(qan (Option.map (fun (x0:List Nt×Int)=>((x0.fst,()),x0.snd)) (qai (qai (qai (some (([]:List Nt),(0:Int))) (qam (1:Int) ((toB (97:Int)::([]:List UInt8))::([]:List (List UInt8)))) (toB (97:Int)::([]:List UInt8))) (qam (1:Int) ((toB (97:Int)::([]:List UInt8))::([]:List (List UInt8)))) (toB (98:Int)::([]:List UInt8))) (qam (1:Int) ((toB (97:Int)::([]:List UInt8))::([]:List (List UInt8)))) (toB (97:Int)::([]:List UInt8)))::([]:List (Option ((List (List UInt8×List UInt8)×Unit)×Int))))).snd.fst=qiZ→Q false))∧(¬(qan (Option.map (fun (x0:List Nt×Int)=>((x0.fst,()),x0.snd)) (qai (qai (qai (some (([]:List Nt),(0:Int))) (qam (1:Int) ((toB (97:Int)::([]:List UInt8))::([]:List (List UInt8)))) (toB (97:Int)::([]:List UInt8))) (qam (1:Int) ((toB (97:Int)::([]:List UInt8))::([]:List (List UInt8)))) (toB (98:Int)::([]:List UInt8))) (qam (1:Int) ((toB (97:Int)::([]:List UInt8))::([]:List (List UInt8)))) (toB (97:Int)::([]:List UInt8)))::([]:List (Option ((List (List UInt8×List UInt8)×Unit)×Int))))).fst=qeA→Q false))∧(qdR (qai (qai (qai (some (([]:List Nt),(0:Int))) (qam (1:Int) ((toB (97:Int)::([]:List UInt8))::([]:List (List UInt8)))) (toB (97:Int)::([]:List UInt8))) (qam (1:Int) ((toB (97:Int)::([]:List UInt8))::([]:List (List UInt8)))) (toB (98:Int)::([]:List UInt8))) (qam (1:Int) ((toB (97:Int)::([]:List UInt8))::([]:List (List UInt8)))) (toB (97:Int)::([]:List UInt8))) (qam (1:Int) ((toB (97:Int)::([]:List UInt8))::([]:List (List UInt8))))=false→Q false))∧(¬qci (qai (qai (qai (some (([]:List Nt),(0:Int))) (qam (1:Int) ((toB (97:Int)::([]:List UInt8))::([]:List (List UInt8)))) (toB (97:Int)::([]:List UInt8))) (qam (1:Int) ((toB (97:Int)::([]:List UInt8))::([]:List (List UInt8)))) (toB (98:Int)::([]:List UInt8))) (qam (1:Int) ((toB (97:Int)::([]:List UInt8))::([]:List (List UInt8)))) (toB (97:Int)::([]:List UInt8))) (qam (1:Int) ((toB (97:Int)::([]:List UInt8))::([]:List (List UInt8))))=qeA→Q false))∧(¬((qdQ (qaD (qaD (some (([]:List Nt),(0:Int))) (1:Int) ((toB (97:Int)::([]:List UInt8))::([]:List (List UInt8)))) (1:Int) ((toB (97:Int)::([]:List UInt8))::([]:List (List UInt8))))).length:Int)=(1:Int)→Q false)))∧(¬qbI (qaD (qaD (some (([]:List Nt),(0:Int))) (1:Int) ((toB (97:Int)::([]:List UInt8))::([]:List (List UInt8)))) (1:Int) ((toB (97:Int)::([]:List UInt8))::([]:List (List UInt8))))=(2:Int)→Q false))∧(¬qam (1:Int) ((toB (97:Int)::([]:List UInt8))::([]:List (List UInt8)))=qam (1:Int) ((toB (97:Int)::([]:List UInt8))::([]:List (List UInt8)))→Q false))∧(¬preimage (2:Int) (([]:List UInt8)::(toB (97:Int)::toB (98:Int)::([]:List UInt8))::([]:List (List UInt8)))=qfO→Q false))))))
theorem qkj  :qeN  (fun o0=>o0=true):=by
 have e1:preimage 2 [([]:List UInt8),[toB 97,toB 98]]=[2,0,1,2,97,98]:=by rw [qee _ (by decide)];decide
 have e2:(preimage 1 [[toB 97]]).length≤10:=by rw [qee _ (by decide)];decide
 have t97:toB 97=97:=by decide
 have t98:toB 98=98:=by decide
 unfold qeN
 rw [e1]
 simp only [t97,t98] at e2⊢
 generalize hS:qam 1 [[97]]=S
 generalize hP:preimage 1 [[97]]=P at e2
 have b1:qai (some ([],0)) S [97]=some ([(S,[97])],0):=rfl
 have b2:qai (some ([(S,[97])],0)) S [98]=some ([(S,[97]),(S,[98])],0):=by simp [qai,addL]
 have b3:qai (some ([(S,[97]),(S,[98])],0)) S [97]=some ([(S,[97]),(S,[98])],0):=by simp [qai,addL]
 have b4:qaD (some ([],0)) 1 [[97]]=some ([(S,P)],1):=by simp only [qaD,hS,hP];rfl
 have b5:qaD (some ([(S,P)],1)) 1 [[97]]=some ([(S,P)],2):=by simp only [qaD,hS,hP];simp [addL];decide
 simp only [b1,b2,b3,b4,b5]
 have r1: ∀l:List Nt,∀c:Int,l.length≤5→qaP (some (l,c)):=fun l c hl y h=>by cases h;simp;omega
 have cl:qan [Option.map (fun x0=>((x0.1,()),x0.2)) (some ([(S,[97]),(S,[98])],(0:Int)))]=([97],[98],true):=by simp [qan,qaG,qaX,addL,qaq,ix]
 have cp:qbW [Option.map (fun x0=>((x0.1,()),x0.2)) (some ([(S,[97]),(S,[98])],(0:Int)))]:=⟨by simp [qaG],by simp [qaG]⟩
 have f1:qbV (some ([(S,[97]),(S,[98])],(0:Int))):=by rintro y h;cases h;exact ⟨by simp,by simp⟩
 have f2:qbV (some ([(S,P)],(2:Int))):=by rintro y h;cases h;exact ⟨by simp,by simp;omega⟩
 have c2:qbI (some ([(S,P)],(2:Int)))=2:=rfl
 have a2:(qdQ (some ([(S,P)],(2:Int)))).length=1:=rfl
 have d1:qci (some ([(S,[97]),(S,[98])],(0:Int))) S=[97]:=by simp [qci,qfJ,qaq,ix]
 have d2:qdR (some ([(S,[97]),(S,[98])],(0:Int))) S=true:=by simp [qdR,qaq]
 simp only [cl,c2,a2,d1,d2]
 repeat' (first | (with_reducible exact cp) | (with_reducible exact f1) | (with_reducible exact f2) | (with_reducible apply r1) | (with_reducible apply And.intro) | (intro _))
 all_goals first
  | decide
  | (rename_i h;cases h;done)
  | (rename_i h;exact absurd rfl h)
  | (rename_i h;exact absurd (by decide) h)
  | (simp;done)
theorem qki:(∀a,qcL.pre a→PM.wfP qcL.pm a (fvc qiA 200 50 qcL a (eqO qcL a)))=(∀a:Unit,True→qeN  (fun o0=>o0=true)):=by kernel_rfl
theorem ql5:qcL.valid Try.prog 50:=qa6 (X:=qiA) (qbT qaH (fun b hb=>by cases hb;exact qa5) qa8 ⟨Of_k,qjU,qnt,qjF,qfq,qlF,qoL,trivial⟩) 200 (qki.mpr fun a hp  => @qkj )
noncomputable def qbF:Ctr:=⟨[.v (.sl (.pr (.int .i64) (.pr (.int .i64) (.pr (.sl (.sl .byte)) (.pr (.arr 32 .byte) (.sl .byte))))))],[.v .bool],none,fun a=>(fun (a0_l:List (Int×Int×(List (List UInt8))×(List UInt8)×List UInt8))=>((true,()),(()))) a.1⟩
noncomputable def qeI:Fx:=⟨{ seat with rws:=[7000024,8000048] },some bkT,fns,[(49,qd0),(50,qcL),(56,qhz),(36,qht),(57,qfv)],[],[(5,[0,1,2],[])],[(7,[0,1,2],[.o 0 2,.o 1 2,.o 2 2,.o 3 2,.o 4 2,.o 5 2,.o 6 2,.o 7 2,.o 8 2,.o 9 2,.o 10 2,.o 11 2,.o 12 2,.o 13 2,.o 14 2,.o 15 1]),(17,[],[.o 0 2,.o 1 2,.o 2 2,.o 3 2,.o 4 2,.o 5 2,.o 6 2,.o 7 2,.o 8 2,.o 9 2,.o 10 2,.o 11 2,.o 12 2,.o 13 2,.o 14 2,.o 15 2,.o 16 2,.o 17 2,.o 18 2,.o 19 2,.o 20 2,.o 21 2,.o 22 2,.o 23 2,.o 24 2,.o 25 2]),(20,[],[.o 0 2,.o 1 2,.o 2 2,.o 3 2,.o 4 2,.o 5 2,.o 6 2,.o 7 2,.o 8 2,.o 9 2,.o 10 2,.o 11 2,.o 12 0])]⟩
def qcx (a0_l:List (Int×Int×(List (List UInt8))×(List UInt8)×List UInt8)) (Q:Bool→Prop):Prop:=
 ((decide ¬light a0_l)=true→Q true)∧((decide ¬light a0_l)=false→((100:Int)<(a0_l.length:Int)→Q true)∧(¬(100:Int)<(a0_l.length:Int)→∃(x0:Int→qav→qav→qav→Prop),∃(x1:Int→qav→qav→qav→Nat),x0 (0:Int) (some (([]:List Nt),(0:Int))) (some (([]:List Nt),(0:Int))) (some (([]:List Nt),(0:Int)))∧∀(x2:Int) (x3 x4 x5:qav),x0 x2 x3 x4 x5→(Kd.int IntKind.i64).wf x2→(x2<(a0_l.length:Int)→((0:Int)≤x2.tmod (3:Int)∧x2.tmod (3:Int)<(0:Int)+(1:Int)+(1:Int)+(1:Int))∧(x2.tmod (3:Int)=(0:Int)→((0:Int)≤x2∧x2<(a0_l.length:Int))∧((0:Int)≤x2∧x2<(a0_l.length:Int))∧((ix a0_l x2).snd.snd.snd.snd.length≤(140737488355328:Nat)∧qaP x3)∧x2<(9223372036854775807:Int)∧x0 (x2+(1:Int)) (qai x3 (ix a0_l x2).snd.snd.snd.fst (ix a0_l x2).snd.snd.snd.snd) x4 x5∧x1 (x2+(1:Int)) (qai x3 (ix a0_l x2).snd.snd.snd.fst (ix a0_l x2).snd.snd.snd.snd) x4 x5<x1 x2 x3 x4 x5)∧(x2.tmod (3:Int)=(0:Int)+(1:Int)→((0:Int)≤x2∧x2<(a0_l.length:Int))∧((0:Int)≤x2∧x2<(a0_l.length:Int))∧((ix a0_l x2).snd.snd.snd.snd.length≤(140737488355328:Nat)∧qaP x4)∧x2<(9223372036854775807:Int)∧x0 (x2+(1:Int)) x3 (qai x4 (ix a0_l x2).snd.snd.snd.fst (ix a0_l x2).snd.snd.snd.snd) x5∧x1 (x2+(1:Int)) x3 (qai x4 (ix a0_l x2).snd.snd.snd.fst (ix a0_l x2).snd.snd.snd.snd) x5<x1 x2 x3 x4 x5)∧(x2.tmod (3:Int)=(0:Int)+(1:Int)+(1:Int)→((0:Int)≤x2∧x2<(a0_l.length:Int))∧((0:Int)≤x2∧x2<(a0_l.length:Int))∧((ix a0_l x2).snd.snd.snd.snd.length≤(140737488355328:Nat)∧qaP x5)∧x2<(9223372036854775807:Int)∧x0 (x2+(1:Int)) x3 x4 (qai x5 (ix a0_l x2).snd.snd.snd.fst (ix a0_l x2).snd.snd.snd.snd)∧x1 (x2+(1:Int)) x3 x4 (qai x5 (ix a0_l x2).snd.snd.snd.fst (ix a0_l x2).snd.snd.snd.snd)<x1 x2 x3 x4 x5))∧(¬x2<(a0_l.length:Int)→qbW (Option.map (fun (x9:List Nt×Int)=>((x9.fst,()),x9.snd)) x3::Option.map (fun (x9:List Nt×Int)=>((x9.fst,()),x9.snd)) x4::Option.map (fun (x9:List Nt×Int)=>((x9.fst,()),x9.snd)) x5::([]:List (Option ((List (List UInt8×List UInt8)×Unit)×Int))))∧(Ty.byte.sl.kd.wf (qan (Option.map (fun (x9:List Nt×Int)=>((x9.fst,()),x9.snd)) x3::Option.map (fun (x9:List Nt×Int)=>((x9.fst,()),x9.snd)) x4::Option.map (fun (x9:List Nt×Int)=>((x9.fst,()),x9.snd)) x5::([]:List (Option ((List (List UInt8×List UInt8)×Unit)×Int))))).fst→Ty.byte.sl.kd.wf (qan (Option.map (fun (x10:List Nt×Int)=>((x10.fst,()),x10.snd)) x3::Option.map (fun (x10:List Nt×Int)=>((x10.fst,()),x10.snd)) x4::Option.map (fun (x10:List Nt×Int)=>((x10.fst,()),x10.snd)) x5::([]:List (Option ((List (List UInt8×List UInt8)×Unit)×Int))))).snd.fst→((qan (Option.map (fun (x11:List Nt×Int)=>((x11.fst,()),x11.snd)) x3::Option.map (fun (x11:List Nt×Int)=>((x11.fst,()),x11.snd)) x4::Option.map (fun (x11:List Nt×Int)=>((x11.fst,()),x11.snd)) x5::([]:List (Option ((List (List UInt8×List UInt8)×Unit)×Int))))).snd.snd=true→((qan (Option.map (fun (x12:List Nt×Int)=>((x12.fst,()),x12.snd)) x3::Option.map (fun (x12:List Nt×Int)=>((x12.fst,()),x12.snd)) x4::Option.map (fun (x12:List Nt×Int)=>((x12.fst,()),x12.snd)) x5::([]:List (Option ((List (List UInt8×List UInt8)×Unit)×Int))))).fst=(qan (Option.map (fun (x12:List Nt×Int)=>((x12.fst,()),x12.snd)) x3::Option.map (fun (x12:List Nt×Int)=>((x12.fst,()),x12.snd)) x4::Option.map (fun (x12:List Nt×Int)=>((x12.fst,()),x12.snd)) x5::([]:List (Option ((List (List UInt8×List UInt8)×Unit)×Int))))).snd.fst→Q false)∧(¬(qan (Option.map (fun (x12:List Nt×Int)=>((x12.fst,()),x12.snd)) x3::Option.map (fun (x12:List Nt×Int)=>((x12.fst,()),x12.snd)) x4::Option.map (fun (x12:List Nt×Int)=>((x12.fst,()),x12.snd)) x5::([]:List (Option ((List (List UInt8×List UInt8)×Unit)×Int))))).fst=(qan (Option.map (fun (x12:List Nt×Int)=>((x12.fst,()),x12.snd)) x3::Option.map (fun (x12:List Nt×Int)=>((x12.fst,()),x12.snd)) x4::Option.map (fun (x12:List Nt×Int)=>((x12.fst,()),x12.snd)) x5::([]:List (Option ((List (List UInt8×List UInt8)×Unit)×Int))))).snd.fst→∃(x13:Bool→Int→Prop),∃(x14:Bool→Int→Nat),x13 false (0:Int)∧∀(x15:Bool) (x16:Int),x13 x15 x16→(Kd.int IntKind.i64).wf x16→(x16<(a0_l.length:Int)→∃(x20:Bool→Int→Prop),∃(x21:Bool→Int→Nat),x20 x15 (0:Int)∧∀(x22:Bool) (x23:Int),x20 x22 x23→(Kd.int IntKind.i64).wf x23→(x23<x16→((0:Int)≤x16∧x16<(a0_l.length:Int))∧((0:Int)≤x23∧x23<(a0_l.length:Int))∧((ix a0_l x16).snd.snd.snd.fst≠(ix a0_l x23).snd.snd.snd.fst→x23<(9223372036854775807:Int)∧x20 x22 (x23+(1:Int))∧x21 x22 (x23+(1:Int))<x21 x22 x23)∧(¬(ix a0_l x16).snd.snd.snd.fst≠(ix a0_l x23).snd.snd.snd.fst→((0:Int)≤x16∧x16<(a0_l.length:Int))∧((0:Int)≤x23∧x23<(a0_l.length:Int))∧((ix a0_l x16).snd.snd.snd.snd=(ix a0_l x23).snd.snd.snd.snd→x23<(9223372036854775807:Int)∧x20 x22 (x23+(1:Int))∧x21 x22 (x23+(1:Int))<x21 x22 x23)∧(¬(ix a0_l x16).snd.snd.snd.snd=(ix a0_l x23).snd.snd.snd.snd→(¬(qan (Option.map (fun (x29:List Nt×Int)=>((x29.fst,()),x29.snd)) x3::Option.map (fun (x29:List Nt×Int)=>((x29.fst,()),x29.snd)) x4::Option.map (fun (x29:List Nt×Int)=>((x29.fst,()),x29.snd)) x5::([]:List (Option ((List (List UInt8×List UInt8)×Unit)×Int))))).snd.snd=true→Q false)∧((qan (Option.map (fun (x29:List Nt×Int)=>((x29.fst,()),x29.snd)) x3::Option.map (fun (x29:List Nt×Int)=>((x29.fst,()),x29.snd)) x4::Option.map (fun (x29:List Nt×Int)=>((x29.fst,()),x29.snd)) x5::([]:List (Option ((List (List UInt8×List UInt8)×Unit)×Int))))).snd.snd=true→((0:Int)≤x16∧x16<(a0_l.length:Int))∧((0:Int)≤x23∧x23<(a0_l.length:Int))∧(decide ((ix a0_l x16).snd.snd.snd.snd=(qan (Option.map (fun (x30:List Nt×Int)=>((x30.fst,()),x30.snd)) x3::Option.map (fun (x30:List Nt×Int)=>((x30.fst,()),x30.snd)) x4::Option.map (fun (x30:List Nt×Int)=>((x30.fst,()),x30.snd)) x5::([]:List (Option ((List (List UInt8×List UInt8)×Unit)×Int))))).fst∧(ix a0_l x23).snd.snd.snd.snd=(qan (Option.map (fun (x30:List Nt×Int)=>((x30.fst,()),x30.snd)) x3::Option.map (fun (x30:List Nt×Int)=>((x30.fst,()),x30.snd)) x4::Option.map (fun (x30:List Nt×Int)=>((x30.fst,()),x30.snd)) x5::([]:List (Option ((List (List UInt8×List UInt8)×Unit)×Int))))).snd.fst∨(ix a0_l x16).snd.snd.snd.snd=(qan (Option.map (fun (x30:List Nt×Int)=>((x30.fst,()),x30.snd)) x3::Option.map (fun (x30:List Nt×Int)=>((x30.fst,()),x30.snd)) x4::Option.map (fun (x30:List Nt×Int)=>((x30.fst,()),x30.snd)) x5::([]:List (Option ((List (List UInt8×List UInt8)×Unit)×Int))))).snd.fst∧(ix a0_l x23).snd.snd.snd.snd=(qan (Option.map (fun (x30:List Nt×Int)=>((x30.fst,()),x30.snd)) x3::Option.map (fun (x30:List Nt×Int)=>((x30.fst,()),x30.snd)) x4::Option.map (fun (x30:List Nt×Int)=>((x30.fst,()),x30.snd)) x5::([]:List (Option ((List (List UInt8×List UInt8)×Unit)×Int))))).fst)=true→Q true)∧(decide ((ix a0_l x16).snd.snd.snd.snd=(qan (Option.map (fun (x30:List Nt×Int)=>((x30.fst,()),x30.snd)) x3::Option.map (fun (x30:List Nt×Int)=>((x30.fst,()),x30.snd)) x4::Option.map (fun (x30:List Nt×Int)=>((x30.fst,()),x30.snd)) x5::([]:List (Option ((List (List UInt8×List UInt8)×Unit)×Int))))).fst∧(ix a0_l x23).snd.snd.snd.snd=(qan (Option.map (fun (x30:List Nt×Int)=>((x30.fst,()),x30.snd)) x3::Option.map (fun (x30:List Nt×Int)=>((x30.fst,()),x30.snd)) x4::Option.map (fun (x30:List Nt×Int)=>((x30.fst,()),x30.snd)) x5::([]:List (Option ((List (List UInt8×List UInt8)×Unit)×Int))))).snd.fst∨(ix a0_l x16).snd.snd.snd.snd=(qan (Option.map (fun (x30:List Nt×Int)=>((x30.fst,()),x30.snd)) x3::Option.map (fun (x30:List Nt×Int)=>((x30.fst,()),x30.snd)) x4::Option.map (fun (x30:List Nt×Int)=>((x30.fst,()),x30.snd)) x5::([]:List (Option ((List (List UInt8×List UInt8)×Unit)×Int))))).snd.fst∧(ix a0_l x23).snd.snd.snd.snd=(qan (Option.map (fun (x30:List Nt×Int)=>((x30.fst,()),x30.snd)) x3::Option.map (fun (x30:List Nt×Int)=>((x30.fst,()),x30.snd)) x4::Option.map (fun (x30:List Nt×Int)=>((x30.fst,()),x30.snd)) x5::([]:List (Option ((List (List UInt8×List UInt8)×Unit)×Int))))).fst)=false→x23<(9223372036854775807:Int)∧x20 x22 (x23+(1:Int))∧x21 x22 (x23+(1:Int))<x21 x22 x23)))))∧(¬x23<x16→x16<(9223372036854775807:Int)∧x13 x22 (x16+(1:Int))∧x14 x22 (x16+(1:Int))<x14 x15 x16))∧(¬x16<(a0_l.length:Int)→(¬(qan (Option.map (fun (x20:List Nt×Int)=>((x20.fst,()),x20.snd)) x3::Option.map (fun (x20:List Nt×Int)=>((x20.fst,()),x20.snd)) x4::Option.map (fun (x20:List Nt×Int)=>((x20.fst,()),x20.snd)) x5::([]:List (Option ((List (List UInt8×List UInt8)×Unit)×Int))))).snd.snd=true→Q true)∧((qan (Option.map (fun (x20:List Nt×Int)=>((x20.fst,()),x20.snd)) x3::Option.map (fun (x20:List Nt×Int)=>((x20.fst,()),x20.snd)) x4::Option.map (fun (x20:List Nt×Int)=>((x20.fst,()),x20.snd)) x5::([]:List (Option ((List (List UInt8×List UInt8)×Unit)×Int))))).snd.snd=true→Q false))))∧((qan (Option.map (fun (x11:List Nt×Int)=>((x11.fst,()),x11.snd)) x3::Option.map (fun (x11:List Nt×Int)=>((x11.fst,()),x11.snd)) x4::Option.map (fun (x11:List Nt×Int)=>((x11.fst,()),x11.snd)) x5::([]:List (Option ((List (List UInt8×List UInt8)×Unit)×Int))))).snd.snd=false→∃(x12:Bool→Int→Prop),∃(x13:Bool→Int→Nat),x12 false (0:Int)∧∀(x14:Bool) (x15:Int),x12 x14 x15→(Kd.int IntKind.i64).wf x15→(x15<(a0_l.length:Int)→∃(x19:Bool→Int→Prop),∃(x20:Bool→Int→Nat),x19 x14 (0:Int)∧∀(x21:Bool) (x22:Int),x19 x21 x22→(Kd.int IntKind.i64).wf x22→(x22<x15→((0:Int)≤x15∧x15<(a0_l.length:Int))∧((0:Int)≤x22∧x22<(a0_l.length:Int))∧((ix a0_l x15).snd.snd.snd.fst≠(ix a0_l x22).snd.snd.snd.fst→x22<(9223372036854775807:Int)∧x19 x21 (x22+(1:Int))∧x20 x21 (x22+(1:Int))<x20 x21 x22)∧(¬(ix a0_l x15).snd.snd.snd.fst≠(ix a0_l x22).snd.snd.snd.fst→((0:Int)≤x15∧x15<(a0_l.length:Int))∧((0:Int)≤x22∧x22<(a0_l.length:Int))∧((ix a0_l x15).snd.snd.snd.snd=(ix a0_l x22).snd.snd.snd.snd→x22<(9223372036854775807:Int)∧x19 x21 (x22+(1:Int))∧x20 x21 (x22+(1:Int))<x20 x21 x22)∧(¬(ix a0_l x15).snd.snd.snd.snd=(ix a0_l x22).snd.snd.snd.snd→(¬(qan (Option.map (fun (x28:List Nt×Int)=>((x28.fst,()),x28.snd)) x3::Option.map (fun (x28:List Nt×Int)=>((x28.fst,()),x28.snd)) x4::Option.map (fun (x28:List Nt×Int)=>((x28.fst,()),x28.snd)) x5::([]:List (Option ((List (List UInt8×List UInt8)×Unit)×Int))))).snd.snd=true→Q false)∧((qan (Option.map (fun (x28:List Nt×Int)=>((x28.fst,()),x28.snd)) x3::Option.map (fun (x28:List Nt×Int)=>((x28.fst,()),x28.snd)) x4::Option.map (fun (x28:List Nt×Int)=>((x28.fst,()),x28.snd)) x5::([]:List (Option ((List (List UInt8×List UInt8)×Unit)×Int))))).snd.snd=true→((0:Int)≤x15∧x15<(a0_l.length:Int))∧((0:Int)≤x22∧x22<(a0_l.length:Int))∧(decide ((ix a0_l x15).snd.snd.snd.snd=(qan (Option.map (fun (x29:List Nt×Int)=>((x29.fst,()),x29.snd)) x3::Option.map (fun (x29:List Nt×Int)=>((x29.fst,()),x29.snd)) x4::Option.map (fun (x29:List Nt×Int)=>((x29.fst,()),x29.snd)) x5::([]:List (Option ((List (List UInt8×List UInt8)×Unit)×Int))))).fst∧(ix a0_l x22).snd.snd.snd.snd=(qan (Option.map (fun (x29:List Nt×Int)=>((x29.fst,()),x29.snd)) x3::Option.map (fun (x29:List Nt×Int)=>((x29.fst,()),x29.snd)) x4::Option.map (fun (x29:List Nt×Int)=>((x29.fst,()),x29.snd)) x5::([]:List (Option ((List (List UInt8×List UInt8)×Unit)×Int))))).snd.fst∨(ix a0_l x15).snd.snd.snd.snd=(qan (Option.map (fun (x29:List Nt×Int)=>((x29.fst,()),x29.snd)) x3::Option.map (fun (x29:List Nt×Int)=>((x29.fst,()),x29.snd)) x4::Option.map (fun (x29:List Nt×Int)=>((x29.fst,()),x29.snd)) x5::([]:List (Option ((List (List UInt8×List UInt8)×Unit)×Int))))).snd.fst∧(ix a0_l x22).snd.snd.snd.snd=(qan (Option.map (fun (x29:List Nt×Int)=>((x29.fst,()),x29.snd)) x3::Option.map (fun (x29:List Nt×Int)=>((x29.fst,()),x29.snd)) x4::Option.map (fun (x29:List Nt×Int)=>((x29.fst,()),x29.snd)) x5::([]:List (Option ((List (List UInt8×List UInt8)×Unit)×Int))))).fst)=true→Q true)∧(decide ((ix a0_l x15).snd.snd.snd.snd=(qan (Option.map (fun (x29:List Nt×Int)=>((x29.fst,()),x29.snd)) x3::Option.map (fun (x29:List Nt×Int)=>((x29.fst,()),x29.snd)) x4::Option.map (fun (x29:List Nt×Int)=>((x29.fst,()),x29.snd)) x5::([]:List (Option ((List (List UInt8×List UInt8)×Unit)×Int))))).fst∧(ix a0_l x22).snd.snd.snd.snd=(qan (Option.map (fun (x29:List Nt×Int)=>((x29.fst,()),x29.snd)) x3::Option.map (fun (x29:List Nt×Int)=>((x29.fst,()),x29.snd)) x4::Option.map (fun (x29:List Nt×Int)=>((x29.fst,()),x29.snd)) x5::([]:List (Option ((List (List UInt8×List UInt8)×Unit)×Int))))).snd.fst∨(ix a0_l x15).snd.snd.snd.snd=(qan (Option.map (fun (x29:List Nt×Int)=>((x29.fst,()),x29.snd)) x3::Option.map (fun (x29:List Nt×Int)=>((x29.fst,()),x29.snd)) x4::Option.map (fun (x29:List Nt×Int)=>((x29.fst,()),x29.snd)) x5::([]:List (Option ((List (List UInt8×List UInt8)×Unit)×Int))))).snd.fst∧(ix a0_l x22).snd.snd.snd.snd=(qan (Option.map (fun (x29:List Nt×Int)=>((x29.fst,()),x29.snd)) x3::Option.map (fun (x29:List Nt×Int)=>((x29.fst,()),x29.snd)) x4::Option.map (fun (x29:List Nt×Int)=>((x29.fst,()),x29.snd)) x5::([]:List (Option ((List (List UInt8×List UInt8)×Unit)×Int))))).fst)=false→x22<(9223372036854775807:Int)∧x19 x21 (x22+(1:Int))∧x20 x21 (x22+(1:Int))<x20 x21 x22)))))∧(¬x22<x15→x15<(9223372036854775807:Int)∧x12 x21 (x15+(1:Int))∧x13 x21 (x15+(1:Int))<x13 x14 x15))∧(¬x15<(a0_l.length:Int)→(¬(qan (Option.map (fun (x19:List Nt×Int)=>((x19.fst,()),x19.snd)) x3::Option.map (fun (x19:List Nt×Int)=>((x19.fst,()),x19.snd)) x4::Option.map (fun (x19:List Nt×Int)=>((x19.fst,()),x19.snd)) x5::([]:List (Option ((List (List UInt8×List UInt8)×Unit)×Int))))).snd.snd=true→Q true)∧((qan (Option.map (fun (x19:List Nt×Int)=>((x19.fst,()),x19.snd)) x3::Option.map (fun (x19:List Nt×Int)=>((x19.fst,()),x19.snd)) x4::Option.map (fun (x19:List Nt×Int)=>((x19.fst,()),x19.snd)) x5::([]:List (Option ((List (List UInt8×List UInt8)×Unit)×Int))))).snd.snd=true→Q false)))))))
theorem qgQ {a0_l:List (Int×Int×(List (List UInt8))×(List UInt8)×List UInt8)} (w_0:(Ty.kd (.sl (.pr (.int .i64) (.pr (.int .i64) (.pr (.sl (.sl .byte)) (.pr (.arr 32 .byte) (.sl .byte))))))).wf a0_l):qcx a0_l (fun o0=>o0=true):=by
 unfold qcx
 refine ⟨fun _=>rfl,fun hl=>⟨fun _=>rfl,fun h100=>?_⟩⟩
 have hlt0:light a0_l:=Decidable.not_not.1 (of_decide_eq_false hl)
 have wb: ∀i:Int,0≤i→i<(a0_l.length:Int)→(ix a0_l i).2.2.2.2.length≤140737488355328:=fun i h0 h=>by
  obtain ⟨n,rfl⟩:=Int.eq_ofNat_of_zero_le h0
  have h1:=qea h
  have h2:=qeb a0_l (n+1)
  have h3:=hlt0.2.2
  omega
 have fz: ∀b:qav,Option.map (fun x:List Nt×Int=>((x.1,()),x.2)) b=frzB b:=fun _=>rfl
 simp only [fz]
 refine ⟨fun i x y z=> ∃j:Nat,i=(j:Int)∧j≤a0_l.length∧x=some (nb a0_l 0 j,0)∧y=some (nb a0_l 1 j,0)∧z=some (nb a0_l 2 j,0),fun i _ _ _=>a0_l.length - i.toNat,⟨0,rfl,Nat.zero_le _,rfl,rfl,rfl⟩,?_⟩
 rintro _ _ _ _ ⟨j,rfl,hj,rfl,rfl,rfl⟩ _
 have hm:(j:Int).tmod 3=((j%3:Nat):Int):=by rw [Int.tmod_eq_emod_of_nonneg (by omega)];omega
 have room: ∀r,qaP (some (nb a0_l r j,0)):=fun r y hy=>by
  cases hy
  have:=qg8 a0_l r j
  show ((nb a0_l r j).length+1) *64≤140737488355328
  omega
 have yes: ∀r,j%3=r→qai (some (nb a0_l r j,0)) (ix a0_l (j:Int)).2.2.2.1 (ix a0_l (j:Int)).2.2.2.2=some (nb a0_l r (j+1),0):=fun r hr=>by
  show some (addL _ _ _,(0:Int))=_
  rw [nb,if_pos hr]
 have no: ∀r,¬j%3=r→nb a0_l r j=nb a0_l r (j+1):=fun r hr=>by rw [nb,if_neg hr]
 rw [hm]
 refine ⟨fun hlt=>⟨⟨by omega,by omega⟩,fun h0=>?_,fun h0=>?_,fun h0=>?_⟩,fun hge=>?_⟩
 ·refine ⟨⟨by omega,hlt⟩,⟨by omega,hlt⟩,⟨wb _ (by omega) hlt,room 0⟩,by omega,⟨j+1,rfl,by omega,yes 0 (by omega),by rw [no 1 (by omega)],by rw [no 2 (by omega)]⟩,?_⟩
  show a0_l.length - ((j:Int)+1).toNat<a0_l.length - (j:Int).toNat
  omega
 ·refine ⟨⟨by omega,hlt⟩,⟨by omega,hlt⟩,⟨wb _ (by omega) hlt,room 1⟩,by omega,⟨j+1,rfl,by omega,by rw [no 0 (by omega)],yes 1 (by omega),by rw [no 2 (by omega)]⟩,?_⟩
  show a0_l.length - ((j:Int)+1).toNat<a0_l.length - (j:Int).toNat
  omega
 ·refine ⟨⟨by omega,hlt⟩,⟨by omega,hlt⟩,⟨wb _ (by omega) hlt,room 2⟩,by omega,⟨j+1,rfl,by omega,by rw [no 0 (by omega)],by rw [no 1 (by omega)],yes 2 (by omega)⟩,?_⟩
  show a0_l.length - ((j:Int)+1).toNat<a0_l.length - (j:Int).toNat
  omega
 ·obtain rfl:j=a0_l.length:=by omega
  have hmem: ∀z,z∈nb a0_l 0 a0_l.length++(nb a0_l 1 a0_l.length++nb a0_l 2 a0_l.length)↔ ∃i:Nat,i<a0_l.length∧z=((ix a0_l (i:Int)).2.2.2.1,(ix a0_l (i:Int)).2.2.2.2):=fun z=>by
   simp only [List.mem_append,qm9]
   constructor
   ·rintro (⟨i,h1,_,h3⟩ | ⟨i,h1,_,h3⟩ | ⟨i,h1,_,h3⟩)<;>exact ⟨i,h1,h3⟩
   ·rintro ⟨i,h1,h3⟩
    rcases (by omega:i%3=0∨i%3=1∨i%3=2) with h | h | h
    ·exact .inl ⟨i,h1,h,h3⟩
    ·exact .inr (.inl ⟨i,h1,h,h3⟩)
    ·exact .inr (.inr ⟨i,h1,h,h3⟩)
  have en:qaG [frzB (some (nb a0_l 0 a0_l.length,0)),frzB (some (nb a0_l 1 a0_l.length,0)),frzB (some (nb a0_l 2 a0_l.length,0))]=nb a0_l 0 a0_l.length++(nb a0_l 1 a0_l.length++nb a0_l 2 a0_l.length):=by simp [qaG,frzB]
  have cp:qbW [frzB (some (nb a0_l 0 a0_l.length,0)),frzB (some (nb a0_l 1 a0_l.length,0)),frzB (some (nb a0_l 2 a0_l.length,0))]:=by
   unfold qbW
   rw [en]
   have n0:=qg8 a0_l 0 a0_l.length
   have n1:=qg8 a0_l 1 a0_l.length
   have n2:=qg8 a0_l 2 a0_l.length
   refine ⟨by simp only [List.length_append];omega,fun z hz=>?_⟩
   obtain ⟨i,hi,rfl⟩:=(hmem z).1 hz
   exact wb _ (by omega) (by omega)
  have hcl:=qhM (nb a0_l 0 a0_l.length,0) (nb a0_l 1 a0_l.length,0) (nb a0_l 2 a0_l.length,0)
  have hin:(qan [frzB (some (nb a0_l 0 a0_l.length,0)),frzB (some (nb a0_l 1 a0_l.length,0)),frzB (some (nb a0_l 2 a0_l.length,0))]).2.2=true→∃i k:Nat,i<a0_l.length∧k<a0_l.length∧(ix a0_l (i:Int)).2.2.2.1=(ix a0_l (k:Int)).2.2.2.1∧(ix a0_l (i:Int)).2.2.2.2=(qan [frzB (some (nb a0_l 0 a0_l.length,0)),frzB (some (nb a0_l 1 a0_l.length,0)),frzB (some (nb a0_l 2 a0_l.length,0))]).1∧(ix a0_l (k:Int)).2.2.2.2=(qan [frzB (some (nb a0_l 0 a0_l.length,0)),frzB (some (nb a0_l 1 a0_l.length,0)),frzB (some (nb a0_l 2 a0_l.length,0))]).2.1:=fun hf=>by
   unfold qan at hf⊢
   rw [en] at hf⊢
   obtain ⟨s,h1,h2⟩:=qfw _ _ hf
   rw [List.nil_append] at h1 h2
   obtain ⟨i,hi,ei⟩:=(hmem _).1 h1
   obtain ⟨k,hk,ek⟩:=(hmem _).1 h2
   have ei':=Prod.mk.inj ei
   have ek':=Prod.mk.inj ek
   exact ⟨i,k,hi,hk,ei'.1.symm.trans ek'.1,ei'.2.symm,ek'.2.symm⟩
  refine ⟨cp,fun _ _=>?_⟩
  generalize qan [frzB (some (nb a0_l 0 a0_l.length,0)),frzB (some (nb a0_l 1 a0_l.length,0)),frzB (some (nb a0_l 2 a0_l.length,0))]=C at hcl hin⊢
  obtain ⟨hne,hno⟩:=hcl
  dsimp only at hno
  refine ⟨fun hf=>⟨fun he=>absurd he (hne hf),fun _=>?_⟩,fun hf=>?_⟩
  ·
   obtain ⟨i,k,hi,hk,es,e1,e2⟩:=hin hf
   have hP: ∀p q:Nat,(ix a0_l (p:Int)).2.2.2.1=(ix a0_l (q:Int)).2.2.2.1→q<p→p<a0_l.length→((ix a0_l (p:Int)).2.2.2.2=C.1∧(ix a0_l (q:Int)).2.2.2.2=C.2.1∨(ix a0_l (p:Int)).2.2.2.2=C.2.1∧(ix a0_l (q:Int)).2.2.2.2=C.1)→¬(ix a0_l (p:Int)).2.2.2.2=(ix a0_l (q:Int)).2.2.2.2:=fun p q _ _ _ h he=>by
    rcases h with ⟨h1,h2⟩ | ⟨h1,h2⟩
    ·exact hne hf (by rw [←h1,←h2,he])
    ·exact hne hf (by rw [←h1,←h2,he])
   have hit: ∃p q:Nat,q<p∧p<a0_l.length∧(ix a0_l (p:Int)).2.2.2.1=(ix a0_l (q:Int)).2.2.2.1∧((ix a0_l (p:Int)).2.2.2.2=C.1∧(ix a0_l (q:Int)).2.2.2.2=C.2.1∨(ix a0_l (p:Int)).2.2.2.2=C.2.1∧(ix a0_l (q:Int)).2.2.2.2=C.1):=by
    rcases Nat.lt_trichotomy i k with h | h | h
    ·exact ⟨k,i,h,hk,es.symm,.inr ⟨e2,e1⟩⟩
    ·subst h
     exact absurd (e1.symm.trans e2) (hne hf)
    ·exact ⟨i,k,h,hi,es,.inl ⟨e1,e2⟩⟩
   obtain ⟨p,q,hqp,hp,hs,hb⟩:=hit
   have hd:=hP p q hs hqp hp hb
   refine ⟨fun _ a=> ∃n:Nat,a=(n:Int)∧n≤p,fun _ a=>a0_l.length - a.toNat,⟨0,rfl,Nat.zero_le _⟩,?_⟩
   rintro _ _ ⟨n,rfl,hn⟩ _
   refine ⟨fun hlt=>?_,fun hg=>absurd hp (by omega)⟩
   refine ⟨fun _ b=> ∃m:Nat,b=(m:Int)∧m≤n∧(n=p→m≤q),fun _ b=>n - b.toNat,⟨0,rfl,Nat.zero_le _,fun _=>Nat.zero_le _⟩,?_⟩
   rintro _ _ ⟨m,rfl,hmn,hmq⟩ _
   refine ⟨fun hl2=>⟨⟨by omega,hlt⟩,⟨by omega,by omega⟩,fun hneq=>⟨by omega,⟨m+1,rfl,by omega,fun h=>?_⟩,?_⟩,fun heq=>⟨⟨by omega,hlt⟩,⟨by omega,by omega⟩,fun hsame=>⟨by omega,⟨m+1,rfl,by omega,fun h=>?_⟩,?_⟩,fun hdiff=>⟨fun h=>absurd hf h,fun _=>⟨⟨by omega,hlt⟩,⟨by omega,by omega⟩,fun _=>trivial,fun hno2=>⟨by omega,⟨m+1,rfl,by omega,fun h=>?_⟩,?_⟩⟩⟩⟩⟩,fun hge2=>⟨by omega,⟨n+1,rfl,?_⟩,?_⟩⟩
   ·have:=hmq h
    rcases Nat.lt_or_ge m q with g | g
    ·exact g
    ·obtain rfl:m=q:=by omega
     subst h
     exact absurd hs hneq
   ·show n - ((m:Int)+1).toNat<n - (m:Int).toNat
    omega
   ·have:=hmq h
    rcases Nat.lt_or_ge m q with g | g
    ·exact g
    ·obtain rfl:m=q:=by omega
     subst h
     exact absurd hsame hd
   ·show n - ((m:Int)+1).toNat<n - (m:Int).toNat
    omega
   ·have:=hmq h
    rcases Nat.lt_or_ge m q with g | g
    ·exact g
    ·obtain rfl:m=q:=by omega
     subst h
     exact absurd hb (of_decide_eq_false hno2)
   ·show n - ((m:Int)+1).toNat<n - (m:Int).toNat
    omega
   ·rcases Nat.lt_or_ge n p with g | g
    ·exact g
    ·obtain rfl:n=p:=by omega
     have:=hmq rfl
     omega
   ·show a0_l.length - ((n:Int)+1).toNat<a0_l.length - (n:Int).toNat
    omega
  ·have hN:=hno hf
   refine ⟨fun _ a=> ∃n:Nat,a=(n:Int)∧n≤a0_l.length,fun _ a=>a0_l.length - a.toNat,⟨0,rfl,Nat.zero_le _⟩,?_⟩
   rintro _ _ ⟨n,rfl,hn⟩ _
   refine ⟨fun hlt=>?_,fun hg=>⟨fun _=>trivial,fun h=>by rw [hf] at h;cases h⟩⟩
   refine ⟨fun _ b=> ∃m:Nat,b=(m:Int)∧m≤n,fun _ b=>n - b.toNat,⟨0,rfl,Nat.zero_le _⟩,?_⟩
   rintro _ _ ⟨m,rfl,hmn⟩ _
   have dec: ∀h:(m:Int)<(n:Int),n - ((m:Int)+1).toNat<n - (m:Int).toNat:=fun h=>by omega
   refine ⟨fun hl2=>⟨⟨by omega,hlt⟩,⟨by omega,by omega⟩,fun hneq=>⟨by omega,⟨m+1,rfl,by omega⟩,dec hl2⟩,fun heq=>⟨⟨by omega,hlt⟩,⟨by omega,by omega⟩,fun hsame=>⟨by omega,⟨m+1,rfl,by omega⟩,dec hl2⟩,fun hdiff=>?_⟩⟩,fun hge2=>⟨by omega,⟨n+1,rfl,by omega⟩,?_⟩⟩
   ·exfalso
    have es:=Decidable.not_not.1 heq
    refine hdiff (hN (ix a0_l (n:Int)).2.2.2.1 _ _ ((hmem _).2 ⟨n,by omega,rfl⟩) ((hmem _).2 ⟨m,by omega,?_⟩))
    rw [es]
   ·show a0_l.length - ((n:Int)+1).toNat<a0_l.length - (n:Int).toNat
    omega
theorem qgP:(∀a,qbF.pre a→PM.wfP qbF.pm a (fvc qeI 200 13 qbF a (eqO qbF a)))=(∀a:(List (Int×Int×(List (List UInt8))×(List UInt8)×List UInt8))×Unit,True→(Ty.kd (.sl (.pr (.int .i64) (.pr (.int .i64) (.pr (.sl (.sl .byte)) (.pr (.arr 32 .byte) (.sl .byte))))))).wf a.1→qcx a.1 (fun o0=>o0=true)):=by kernel_rfl
theorem qhF:qbF.valid Try.prog 13:=qa6 (X:=qeI) (qbT (qaH.rows [7000024,8000048]) (fun b hb=>by cases hb;exact qa5) qa8 ⟨qn8,ql5,qjU,qjF,qpO,trivial⟩) 200 (qgP.mpr fun a hp w_0=> @qgQ a.1 w_0)
end Go.Proofs.Ytmjjkpiglbpkhaa

set_option linter.unusedVariables false
namespace Go.Proofs.Ytmjjkpiglbpkhaa
open Go Go.RowKit Go.Inc Go.ChangeShapes Go.WideShapes Go.ChangeAt
theorem qpZ {H:Type} (d:DataW H):1≤Rows.uptoBulk d:=by
 cases d with
 | lit l=>cases l<;>simp [Rows.uptoBulk]
 | nil=>simp [Rows.uptoBulk]
 | ptr d=>simp [Rows.uptoBulk]
 | slice elems spare=>simp [Rows.uptoBulk]
 | agg parts=>simp [Rows.uptoBulk]
 | iface t d=>simp [Rows.uptoBulk]
 | map entries=>simp [Rows.uptoBulk]
 | held h=>simp [Rows.uptoBulk]
theorem qh7 {H:Type} {d:DataW H} {l:List (DataW H)} (h:d∈l):Rows.uptoBulk d≤Rows.uptoBulkAll l:=by
 induction l with
 | nil=>cases h
 | cons x r ih=>
   simp only [Rows.uptoBulkAll]
   cases List.mem_cons.1 h with
   | inl e=>subst e;omega
   | inr e=>have:=ih e;omega
theorem qg4 {H:Type} (l:List (DataW H)):l.length≤Rows.uptoBulkAll l:=by
 induction l with
 | nil=>simp [Rows.uptoBulkAll]
 | cons x r ih=>have:=qpZ x;simp only [Rows.uptoBulkAll,List.length_cons];omega
theorem qmI {H:Type} {l:List (DataW H)} (hk:Rows.uptoSmall H l=true):Rows.uptoBulkAll l≤1048576:=by
 simpa [Rows.uptoSmall] using hk
def qdq (w:World):Ghost:=fun b=>match w.heap[b]? with
 | some (.cells c t _)=>some (t,c.toList)
 | _=>none
theorem Models.ofW (w:World):Models w (qdq w):=fun b t l h=>by
 unfold qdq at h
 split at h
 ·rename_i c t' fr hh
  cases h
  exact ⟨c,fr,hh,List.prefix_refl _⟩
 ·cases h
section
variable {P:Program} {α β:Type} {k:Kd α} {k':Kd β} {t e:TypeId} {by_:Nat} {S:α→Prop} {S':β→Prop}
def sm0 {α:Type}:α→Prop:=fun _=>True
def smL {α:Type} (S:α→Prop):List α→Prop:=fun l=>l.length≤1048576∧∀x∈l,S x
def smP {α β:Type} (S:α→Prop) (T:β→Prop):α×β→Prop:=fun x=>S x.1∧T x.2
def Rds (P:Program) (t:TypeId) (k:Kd α) (S:α→Prop):Prop:=∀(H:Type) (enc:TypeId×Value→H) (w:World) (base:Nat) (held:Bool) (fuel:Nat) (cs:List Value) (x:DataW H×List MemPlace),
 DataW.trod enc P w base (fun _=>true) held fuel t cs=some x→Rows.uptoBulk x.1≤1048576→∃a,k.R (qdq w) a cs∧S a
theorem qbE (h:TyOk P t k by_):P.cellsOf t=k.sz:=by
 obtain ⟨i,z,hi,hs,_⟩:=h.info
 simp [Program.cellsOf,hi,hs]
theorem qon {ik:IntKind} (ht:P.underlying t=some (.int ik)):Rds P t (Kd.int ik) sm0:=fun H enc w base held fuel cs x h hb=>by
 obtain ⟨n,rfl,_,hw⟩:=DataW.trod_int ht h
 refine ⟨n,⟨rfl,?_⟩,trivial⟩
 simpa [Lit.wf] using hw
theorem qmD (ht:P.underlying t=some (.int .u8)):Rds P t Kd.byte sm0:=fun H enc w base held fuel cs x h hb=>by
 obtain ⟨n,rfl,_,hw⟩:=DataW.trod_int ht h
 have hw:0≤n∧n≤255:=by simpa [Lit.wf,IntKind.min,IntKind.max,IntKind.signed,IntKind.bits] using hw
 refine ⟨UInt8.ofNat n.toNat,?_,trivial⟩
 show [Value.int .u8 n]=[.int .u8 _]
 congr 2
 have:(UInt8.ofNat n.toNat).toNat=n.toNat:=by simp;omega
 omega
theorem qeU {w:World} {base n:Nat} {a:Addr} {cs:List Value} (h:w.cells? base a n=some cs) (hn:0<n):
 a.spot=none∧∃e l,qdq w a.block=some (e,l)∧a.off+n≤l.length∧(l.drop a.off).take n=cs:=by
 unfold World.cells? at h
 split at h
 case isFalse=>cases h
 case isTrue hb=>
 have hl:=mapM_some_length h
 have hg:=fun i (hi:i<n)=>mapM_some_get h i i (by simp [hi])
 have h0:=hg 0 hn
 have hc0:0<cs.length:=by rw [hl];simpa using hn
 rw [List.getElem?_eq_getElem hc0] at h0
 unfold World.cell? at h0
 have ea: ∀i,(a.add i).block=a.block:=fun i=>by unfold Addr.add;split<;>rfl
 have eo: ∀i,(a.add i).off=a.off+i:=fun i=>by unfold Addr.add;split<;>simp_all
 have ha0:a.add 0=a:=by simp [Addr.add]
 rw [ha0] at h0
 cases hh:w.heap[a.block]? with
 | none=>rw [hh] at h0;cases h0
 | some o=>
   rw [hh] at h0
   cases o with
   | cells c e fr=>
     simp only at h0
     split at h0
     ·cases h0
     ·rename_i hs
      have hs:a.spot=none:=by simpa using hs
      refine ⟨hs,e,c.toList,by simp [qdq,hh],?_⟩
      have hgc: ∀i,i<n→c[a.off+i]?=cs[i]?:=fun i hi=>by
       have:=hg i hi
       unfold World.cell? at this
       rw [ea,eo,hh] at this
       have hs':(a.add i).spot.isSome=false:=by unfold Addr.add;split<;>simp_all
       simpa [hs'] using this
      have hlen:cs.length=n:=by rw [hl];simp
      have hbound:a.off+n≤c.toList.length:=by
       have h1:=hgc (n - 1) (by omega)
       rw [List.getElem?_eq_getElem (by omega)] at h1
       have:=(Array.getElem?_eq_some_iff.1 h1).1
       simp only [Array.length_toList]
       omega
      refine ⟨hbound,?_⟩
      apply List.ext_getElem?
      intro i
      rcases Nat.lt_or_ge i n with hi | hi
      ·rw [List.getElem?_take,if_pos hi,List.getElem?_drop,←hgc i hi]
       simp
      ·rw [List.getElem?_take,if_neg (by omega),List.getElem?_eq_none (by omega)]
   | _=>simp at h0
theorem qhD {R:α→List Value→Prop}: ∀(n:Nat) (f:Nat→List Value),(∀i,i<n→∃a,R a (f i)∧S a)→∃l,l.length=n∧RL R l ((List.range n).map f).flatten∧∀x∈l,S x
 | 0,f,_=>⟨[],rfl,by simp [RL],by simp⟩
 | n+1,f,h=>by
   obtain ⟨l,hl,hR,hS⟩:=qhD n f (fun i hi=>h i (by omega))
   obtain ⟨a,ha,hs⟩:=h n (by omega)
   refine ⟨l++ [a],by simp [hl],?_,fun x hx=>(List.mem_append.1 hx).elim (hS x) (fun h=>by rw [List.mem_singleton.1 h];exact hs)⟩
   rw [List.range_succ]
   simp only [List.map_append,List.map_cons,List.map_nil,List.flatten_append,List.flatten_cons,List.flatten_nil,List.append_nil]
   exact RL.append hR (RL.single ha)
theorem qd2 (s:Nat): ∀(n:Nat) (l:List Value),n *s≤l.length→((List.range n).map fun i=>(l.drop (i *s)).take s).flatten=l.take (n *s)
 | 0,l,_=>by simp
 | n+1,l,h=>by
   have e:(n+1) *s=n *s+s:=Nat.succ_mul n s
   rw [List.range_succ]
   simp only [List.map_append,List.map_cons,List.map_nil,List.flatten_append,List.flatten_cons,List.flatten_nil,List.append_nil]
   rw [qd2 s n l (by omega),e,List.take_add]
theorem qk9 (ht:P.underlying t=some (.slice e)) (hT:TyOk P e k by_) (h0:Nat.blt 0 k.sz=true) (hR:Rds P e k S):Rds P t (Kd.sl k) (smL S):=fun H enc w base held fuel cs x h hb=>by
 have h0:0<k.sz:=Nat.le_of_ble_eq_true h0
 rcases DataW.trod_slice ht h with ⟨rfl,rfl⟩ | ⟨a,len,cap,elems,rest,n,_,rfl,rfl,hbs,hl,hm,hlen,hel,_,_⟩
 ·exact ⟨[],⟨none,0,rfl,by simp,by simp [LM],by simp,.inl rfl⟩,by simp,by simp⟩
 ·rw [qbE hT] at hel
  have hbulk:elems.length≤1048576:=by
   have:=qg4 (elems.map (·.1))
   simp only [Rows.uptoBulk,List.length_map] at hb this
   omega
  have hparts: ∀i,i<len→∃cs' y,w.cells? base (a.add (i *k.sz)) k.sz=some cs'∧DataW.trod enc P w base (fun _=>true) held n e cs'=some y∧Rows.uptoBulk y.1≤1048576:=fun i hi=>by
   have h1:=hel i hi
   rw [List.getElem?_eq_getElem (by omega)] at h1
   obtain ⟨cs',h2,h3⟩:=Option.bind_eq_some_iff.1 h1
   refine ⟨cs',_,h2,h3,?_⟩
   have:=qh7 (l:=elems.map (·.1)) (d:=(elems[i]'(by omega)).1) (List.mem_map.2 ⟨_,List.getElem_mem _,rfl⟩)
   simp only [Rows.uptoBulk] at hb
   omega
  rcases Nat.eq_zero_or_pos len with hz | hp
  ·exact ⟨[],⟨some a,cap,by simp [hz],by simp,by simp [LM],by simp,.inl rfl⟩,by simp,by simp⟩
  ·obtain ⟨cs0,y0,hc0,_,_⟩:=hparts 0 hp
   rw [Nat.zero_mul,show a.add 0=a by simp [Addr.add]] at hc0
   obtain ⟨hs,e',l,hg,_,_⟩:=qeU hc0 h0
   have ea:a=⟨a.block,a.off,none⟩:=by cases a;simp_all
   have key: ∀i,i<len→a.off+i *k.sz+k.sz≤l.length∧w.cells? base (a.add (i *k.sz)) k.sz=some (((l.drop a.off).drop (i *k.sz)).take k.sz):=fun i hi=>by
    obtain ⟨cs',y,hc,_,_⟩:=hparts i hi
    obtain ⟨_,e2,l2,hg2,hle,htk⟩:=qeU hc h0
    rw [ea,qba] at hg2 hle htk
    simp only at hg2 hle htk
    rw [hg] at hg2
    cases hg2
    refine ⟨hle,?_⟩
    rw [hc,List.drop_drop,←htk]
   have hlast:=(key (len - 1) (by omega)).1
   have hall:a.off+len *k.sz≤l.length:=by
    have:len *k.sz=(len - 1) *k.sz+k.sz:=by
     conv=>lhs;rw [show len=(len - 1)+1 by omega]
     exact Nat.succ_mul _ _
    omega
   obtain ⟨xs,hxl,hxR,hxS⟩:=qhD (S:=S) (R:=k.R (qdq w)) len (fun i=>((l.drop a.off).drop (i *k.sz)).take k.sz) (fun i hi=>by
    obtain ⟨cs',y,hc,ht',hb'⟩:=hparts i hi
    rw [(key i hi).2] at hc
    cases hc
    exact hR _ _ _ _ _ _ _ _ ht' hb')
   rw [qd2 k.sz len (l.drop a.off) (by rw [List.length_drop];omega)] at hxR
   refine ⟨xs,⟨some a,cap,by rw [hxl],by omega,by simp only [LM];omega,fun x hx=>?_,.inr ⟨a.block,e',l.take a.off,(l.drop a.off).take (len *k.sz),(l.drop a.off).drop (len *k.sz),?_,?_,hxR⟩⟩,by omega,hxS⟩
   ·exact RL.all (p:=k.wf) (fun _ _=>k.hwf) hxR x hx
   ·rw [List.length_take,Nat.min_eq_left (by omega)]
    exact congrArg some ea
   ·rw [hg,List.append_assoc,List.take_append_drop,List.take_append_drop]
theorem qom {n by_':Nat} (ht:P.underlying t=some (.array n e)) (hT:TyOk P e k by_) (hT':TyOk P t (Kd.arr n k) by_') (hR:Rds P e k S):Rds P t (Kd.arr n k) (smL S):=fun H enc w base held fuel cs x h hb=>by
 obtain ⟨xs,m,_,rfl,hlen,hxl,hx⟩:=DataW.trod_array ht h
 rw [qbE hT] at hx
 rw [qbE hT'] at hlen
 have hlen:cs.length=n *k.sz:=hlen
 obtain ⟨l,hl,hlR,hlS⟩:=qhD (S:=S) (R:=k.R (qdq w)) n (fun i=>(cs.drop (i *k.sz)).take k.sz) (fun i hi=>by
  have h1:=hx i hi
  rw [List.getElem?_eq_getElem (by omega)] at h1
  refine hR _ _ _ _ _ _ _ _ h1 ?_
  have:=qh7 (l:=xs.map (·.1)) (d:=(xs[i]'(by omega)).1) (List.mem_map.2 ⟨_,List.getElem_mem _,rfl⟩)
  simp only [Rows.uptoBulk] at hb
  omega)
 rw [qd2 k.sz n cs (by omega),List.take_of_length_le (by omega)] at hlR
 have hbulk:xs.length≤1048576:=by
  have:=qg4 (xs.map (·.1))
  simp only [Rows.uptoBulk,List.length_map] at hb this
  omega
 exact ⟨l,⟨hl,hlR⟩,by omega,hlS⟩
def RdsF (P:Program) (fs:List Field) (off:Nat) (k:Kd α) (S:α→Prop):Prop:=∀(H:Type) (enc:TypeId×Value→H) (w:World) (base:Nat) (held:Bool) (fuel:Nat) (cs:List Value),
 (∀f∈fs,∃x:DataW H×List MemPlace,DataW.trod enc P w base (fun _=>true) held fuel f.type ((cs.drop f.offset).take (P.cellsOf f.type))=some x∧Rows.uptoBulk x.1≤1048576)→∃a,k.R (qdq w) a ((cs.drop off).take k.sz)∧S a
theorem qmC {f:Field} {off:Nat} (hT:TyOk P f.type k by_) (ho:Nat.beq f.offset off=true) (hR:Rds P f.type k S):RdsF P [f] off k S:=fun H enc w base held fuel cs h=>by
 obtain ⟨x,h1,h2⟩:=h f (.head _)
 rw [Nat.eq_of_beq_eq_true ho,qbE hT] at h1
 exact hR _ _ _ _ _ _ _ _ h1 h2
theorem qdE {fs:List Field} {f:Field} {off:Nat} (hT:TyOk P f.type k by_) (ho:Nat.beq f.offset off=true) (hR:Rds P f.type k S) (hF:RdsF P fs (off+k.sz) k' S'):RdsF P (f::fs) off (Kd.pr k k') (smP S S'):=fun H enc w base held fuel cs h=>by
 obtain ⟨b,hb,hbS⟩:=hF H enc w base held fuel cs (fun f hf=>h f (.tail _ hf))
 obtain ⟨x,h1,h2⟩:=h f (.head _)
 rw [Nat.eq_of_beq_eq_true ho,qbE hT] at h1
 obtain ⟨a,ha,haS⟩:=hR _ _ _ _ _ _ _ _ h1 h2
 refine ⟨(a,b),⟨_,_,?_,ha,hb⟩,haS,hbS⟩
 show (cs.drop off).take (k.sz+k'.sz)=_
 rw [List.take_add,List.drop_drop]
theorem qju {fs:Array Field} (ht:P.underlying t=some (.struct fs)) (hT:TyOk P t k by_) (hF:RdsF P fs.toList 0 k S):Rds P t k S:=fun H enc w base held fuel cs x h hb=>by
 obtain ⟨xs,n,_,rfl,hlen,hxl,hx⟩:=DataW.trod_struct ht h
 rw [qbE hT] at hlen
 obtain ⟨a,ha,haS⟩:=hF H enc w base held n cs (fun f hf=>by
  obtain ⟨i,hi,rfl⟩:=List.getElem_of_mem hf
  have hi':i<fs.size:=by simpa using hi
  have h1:=hx i fs[i] (by simp [hi'])
  rw [List.getElem?_eq_getElem (by omega)] at h1
  refine ⟨xs[i]'(by omega),by simpa using h1,?_⟩
  have:=qh7 (l:=xs.map (·.1)) (d:=(xs[i]'(by omega)).1) (List.mem_map.2 ⟨_,List.getElem_mem _,rfl⟩)
  simp only [Rows.uptoBulk] at hb
  omega)
 rw [List.drop_zero,List.take_of_length_le (by omega)] at ha
 exact ⟨a,ha,haS⟩
theorem qmB {H:Type} {enc:TypeId×Value→H} {w:World} {r:Reach} {b0 base:Nat} {held:Bool} {v:Value} {d:DataW H} {ps:List MemPlace} (hR:Rds P t k S) (hT:TyOk P t k by_)
 (hval:Value.okWide P w r b0 t v) (h:DataW.Trod enc P w base (fun _=>true) held t v d ps) (hb:Rows.uptoBulk d≤1048576): ∃a,k.V (qdq w) a v∧S a:=by
 obtain ⟨fuel,h⟩:=h
 obtain ⟨a,ha,haS⟩:=hR _ _ _ _ _ _ _ _ h hb
 refine ⟨a,⟨v.cells.toList,ha,?_⟩,haS⟩
 obtain ⟨dd,hd,hagg⟩:=hT.desc
 unfold Value.okWide at hval
 rw [hd] at hval
 cases hk:k.agg with
 | true=>
   rw [hk] at hagg
   have: ∃cs,v= .agg cs:=by
    cases dd<;>first | (cases hagg;done) | (obtain ⟨cs,rfl,_⟩:=hval;exact ⟨cs,rfl⟩)
   obtain ⟨cs,rfl⟩:=this
   simp [Value.cells]
 | false=>
   have hlen:=k.len ha
   rw [k.hs hk] at hlen
   have hna: ∀cs,v≠ .agg cs:=fun cs e=>by
    subst e
    rw [hk] at hagg
    cases dd<;>first | (cases hagg;done) | (simp [Cell.okWide,hd,Cell.ok] at hval)
   cases v<;>first | rfl | exact absurd rfl (hna _)
end
section
variable {H:Type} {enc:TypeId×Value→H} {P:Program}
theorem ql6 {w w':World} {K K':Ghost} (h:Ext NX w K w' K'):Below w.heap.size w w':=⟨h.os,h.tape,h.output,h.size,fun b hb=>h.heap b hb (fun x=>x)⟩
theorem qef {W W':World} {sp:Nat→Bool} (hl:laidOutB P=true) (hb:Below W.heap.size W W'): ∀ {ts:List TypeId} {vs:List Value} {ds:List (DataW H)} {ps:List MemPlace},
 (ts.all fun t=>P.readableRec t && decide (t<P.types.size))=true→DataW.TrodAll enc P W 0 (fun _=>true) true ts vs ds ps→(∀p∈ps,p.block<W.heap.size)→(∀p∈ps,sp p.block=true)→DataW.TrodAll enc P W' 0 sp true ts vs ds ps
 | [],[],[],ps,_,h,_,_=>h
 | t::ts,v::vs,d::ds,ps,hr,⟨p,q,h1,h2,e⟩,hlt,hs=>by
   subst e
   simp only [List.all_cons,Bool.and_eq_true,decide_eq_true_eq] at hr
   exact ⟨p,q,WideElems.Trod_stays hl hr.1.1 hr.1.2 h1 (fun x hx=>hb.same (hlt x (List.mem_append.2 (.inl hx)))) (fun x hx=>hs x (List.mem_append.2 (.inl hx))),
    qef hl hb (ts:=ts) hr.2 h2 (fun x hx=>hlt x (List.mem_append.2 (.inr hx))) (fun x hx=>hs x (List.mem_append.2 (.inr hx))),rfl⟩
 | [],_::_,_,_,_,h,_,_=>h.elim
 | [],[],_::_,_,_,h,_,_=>h.elim
 | _::_,[],_,_,_,h,_,_=>h.elim
 | _::_,_::_,[],_,_,h,_,_=>h.elim
theorem qk8 {f:Func} {s:ChangeSpec} {apart fresh handsOn again:Bool} {W W':World} {args:Array Value} {ds gs:List (DataW H)} {before:List MemPlace} {tb:TypeId}
 (hW:DataW.Whole enc P f.params.toList s.vars apart W args.toList ds gs before) (hl:laidOutB P=true) (hr:(f.params.toList.all fun t=>P.readableRec t && decide (t<P.types.size))=true)
 (hrt:f.resultTypes= #[tb]) (htb:P.underlying tb=some .bool) (hs:s.vars=[]) (hv:(s.fn H (ds++gs)).vars=[]) (hres:(s.fn H (ds++gs)).results=[.lit (.bool true)]) (hargs:(s.fn H (ds++gs)).args=ds)
 (hb:Below W.heap.size W W'):s.post enc P f apart fresh handsOn again W args (.bool true) W':=by
 have hlt: ∀p∈before,p.block<W.heap.size:=fun p hp=>hW.lt p hp
 have hW':=hW
 obtain ⟨p,q,hA,hV,e,hz,hn⟩:=hW'
 rw [hs] at hV
 have hq:q=[]∧gs=[]:=by
  cases gs with
  | nil=>exact ⟨hV,rfl⟩
  | cons g r=>exact hV.elim
 obtain ⟨rfl,rfl⟩:=hq
 rw [List.append_nil] at e
 subst e
 have ht: ∀(b:Nat) (sp:Nat→Bool) (hd:Bool),DataW.TrodAll enc P W' b sp hd f.resultTypes.toList ((Value.bool true).resultList f.resultTypes.size) (s.fn H (ds++ [])).results []:=fun b sp hd=>by
  rw [hres,hrt]
  exact ⟨[],[],shut_bool htb _,rfl,rfl⟩
 have ha: ∀sp:Nat→Bool,(∀p∈before,sp p.block=true)→DataW.TrodAll enc P W' 0 sp true f.params.toList args.toList (s.fn H (ds++ [])).args before:=fun sp hsp=>by
  rw [hargs]
  exact qef hl hb hr hA hlt hsp
 have hvs: ∀sp:Nat→Bool,DataW.TrodVars enc P W' sp s.vars (s.fn H (ds++ [])).vars []:=fun sp=>by
  rw [hs,hv]
  rfl
 have hold: ∀p∈before,(fun b=>decide (b<W.heap.size)) p.block=true:=fun p hp=>by simpa using hlt p hp
 refine ⟨ds,[],before,[],before,[],hW,ht _ _ _,ha _ hold,hvs _,World.keptBut_mono (fun p hp=>⟨hp,?_⟩) (hb.frame (· ∈before)),fun _=>?_⟩
 ·exact Or.inr (by simpa using hp)
 ·refine ⟨?_,_,_,([]++before)++ [],⟨[]++before,[],trodAll_append (ha _ (fun _ _=>rfl)) (ht _ _ _),hvs _,rfl,?_,?_⟩,?_⟩
  ·exact ok_one hrt rfl (okWide_bool_mk htb _)
  ·intro b off hp
   have hin:MemPlace.cell b off∈before:=by simpa using hp
   rw [hb.frozen (hlt _ hin)]
   exact hz b off hin
  ·intro hap
   simpa using hn hap
  ·intro p hp _
   simpa using hp
end
end Go.Proofs.Ytmjjkpiglbpkhaa
