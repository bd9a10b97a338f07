/- G2, K3, K7, E32, K8, E33, K9, S4, P25, P26, P27. -/
import Derived.Test.YtmjjkpiglbpkhaaM4
import Derived.Test.YtmjjkpiglbpkhaaChecked
set_option linter.unusedVariables false
set_option maxRecDepth 100000
set_option maxHeartbeats 2000000
namespace Go.Proofs.Ytmjjkpiglbpkhaa
open Go Go.RowKit Go.Inc
theorem qlH {w0:World} {K0:Ghost} {a0_s_v:Value} {a0_s:List UInt8} {D2:Nat→Prop} (hM0:Models w0 K0) (hR:Rd qai D2 w0 K0 a0_s a0_s_v) (hp:a0_s.length≤140737488355328):Calls Try.prog 69 #[a0_s_v] w0 (fun e w'=> ∃(K':Ghost) (r0:Value),e= .returned r0∧Ext NX w0 K0 w' K'∧Models w' K'∧Own Kd.byte 5 w' K' a0_s r0∧(∀g,ob r0=some g→w0.heap.size≤g)):=by
 have hlt: ∀g,D2 g→g<w0.heap.size:=fun g hg=>hR.lt g hg
 obtain ⟨K1,hM1,hEx,hV,back⟩:=hR.use
 refine (qfn hM1 hV hp).mono ?_
 rintro _ w' ⟨K',r0,rfl,hE,hM,hO,hg⟩
 obtain ⟨K2,hE2,hM2,hd⟩:=back w' K' hE hM
 refine ⟨K2,r0,rfl,hE2,hM2,hO.less (fun _ _ _ _ h=>h) fun g hq=>(hd g).2 fun hdd=>?_,hg⟩
 have h1:=hg g hq
 have h2:=hlt g hdd
 omega
theorem qeM {w0:World} {K0:Ghost} {a0_kind_v:Value} {a0_kind:Int} {a1_parts_v:Value} {a1_parts:List (List UInt8)} {D2:Nat→Prop} (hM0:Models w0 K0) (h_k:(Kd.int .i64).V K0 a0_kind a0_kind_v) (hR:Rd qaV D2 w0 K0 a1_parts a1_parts_v) (hp:1+qah a1_parts≤140737488355328):Calls Try.prog 98 #[a0_kind_v,a1_parts_v] w0 (fun e w'=> ∃(K':Ghost) (r0:Value),e= .returned r0∧Ext NX w0 K0 w' K'∧Models w' K'∧Own Kd.byte 5 w' K' (preimage a0_kind a1_parts) r0∧(∀g,ob r0=some g→w0.heap.size≤g)):=by
 have hlt: ∀g,D2 g→g<w0.heap.size:=fun g hg=>hR.lt g hg
 obtain ⟨K1,hM1,hEx,hV,back⟩:=hR.use
 refine (qkX hM1 (h_k.mono hEx.le) hV hp).mono ?_
 rintro _ w' ⟨K',r0,rfl,hE,hM,hO,hg⟩
 obtain ⟨K2,hE2,hM2,hd⟩:=back w' K' hE hM
 refine ⟨K2,r0,rfl,hE2,hM2,hO.less (fun _ _ _ _ h=>h) fun g hq=>(hd g).2 fun hdd=>?_,hg⟩
 have h1:=hg g hq
 have h2:=hlt g hdd
 omega
theorem ty3:TyOk Try.prog 3 (Kd.int .i64) 8:=⟨⟨Try.t3,_,Try.type3,rfl,rfl,rfl,rfl,rfl⟩,⟨_,Try.underlying3,rfl⟩⟩
abbrev qab:Kd (List UInt8):=(Kd.arr 32 Kd.byte)
abbrev qae:Kd ((List UInt8)×(List UInt8)):=(Kd.pr qab qai)
theorem ty24:TyOk Try.prog 24 qab 32:=⟨⟨Try.t24,_,Try.type24,rfl,rfl,rfl,rfl,rfl⟩,⟨_,Try.underlying24,rfl⟩⟩
def qfL (a0_x:((List UInt8)×(List UInt8))) (a1_x:(List UInt8)) (a2_x:(List UInt8)) (Q:Bool→Prop):Prop:=
 Q (decide ((a0_x.1=a1_x)∧(a0_x.2=a2_x)))
theorem qni {a0_x:((List UInt8)×(List UInt8))} {a1_x:(List UInt8)} {a2_x:(List UInt8)} (w_0:qae.wf a0_x) (w_1:qab.wf a1_x) (w_2:qai.wf a2_x):qfL a0_x a1_x a2_x (fun o0=>o0=decide (a0_x.1=a1_x∧a0_x.2=a2_x)):=by
 show decide _=decide _
 simp
theorem qjj {w0:World} {K0:Ghost} {a0_x_v:Value} {a0_x:((List UInt8)×(List UInt8))} {a1_x_b:Nat} {a1_x_pre a1_x_post:List Value} {a1_x:(List UInt8)} {a2_x_b:Nat} {a2_x_pre a2_x_post:List Value} {a2_x:(List UInt8)} {Q:Bool→Prop} (hM0:Models w0 K0) (h_a0_x:qae.V K0 a0_x a0_x_v) (h_a1_x_B:Bx qab w0 K0 a1_x_b a1_x_pre a1_x_post a1_x) (h_a2_x_B:Bx qai w0 K0 a2_x_b a2_x_pre a2_x_post a2_x) (hsp2_3: ¬(a1_x_b=a2_x_b)) (h:qfL a0_x a1_x a2_x Q):Calls Try.prog 133 #[a0_x_v,(.pointer (some ⟨a1_x_b,a1_x_pre.length,none⟩)),(.pointer (some ⟨a2_x_b,a2_x_pre.length,none⟩))] w0 (fun e w'=> ∃(K':Ghost) (r0:Value) (o0:Bool),e= .returned r0∧Q o0∧Ext NX w0 K0 w' K'∧Models w' K'∧Kd.bool.V K' o0 r0):=by
 unfold qfL at h
 have hE0:Ext NX w0 K0 w0 K0:=Ext.refl _ _ _
 refine qaF fun R hR=>?_
 refine qaD (args:=[a0_x_v,(.pointer (some ⟨a1_x_b,a1_x_pre.length,none⟩)),(.pointer (some ⟨a2_x_b,a2_x_pre.length,none⟩))]) Try.func133 rfl (Nat.le_of_ble_eq_true rfl) ?_
 refine qaf ?_
 refine qac ?_
 refine qaz rfl rfl (St_B (qeU hM0 rfl h_a0_x) ?_)
 rintro b4 w4 (hB4:Bx qae _ _ _ _ _ a0_x) hS4 hM4 hge4
 have hE4:=hE0.andN hS4
 refine qaa (.bool false) (R_as rfl) rfl rfl ?_
 refine qak ?_
 refine qaf ?_
 refine qqa (K:=K0) NX [.o 0 2,.o 1 2,.o 2 2,.o 3 2,.o 4 2,.o 5 2,.o 6 2,.o 7 2,.o 8 0,.o 9 2,.o 10 2] (by kernel_rfl) hM4 ?_
 refine qag (.pointer (some ⟨b4,0+0,none⟩)) rfl l0 hM4 (fun _=>R_fa rfl Try.underlying146 rfl rfl ty24 rfl) rfl (gN rfl) rfl ?_
 refine qbG hM4 (qa9 (Foc.fst qab qai) rfl ty24 hB4 (by first | rfl | simp | omega) (fun h=>h)) rfl (gN rfl) rfl ?_
 rintro v6 (hV6:qab.V _ a0_x.1 _)
 have hR9:=(h_a1_x_B.extN hS4)
 refine qbG hM4 (qa9 (Foc.id _) rfl ty24 hR9 (by first | rfl | simp | omega) (fun h=>h)) rfl (gN rfl) rfl ?_
 rintro v8 (hV8:qab.V _ a1_x _)
 refine qag (.bool (decide (a0_x.1=a1_x))) rfl l0 hM4 (fun _=>qsx rfl rfl hV6 hV8 Try.underlying24 Try.underlying5 ty5b (by kernel_rfl)) rfl (gN rfl) rfl ?_
 refine qag (.bool (decide (a0_x.1=a1_x))) rfl l0 hM4 (fun _=>R_mv rfl) rfl (gN rfl) rfl ?_
 refine qmp (al:=true) (l1:=[.o 5 2,.o 6 2,.o 7 2,.o 8 0,.o 9 2]) [10,11,12,13,14] NX (fun l w K=>l=[(14,(.bool (decide ((a0_x.1=a1_x)∧(a0_x.2=a2_x)))))]∧Ext NX w4 K0 w K∧Models w K) ?_ ?_
 ·rcases Classical.em (a0_x.1=a1_x) with hp11 | hp11
  ·skip
   refine qag (.pointer (some ⟨b4,0+32,none⟩)) rfl l0 hM4 (fun _=>R_fa rfl Try.underlying146 rfl rfl ty32 rfl) rfl (gY rfl rfl rfl (decide_eq_true hp11)) rfl ?_
   refine qbG hM4 (qa9 (Foc.snd qab qai) rfl ty32 hB4 (by first | rfl | simp | omega) (fun h=>h)) rfl (gY rfl rfl rfl (decide_eq_true hp11)) rfl ?_
   rintro v12 (hV12:qai.V _ a0_x.2 _)
   have hR15:=(h_a2_x_B.extN hS4)
   refine qbG hM4 (qa9 (Foc.id _) rfl ty32 hR15 (by first | rfl | simp | omega) (fun h=>h)) rfl (gY rfl rfl rfl (decide_eq_true hp11)) rfl ?_
   rintro v14 (hV14:qai.V _ a2_x _)
   refine qeo rfl (gY rfl rfl rfl (decide_eq_true hp11)) rfl (qa0 (qbE Try.call85 rfl) ((qlM hM4 hV12 hV14).mono ?_))
   rintro _ w17 ⟨K17,v17_0,rfl,hS17,hM17,hV17_0⟩
   refine ⟨v17_0,rfl,?_⟩
   refine ⟨K17,hS17,hM17,?_⟩
   have hE17:=hE4.andN hS17
   obtain rfl:=qbP hV17_0
   refine qag (.bool (decide ((a0_x.1=a1_x)∧(a0_x.2=a2_x)))) rfl l0 hM17 (fun _=>qme rfl (decide_eq_true hp11) rfl (qtf hp11)) rfl (gN rfl) rfl ?_
   exact qj2 [(14,(.bool (decide ((a0_x.1=a1_x)∧(a0_x.2=a2_x)))))] K17 rfl ⟨rfl,((Ext.refl _ _ _).andN hS17),hM17⟩ (by repeat (first | exact Off.refl _ _ | refine Off.updO ?_ rfl _ | refine Off.updN ?_ _ | refine Off.lay ?_ rfl)) ⟨rfl,trivial⟩
  ·skip
   refine qba _ hM4 l0 rfl (gF rfl rfl rfl (decide_eq_false hp11)) rfl ?_
   refine qba _ hM4 l0 rfl (gF rfl rfl rfl (decide_eq_false hp11)) rfl ?_
   refine qba _ hM4 l0 rfl (gF rfl rfl rfl (decide_eq_false hp11)) rfl ?_
   refine qba _ hM4 l0 rfl (gF rfl rfl rfl (decide_eq_false hp11)) rfl ?_
   refine qag (.bool (decide ((a0_x.1=a1_x)∧(a0_x.2=a2_x)))) rfl l0 hM4 (fun _=>qmf rfl (decide_eq_false hp11) rfl (qte hp11)) rfl (gN rfl) rfl ?_
   exact qj2 [(14,(.bool (decide ((a0_x.1=a1_x)∧(a0_x.2=a2_x)))))] K0 rfl ⟨rfl,(Ext.refl _ _ _),hM4⟩ (by repeat (first | exact Off.refl _ _ | refine Off.updO ?_ rfl _ | refine Off.updN ?_ _ | refine Off.lay ?_ rfl)) ⟨rfl,trivial⟩
 rintro l σ18 w18 K18 ⟨rfl,hS18,hM18⟩
 have hE18:=hE4.andN hS18
 refine qag (.bool (decide ((a0_x.1=a1_x)∧(a0_x.2=a2_x)))) rfl l0 hM18 (fun _=>R_as rfl) rfl (gN rfl) rfl ?_
 refine qcQ ?_
 refine qbm ?_
 exact qaN hR (v:=(.bool (decide ((a0_x.1=a1_x)∧(a0_x.2=a2_x))))) (qcv rfl rfl) ⟨K18,(.bool (decide ((a0_x.1=a1_x)∧(a0_x.2=a2_x)))),(decide ((a0_x.1=a1_x)∧(a0_x.2=a2_x))),rfl,h,hE18,hM18,qcp⟩
theorem qpg {w0:World} {K0:Ghost} {a0_x_v:Value} {a0_x:((List UInt8)×(List UInt8))} {a1_x_b:Nat} {a1_x_pre a1_x_post:List Value} {a1_x:(List UInt8)} {a2_x_b:Nat} {a2_x_pre a2_x_post:List Value} {a2_x:(List UInt8)} (hM0:Models w0 K0) (h_a0_x:qae.V K0 a0_x a0_x_v) (h_a1_x_B:Bx qab w0 K0 a1_x_b a1_x_pre a1_x_post a1_x) (h_a2_x_B:Bx qai w0 K0 a2_x_b a2_x_pre a2_x_post a2_x) (hsp2_3: ¬(a1_x_b=a2_x_b)):Calls Try.prog 133 #[a0_x_v,(.pointer (some ⟨a1_x_b,a1_x_pre.length,none⟩)),(.pointer (some ⟨a2_x_b,a2_x_pre.length,none⟩))] w0 (fun e w'=> ∃(K':Ghost) (r0:Value),e= .returned r0∧Ext NX w0 K0 w' K'∧Models w' K'∧Kd.bool.V K' (decide (a0_x.1=a1_x∧a0_x.2=a2_x)) r0):=by
 refine (qjj hM0 h_a0_x h_a1_x_B h_a2_x_B hsp2_3 (qni h_a0_x.wf h_a1_x_B.wf h_a2_x_B.wf)).mono ?_
 rintro _ w' ⟨K',r0,o0,rfl,rfl,hF⟩
 exact ⟨K',r0,rfl,hF⟩
abbrev qau:Kd (List ((List UInt8)×(List UInt8))):=(Kd.sl qae)
theorem qdb:TyOk Try.prog 146 qae 56:=⟨⟨Try.t146,_,Try.type146,rfl,rfl,rfl,rfl,rfl⟩,⟨_,Try.underlying146,rfl⟩⟩
def qcb (a0_s:(List ((List UInt8)×(List UInt8)))) (a1_f_0:(List UInt8)) (a1_f_1:(List UInt8)) (Q:Int→Prop):Prop:=
 ∃(I4:Int→Int→Prop) (μ4:Int→Int→Nat),I4 0 0∧∀(i4:Int) (i4':Int),I4 i4 i4'→((Kd.int .i64).wf i4)→((Kd.int .i64).wf i4')→(((i4'<(a0_s.length:Int))→(0≤i4'∧i4'<(a0_s.length:Int))∧((((ix a0_s i4').1=a1_f_0∧(ix a0_s i4').2=a1_f_1)→Q i4')∧((¬((ix a0_s i4').1=a1_f_0∧(ix a0_s i4').2=a1_f_1))→I4 i4 (i4'+1)∧μ4 i4 (i4'+1)<μ4 i4 i4')))∧((¬(i4'<(a0_s.length:Int)))→Q (-1)))
theorem qhQ {a0_s:(List ((List UInt8)×(List UInt8)))} {a1_f_0:(List UInt8)} {a1_f_1:(List UInt8)} (w_0:qau.wf a0_s):qcb a0_s a1_f_0 a1_f_1 (fun o0=>o0=(qbc a1_f_0 a1_f_1 a0_s 0)):=by
 unfold qcb
 refine ⟨fun _ i=> ∃j:Nat,i=(j:Int)∧j≤a0_s.length∧qbc a1_f_0 a1_f_1 a0_s 0=qbc a1_f_0 a1_f_1 (a0_s.drop j) (j:Int),fun _ i=>a0_s.length - i.toNat,⟨0,rfl,by omega,by simp⟩,?_⟩
 rintro _ i ⟨j,rfl,hj,he⟩ _ _
 refine ⟨fun hlt=>⟨⟨by omega,hlt⟩,fun h=>?_,fun h=>⟨⟨j+1,by omega,by omega,?_⟩,?_⟩⟩,fun hge=>?_⟩
 ·rw [qfT hlt,if_pos (h)] at he
  exact he.symm
 ·rw [qfT hlt,if_neg (h)] at he
  rw [he]
  congr 1
 ·show a0_s.length - ((j:Int)+1).toNat<a0_s.length - (j:Int).toNat
  omega
 ·have:j=a0_s.length:=by omega
  subst this
  rw [List.drop_length] at he
  exact he.symm
theorem qf5 {w0:World} {K0:Ghost} {a0_s_v:Value} {a0_s:(List ((List UInt8)×(List UInt8)))} {a1_f_0_b:Nat} {a1_f_0_pre a1_f_0_post:List Value} {a1_f_0:(List UInt8)} {a1_f_1_b:Nat} {a1_f_1_pre a1_f_1_post:List Value} {a1_f_1:(List UInt8)} {Q:Int→Prop} (hM0:Models w0 K0) (h_a0_s:qau.V K0 a0_s a0_s_v) (h_a1_f_0_B:Bx qab w0 K0 a1_f_0_b a1_f_0_pre a1_f_0_post a1_f_0) (h_a1_f_1_B:Bx qai w0 K0 a1_f_1_b a1_f_1_pre a1_f_1_post a1_f_1) (hsp2_3: ¬(a1_f_0_b=a1_f_1_b)) (h:qcb a0_s a1_f_0 a1_f_1 Q):Calls Try.prog 144 #[a0_s_v,(.func (.func 133) #[] #[(.pointer (some ⟨a1_f_0_b,a1_f_0_pre.length,none⟩)),(.pointer (some ⟨a1_f_1_b,a1_f_1_pre.length,none⟩))])] w0 (fun e w'=> ∃(K':Ghost) (r0:Value) (o0:Int),e= .returned r0∧Q o0∧Ext NX w0 K0 w' K'∧Models w' K'∧(Kd.int .i64).V K' o0 r0):=by
 unfold qcb at h
 have hE0:Ext NX w0 K0 w0 K0:=Ext.refl _ _ _
 refine qaF fun R hR=>?_
 refine qaD (args:=[a0_s_v,(.func (.func 133) #[] #[(.pointer (some ⟨a1_f_0_b,a1_f_0_pre.length,none⟩)),(.pointer (some ⟨a1_f_1_b,a1_f_1_pre.length,none⟩))])]) Try.func144 rfl (Nat.le_of_ble_eq_true rfl) ?_
 refine qaf ?_
 refine qac ?_
 refine qaa (.int .i64 0) (R_as rfl) rfl rfl ?_
 refine qak ?_
 refine qaf ?_
 refine qaf ?_
 refine qac ?_
 refine qaa a0_s_v (R_mv rfl) rfl rfl ?_
 refine qaa (.int .i64 (a0_s.length:Int)) (qdZ rfl h_a0_s Try.underlying36) rfl rfl ?_
 refine qaa (.int .i64 0) (R_mv rfl) rfl rfl ?_
 refine qak ?_
 refine qbi ?_
 obtain ⟨I4,μ4,h0,h⟩:=h
 refine qdi (ι:=Int×Int) [4,5,8,9,10,11,12,13,14,15,16,17,18] (fun s l w=> ∃K,I4 s.1 s.2∧l=[(4,(.int .i64 s.1)),(8,(.int .i64 s.2))]∧Ext NX w0 K0 w K∧Models w K∧(Kd.int .i64).wf s.1∧(Kd.int .i64).wf s.2) (fun s=>μ4 s.1 s.2) (0,0) [(4,(.int .i64 0)),(8,(.int .i64 0))]
  ⟨K0,h0,rfl,Ext.refl _ _ _,hM0,(show (Kd.int .i64).wf 0 from by constructor<;>decide),(show (Kd.int .i64).wf 0 from by constructor<;>decide)⟩ (by repeat (first | exact trivial | refine ⟨rfl,?_⟩)) ?_
 rintro ⟨i4,i4'⟩ l σ4 w5 ⟨K5,hI,rfl,hX5,hM5,hw4_4,hw4_8⟩
 dsimp only at hI hw4_4 hw4_8
 have hE5:=hE0.andN hX5
 have h:=h i4 i4' hI hw4_4 hw4_8
 refine qaf ?_
 refine qac ?_
 refine qaa (.bool (decide (i4'<(a0_s.length:Int)))) (qg2 rfl rfl) rfl rfl ?_
 refine qak ?_
 refine qaf ?_
 refine qay (decide (i4'<(a0_s.length:Int))) rfl (fun hc6=>?_) (fun hc6=>?_)
 ·have hd6:i4'<(a0_s.length:Int):=qeX hc6
  have h:=h.1 hd6
  refine qaO ?_
  refine qaf ?_
  refine qbi ?_
  refine qaf ?_
  refine qac ?_
  refine qaa (.int .i64 i4') (R_mv rfl) rfl rfl ?_
  refine qaa (.int .i64 i4') (R_as rfl) rfl rfl ?_
  refine qak ?_
  refine qaf ?_
  refine qac ?_
  refine qaa (.func (.func 133) #[] #[(.pointer (some ⟨a1_f_0_b,a1_f_0_pre.length,none⟩)),(.pointer (some ⟨a1_f_1_b,a1_f_1_pre.length,none⟩))]) (R_mv rfl) rfl rfl ?_
  refine qaa a0_s_v (R_mv rfl) rfl rfl ?_
  refine qaa (.int .i64 i4') (R_mv rfl) rfl rfl ?_
  obtain ⟨hp8,h⟩:=h
  refine WL_P (qeV rfl (h_a0_s.mono hX5.le) rfl Try.underlying36 qdb hp8.1 hp8.2) rfl rfl ?_
  rintro b7 o7 hP7
  refine WL_L hM5 (S_ld rfl qdb hP7) rfl rfl ?_
  rintro v10 (hV10:qae.V _ (ix a0_s i4') _)
  have hR12:=(h_a1_f_0_B.extN hX5)
  have hR13:=(h_a1_f_1_B.extN hX5)
  refine qaz rfl rfl (qa0 (qmd rfl Try.call133 rfl) ((qpg hM5 hV10 hR12 hR13 hsp2_3).mono ?_))
  rintro _ w14 ⟨K14,v14_0,rfl,hS14,hM14,hV14_0⟩
  refine ⟨v14_0,rfl,?_⟩
  have hE14:=hE5.andN hS14
  obtain rfl:=qbP hV14_0
  refine qak ?_
  refine qay (decide ((ix a0_s i4').1=a1_f_0∧(ix a0_s i4').2=a1_f_1)) rfl (fun hc15=>?_) (fun hc15=>?_)
  ·have hd15:(ix a0_s i4').1=a1_f_0∧(ix a0_s i4').2=a1_f_1:=qeX hc15
   have h:=h.1 hd15
   refine qaf ?_
   refine qac ?_
   refine qaa (.int .i64 i4') (R_mv rfl) rfl rfl ?_
   refine qaa (.int .i64 i4') (R_as rfl) rfl rfl ?_
   refine qak ?_
   refine qbm ?_
   exact qaN hR (v:=(.int .i64 i4')) (qcv rfl rfl) ⟨K14,(.int .i64 i4'),i4',rfl,h,hE14,hM14,(qe0 hw4_8)⟩
  ·have hd15: ¬((ix a0_s i4').1=a1_f_0∧(ix a0_s i4').2=a1_f_1):=qeW hc15
   have h:=h.2 hd15
   refine qaO ?_
   refine qac ?_
   refine qaa (.int .i64 (i4'+1)) (qk2 rfl rfl hw4_8 hd6 (qbv (h_a0_s).wf.1)) rfl rfl ?_
   refine qaa (.int .i64 (i4'+1)) (R_mv rfl) rfl rfl ?_
   refine qak ?_
   refine qfj.mk (i4,(i4'+1)) [(4,(.int .i64 i4)),(8,(.int .i64 (i4'+1)))] ?_ ?_ ?_ ?_
   rotate_left
   ·exact h.2
   ·repeat (first | exact Off.lay0 rfl | refine Off.updO ?_ rfl _ | refine Off.updN ?_ _ | refine Off.lay ?_ rfl)
   ·repeat (first | exact trivial | refine ⟨rfl,?_⟩)
   exact ⟨K14,h.1,rfl,(((Ext.refl _ _ _).andN hX5).andN hS14),hM14,hw4_4,(qgA hw4_8 hd6 (qbv (h_a0_s).wf.1))⟩
 ·have hd6: ¬(i4'<(a0_s.length:Int)):=qeW hc6
  have h:=h.2 hd6
  refine qcX ?_
  refine qaf ?_
  refine qac ?_
  refine qaa (.int .i64 (-1)) (R_as rfl) rfl rfl ?_
  refine qak ?_
  refine qbm ?_
  exact qaN hR (v:=(.int .i64 (-1))) (qcv rfl rfl) ⟨K5,(.int .i64 (-1)),(-1),rfl,h,hE5,hM5,(qe0 (show (Kd.int .i64).wf (-1) from by constructor<;>decide))⟩
theorem qiL {w0:World} {K0:Ghost} {a0_s_v:Value} {a0_s:(List ((List UInt8)×(List UInt8)))} {a1_f_0_b:Nat} {a1_f_0_pre a1_f_0_post:List Value} {a1_f_0:(List UInt8)} {a1_f_1_b:Nat} {a1_f_1_pre a1_f_1_post:List Value} {a1_f_1:(List UInt8)} (hM0:Models w0 K0) (h_a0_s:qau.V K0 a0_s a0_s_v) (h_a1_f_0_B:Bx qab w0 K0 a1_f_0_b a1_f_0_pre a1_f_0_post a1_f_0) (h_a1_f_1_B:Bx qai w0 K0 a1_f_1_b a1_f_1_pre a1_f_1_post a1_f_1) (hsp2_3: ¬(a1_f_0_b=a1_f_1_b)):Calls Try.prog 144 #[a0_s_v,(.func (.func 133) #[] #[(.pointer (some ⟨a1_f_0_b,a1_f_0_pre.length,none⟩)),(.pointer (some ⟨a1_f_1_b,a1_f_1_pre.length,none⟩))])] w0 (fun e w'=> ∃(K':Ghost) (r0:Value),e= .returned r0∧Ext NX w0 K0 w' K'∧Models w' K'∧(Kd.int .i64).V K' (qbc a1_f_0 a1_f_1 a0_s 0) r0):=by
 refine (qf5 hM0 h_a0_s h_a1_f_0_B h_a1_f_1_B hsp2_3 (qhQ h_a0_s.wf)).mono ?_
 rintro _ w' ⟨K',r0,o0,rfl,rfl,hF⟩
 exact ⟨K',r0,rfl,hF⟩
def qei (a0_s:(List ((List UInt8)×(List UInt8)))) (a1_f_0:(List UInt8)) (a1_f_1:(List UInt8)) (Q:Bool→Prop):Prop:=
 ((Kd.int .i64).wf (qbc a1_f_0 a1_f_1 a0_s 0))→(Q (decide (0≤(qbc a1_f_0 a1_f_1 a0_s 0))))
theorem qkS {a0_s:(List ((List UInt8)×(List UInt8)))} {a1_f_0:(List UInt8)} {a1_f_1:(List UInt8)} (w_0:qau.wf a0_s):qei a0_s a1_f_0 a1_f_1 (fun o0=>o0=decide (0≤qbc a1_f_0 a1_f_1 a0_s 0)):=by
 exact fun _=>rfl
theorem qhP {w0:World} {K0:Ghost} {a0_s_v:Value} {a0_s:(List ((List UInt8)×(List UInt8)))} {a1_f_0_b:Nat} {a1_f_0_pre a1_f_0_post:List Value} {a1_f_0:(List UInt8)} {a1_f_1_b:Nat} {a1_f_1_pre a1_f_1_post:List Value} {a1_f_1:(List UInt8)} {Q:Bool→Prop} (hM0:Models w0 K0) (h_a0_s:qau.V K0 a0_s a0_s_v) (h_a1_f_0_B:Bx qab w0 K0 a1_f_0_b a1_f_0_pre a1_f_0_post a1_f_0) (h_a1_f_1_B:Bx qai w0 K0 a1_f_1_b a1_f_1_pre a1_f_1_post a1_f_1) (hsp2_3: ¬(a1_f_0_b=a1_f_1_b)) (h:qei a0_s a1_f_0 a1_f_1 Q):Calls Try.prog 132 #[a0_s_v,(.func (.func 133) #[] #[(.pointer (some ⟨a1_f_0_b,a1_f_0_pre.length,none⟩)),(.pointer (some ⟨a1_f_1_b,a1_f_1_pre.length,none⟩))])] w0 (fun e w'=> ∃(K':Ghost) (r0:Value) (o0:Bool),e= .returned r0∧Q o0∧Ext NX w0 K0 w' K'∧Models w' K'∧Kd.bool.V K' o0 r0):=by
 unfold qei at h
 have hE0:Ext NX w0 K0 w0 K0:=Ext.refl _ _ _
 refine qaF fun R hR=>?_
 refine qaD (args:=[a0_s_v,(.func (.func 133) #[] #[(.pointer (some ⟨a1_f_0_b,a1_f_0_pre.length,none⟩)),(.pointer (some ⟨a1_f_1_b,a1_f_1_pre.length,none⟩))])]) Try.func132 rfl (Nat.le_of_ble_eq_true rfl) ?_
 refine qaf ?_
 refine qac ?_
 refine qaa (.bool false) (R_as rfl) rfl rfl ?_
 refine qak ?_
 refine qaf ?_
 refine qac ?_
 refine qaa a0_s_v (R_mv rfl) rfl rfl ?_
 refine qaa (.func (.func 133) #[] #[(.pointer (some ⟨a1_f_0_b,a1_f_0_pre.length,none⟩)),(.pointer (some ⟨a1_f_1_b,a1_f_1_pre.length,none⟩))]) (R_mv rfl) rfl rfl ?_
 refine qaz rfl rfl (qa0 (qbE Try.call144 rfl) ((qiL hM0 h_a0_s h_a1_f_0_B h_a1_f_1_B hsp2_3).mono ?_))
 rintro _ w4 ⟨K4,v4_0,rfl,hS4,hM4,hV4_0⟩
 refine ⟨v4_0,rfl,?_⟩
 have hE4:=hE0.andN hS4
 obtain rfl:=qbk hV4_0
 have h:=h hV4_0.wf
 refine qaa (.bool (decide (0≤(qbc a1_f_0 a1_f_1 a0_s 0)))) (qsB rfl rfl) rfl rfl ?_
 refine qaa (.bool (decide (0≤(qbc a1_f_0 a1_f_1 a0_s 0)))) (R_as rfl) rfl rfl ?_
 refine qak ?_
 refine qbm ?_
 exact qaN hR (v:=(.bool (decide (0≤(qbc a1_f_0 a1_f_1 a0_s 0))))) (qcv rfl rfl) ⟨K4,(.bool (decide (0≤(qbc a1_f_0 a1_f_1 a0_s 0)))),(decide (0≤(qbc a1_f_0 a1_f_1 a0_s 0))),rfl,h,hE4,hM4,qcp⟩
theorem qlW {w0:World} {K0:Ghost} {a0_s_v:Value} {a0_s:(List ((List UInt8)×(List UInt8)))} {a1_f_0_b:Nat} {a1_f_0_pre a1_f_0_post:List Value} {a1_f_0:(List UInt8)} {a1_f_1_b:Nat} {a1_f_1_pre a1_f_1_post:List Value} {a1_f_1:(List UInt8)} (hM0:Models w0 K0) (h_a0_s:qau.V K0 a0_s a0_s_v) (h_a1_f_0_B:Bx qab w0 K0 a1_f_0_b a1_f_0_pre a1_f_0_post a1_f_0) (h_a1_f_1_B:Bx qai w0 K0 a1_f_1_b a1_f_1_pre a1_f_1_post a1_f_1) (hsp2_3: ¬(a1_f_0_b=a1_f_1_b)):Calls Try.prog 132 #[a0_s_v,(.func (.func 133) #[] #[(.pointer (some ⟨a1_f_0_b,a1_f_0_pre.length,none⟩)),(.pointer (some ⟨a1_f_1_b,a1_f_1_pre.length,none⟩))])] w0 (fun e w'=> ∃(K':Ghost) (r0:Value),e= .returned r0∧Ext NX w0 K0 w' K'∧Models w' K'∧Kd.bool.V K' (decide (0≤qbc a1_f_0 a1_f_1 a0_s 0)) r0):=by
 refine (qhP hM0 h_a0_s h_a1_f_0_B h_a1_f_1_B hsp2_3 (qkS h_a0_s.wf)).mono ?_
 rintro _ w' ⟨K',r0,o0,rfl,rfl,hF⟩
 exact ⟨K',r0,rfl,hF⟩
abbrev qal:Kd (Value×Value):=(Kd.pr Kd.rsl Kd.rmp)
theorem qeg:TyOk Try.prog 37 Kd.rmp 8:=⟨⟨Try.t37,_,Try.type37,rfl,rfl,rfl,rfl,rfl⟩,⟨_,Try.underlying37,rfl⟩⟩
theorem qdC:TyOk Try.prog 36 Kd.rsl 24:=⟨⟨Try.t36,_,Try.type36,rfl,rfl,rfl,rfl,rfl⟩,⟨_,Try.underlying36,rfl⟩⟩
def qkl (a0_n_0:(List ((List UInt8)×(List UInt8)))) (a0_n_1:(List ((List UInt8)×Int))) (a1_s:(List UInt8)) (a2_b:(List UInt8)) (Q:Bool→Prop):Prop:=
 ((¬(((mfind a1_s a0_n_1).isSome)=true))→Q false)∧((((mfind a1_s a0_n_1).isSome)=true)→(0≤((mfind a1_s a0_n_1).getD 0)∧((mfind a1_s a0_n_1).getD 0)≤(a0_n_0.length:Int))∧(Q (decide (0≤qbc a1_s a2_b (a0_n_0.drop ((mfind a1_s a0_n_1).getD 0).toNat) 0))))
theorem qto {a0_n_0:(List ((List UInt8)×(List UInt8)))} {a0_n_1:(List ((List UInt8)×Int))} {a1_s:(List UInt8)} {a2_b:(List UInt8)} (w_0:qab.wf a1_s) (w_1:qai.wf a2_b) (hp:qaW a0_n_0 a0_n_1):qkl a0_n_0 a0_n_1 a1_s a2_b (fun o0=>o0=decide ((a1_s,a2_b)∈a0_n_0)):=by
 unfold qkl
 rw [hp a1_s]
 refine ⟨fun h=>?_,fun h=>?_⟩
 ·have hn:qan a1_s a0_n_0 0=none:=by
   cases hf:qan a1_s a0_n_0 0 with
   | none=>rfl
   | some a=>rw [hf] at h;exact absurd rfl h
  have:=qc1 hn a2_b
  simp [this]
 ·cases hf:qan a1_s a0_n_0 0 with
  | none=>rw [hf] at h;cases h
  | some a=>
    obtain ⟨j,rfl,hl,hm⟩:=qcd hf
    simp only [Option.getD_some,Int.zero_add,Int.toNat_natCast]
    refine ⟨⟨by omega,by omega⟩,?_⟩
    rw [decide_eq_decide,qil _ _ (Int.le_refl _)]
    exact (hm a2_b).symm
theorem qph {w0:World} {K0:Ghost} {a0_n_b:Nat} {a0_n_pre a0_n_post:List Value} {a0_n_0v:Value} {a0_n_0:(List ((List UInt8)×(List UInt8)))} {a0_n_1v:Value} {a0_n_1:(List ((List UInt8)×Int))} {a1_s_v:Value} {a1_s:(List UInt8)} {a2_b_v:Value} {a2_b:(List UInt8)} {Q:Bool→Prop} (hM0:Models w0 K0) (h_a0_n_B:Bx qal w0 K0 a0_n_b a0_n_pre a0_n_post (a0_n_0v,a0_n_1v)) (h_a0_n_0:Own qae 146 w0 K0 a0_n_0 a0_n_0v) (h_a0_n_1:Mp qab (Kd.int .i64) w0 K0 a0_n_1 a0_n_1v) (h_a1_s:qab.V K0 a1_s a1_s_v) (h_a2_b:qai.V K0 a2_b a2_b_v) (h:qkl a0_n_0 a0_n_1 a1_s a2_b Q):Calls Try.prog 120 #[(.pointer (some ⟨a0_n_b,a0_n_pre.length,none⟩)),a1_s_v,a2_b_v] w0 (fun e w'=> ∃(K':Ghost) (r0:Value) (o0:Bool),e= .returned r0∧Q o0∧Ext NX w0 K0 w' K'∧Models w' K'∧Kd.bool.V K' o0 r0):=by
 unfold qkl at h
 have hE0:Ext NX w0 K0 w0 K0:=Ext.refl _ _ _
 refine qaF fun R hR=>?_
 refine qaD (args:=[(.pointer (some ⟨a0_n_b,a0_n_pre.length,none⟩)),a1_s_v,a2_b_v]) Try.func120 rfl (Nat.le_of_ble_eq_true rfl) ?_
 refine qaf ?_
 refine qac ?_
 refine qaz rfl rfl (St_B (qeU hM0 rfl h_a1_s) ?_)
 rintro b6 w6 (hB6:Bx qab _ _ _ _ _ a1_s) hS6 hM6 hge6
 have hE6:=hE0.andN hS6
 refine qaz rfl rfl (St_B (qeU hM6 rfl (h_a2_b.mono hS6.le)) ?_)
 rintro b8 w8 (hB8:Bx qai _ _ _ _ _ a2_b) hS8 hM8 hge8
 have hE8:=hE6.andN hS8
 have hR10:=(h_a0_n_B.extN hS6)
 refine qaa (.bool false) (R_as rfl) rfl rfl ?_
 refine qak ?_
 refine qaf ?_
 refine qbS (K:=K0) NX [.o 0 2,.o 1 2,.o 2 2,.o 3 2,.o 4 2,.o 5 2,.o 6 2,.o 7 2,.o 8 2,.o 9 2,.o 10 2] (by kernel_rfl) (by kernel_rfl) hM8 ?_
 rintro w11 hS11 hM11
 have hE11:=hE8.andN hS11
 refine qag (.pointer (some ⟨a0_n_b,a0_n_pre.length,none⟩)) rfl l0 hM11 (fun _=>R_mv rfl) rfl (gN rfl) rfl ?_
 refine qag (.pointer (some ⟨a0_n_b,a0_n_pre.length,none⟩)) rfl l0 hM11 (fun _=>qaL rfl) rfl (gN rfl) rfl ?_
 refine qag (.pointer (some ⟨a0_n_b,a0_n_pre.length+1,none⟩)) rfl l0 hM11 (fun _=>R_fa rfl Try.underlying39 rfl rfl qeg rfl) rfl (gN rfl) rfl ?_
 have hR13:=(((h_a0_n_B.extN hS6).extN hS8).extN hS11)
 refine qbG hM11 (qa9 (Foc.snd Kd.rsl Kd.rmp) rfl qeg hR13 (by first | rfl | simp | omega) (fun h=>h)) rfl (gN rfl) rfl ?_
 rintro v12 (hV12:Kd.rmp.V _ a0_n_1v _)
 obtain rfl:=qbL hV12
 have hR15:=((hB6.extN hS8).extN hS11)
 refine qbG hM11 (qa9 (Foc.id _) rfl ty24 hR15 (by first | rfl | simp | omega) (fun h=>h)) rfl (gN rfl) rfl ?_
 rintro v14 (hV14:qab.V _ a1_s _)
 have hR18:=(((h_a0_n_1.extN hS6).extN hS8).extN hS11)
 refine qj0 hM11 (qml (kv:=(Kd.int .i64)) rfl rfl hR18 hV14 Try.underlying37 (qcq Try.underlying24 Try.underlying5 ty5b) ty3 (fun _ _ h=>h)) rfl (gN rfl) rfl ?_
 rintro v17 (hV17:(Kd.int .i64).V _ ((mfind a1_s a0_n_1).getD 0) _)
 obtain rfl:=qbk hV17
 refine qag (.tuple #[(.int .i64 ((mfind a1_s a0_n_1).getD 0)),(.bool ((mfind a1_s a0_n_1).isSome))]) rfl l0 hM11 (fun _=>R_mv rfl) rfl (gN rfl) rfl ?_
 refine qag (.int .i64 ((mfind a1_s a0_n_1).getD 0)) rfl l0 hM11 (fun _=>qg1 rfl rfl) rfl (gN rfl) rfl ?_
 refine qag (.bool ((mfind a1_s a0_n_1).isSome)) rfl l0 hM11 (fun _=>qg1 rfl rfl) rfl (gN rfl) rfl ?_
 refine qag (.int .i64 ((mfind a1_s a0_n_1).getD 0)) rfl l0 hM11 (fun _=>R_as rfl) rfl (gN rfl) rfl ?_
 refine qag (.bool ((mfind a1_s a0_n_1).isSome)) rfl l0 hM11 (fun _=>R_as rfl) rfl (gN rfl) rfl ?_
 refine qcQ ?_
 refine qaf ?_
 refine qaf ?_
 refine qac ?_
 refine qaa (.bool ((mfind a1_s a0_n_1).isSome)) (R_mv rfl) rfl rfl ?_
 refine qaa (.bool (!((mfind a1_s a0_n_1).isSome))) (qhV rfl) rfl rfl ?_
 refine qak ?_
 refine qay (!((mfind a1_s a0_n_1).isSome)) rfl (fun hc19=>?_) (fun hc19=>?_)
 ·have hd19: ¬(((mfind a1_s a0_n_1).isSome)=true):=qrD hc19
  have h:=h.1 hd19
  refine qaf ?_
  refine qac ?_
  refine qaa (.bool false) (R_as rfl) rfl rfl ?_
  refine qak ?_
  refine qbm ?_
  exact qaN hR (v:=(.bool false)) (qcv rfl rfl) ⟨K0,(.bool false),false,rfl,h,hE11,hM11,qcp⟩
 ·have hd19:((mfind a1_s a0_n_1).isSome)=true:=qrC hc19
  have h:=h.2 hd19
  refine qaO ?_
  refine qaf ?_
  refine qac ?_
  refine qaa (.pointer (some ⟨a0_n_b,a0_n_pre.length,none⟩)) (R_mv rfl) rfl rfl ?_
  refine qaa (.pointer (some ⟨a0_n_b,a0_n_pre.length,none⟩)) (qaL rfl) rfl rfl ?_
  refine qaa (.pointer (some ⟨a0_n_b,a0_n_pre.length+0,none⟩)) (R_fa rfl Try.underlying39 rfl rfl qdC rfl) rfl rfl ?_
  refine WL_L hM11 (qa9 (Foc.fst Kd.rsl Kd.rmp) rfl qdC hR13 (by first | rfl | simp | omega) (fun h=>h)) rfl rfl ?_
  rintro v20 (hV20:Kd.rsl.V _ a0_n_0v _)
  obtain rfl:=qbL hV20
  refine qaa (.int .i64 ((mfind a1_s a0_n_1).getD 0)) (R_mv rfl) rfl rfl ?_
  obtain ⟨hp22,h⟩:=h
  refine WL_V (qs8 rfl (h_a0_n_0.V.mono (hS6.le.trans (hS8.le.trans hS11.le))) Try.underlying36 qdb rfl hp22.1 hp22.2) rfl rfl ?_
  rintro v21 (hV21:qau.V _ (a0_n_0.drop ((mfind a1_s a0_n_1).getD 0).toNat) _)
  refine qaa (.func (.func 133) #[] #[(.pointer (some ⟨b6,0,none⟩)),(.pointer (some ⟨b8,0,none⟩))]) (qsA rfl) rfl rfl ?_
  have hR25:=(hB8.extN hS11)
  refine qaz rfl rfl (qa0 (qbE Try.call132 rfl) ((qlW hM11 hV21 hR15 hR25 (fun he=>(qcs hge8 hB6.lt) he.symm)).mono ?_))
  rintro _ w24 ⟨K24,v24_0,rfl,hS24,hM24,hV24_0⟩
  refine ⟨v24_0,rfl,?_⟩
  have hE24:=hE11.andN hS24
  obtain rfl:=qbP hV24_0
  refine qaa (.bool (decide (0≤qbc a1_s a2_b (a0_n_0.drop ((mfind a1_s a0_n_1).getD 0).toNat) 0))) (R_as rfl) rfl rfl ?_
  refine qak ?_
  refine qbm ?_
  exact qaN hR (v:=(.bool (decide (0≤qbc a1_s a2_b (a0_n_0.drop ((mfind a1_s a0_n_1).getD 0).toNat) 0)))) (qcv rfl rfl) ⟨K24,(.bool (decide (0≤qbc a1_s a2_b (a0_n_0.drop ((mfind a1_s a0_n_1).getD 0).toNat) 0))),(decide (0≤qbc a1_s a2_b (a0_n_0.drop ((mfind a1_s a0_n_1).getD 0).toNat) 0)),rfl,h,hE24,hM24,qcp⟩
theorem qut {w0:World} {K0:Ghost} {a0_n_b:Nat} {a0_n_pre a0_n_post:List Value} {a0_n_0v:Value} {a0_n_0:(List ((List UInt8)×(List UInt8)))} {a0_n_1v:Value} {a0_n_1:(List ((List UInt8)×Int))} {a1_s_v:Value} {a1_s:(List UInt8)} {a2_b_v:Value} {a2_b:(List UInt8)} (hM0:Models w0 K0) (h_a0_n_B:Bx qal w0 K0 a0_n_b a0_n_pre a0_n_post (a0_n_0v,a0_n_1v)) (h_a0_n_0:Own qae 146 w0 K0 a0_n_0 a0_n_0v) (h_a0_n_1:Mp qab (Kd.int .i64) w0 K0 a0_n_1 a0_n_1v) (h_a1_s:qab.V K0 a1_s a1_s_v) (h_a2_b:qai.V K0 a2_b a2_b_v) (hp:qaW a0_n_0 a0_n_1):Calls Try.prog 120 #[(.pointer (some ⟨a0_n_b,a0_n_pre.length,none⟩)),a1_s_v,a2_b_v] w0 (fun e w'=> ∃(K':Ghost) (r0:Value),e= .returned r0∧Ext NX w0 K0 w' K'∧Models w' K'∧Kd.bool.V K' (decide ((a1_s,a2_b)∈a0_n_0)) r0):=by
 refine (qph hM0 h_a0_n_B h_a0_n_0 h_a0_n_1 h_a1_s h_a2_b (qto h_a1_s.wf h_a2_b.wf hp)).mono ?_
 rintro _ w' ⟨K',r0,o0,rfl,rfl,hF⟩
 exact ⟨K',r0,rfl,hF⟩
theorem qtn {w0:World} {K0:Ghost} {a0_n_b:Nat} {a0_n_pre a0_n_post:List Value} {a0_n_0v:Value} {a0_n_0:(List ((List UInt8)×(List UInt8)))} {a0_n_1v:Value} {a0_n_1:(List ((List UInt8)×Int))} {a1_s_v:Value} {a1_s:(List UInt8)} {a2_b_v:Value} {a2_b:(List UInt8)} (hM0:Models w0 K0) (h_a0_n_B:Bx qal w0 K0 a0_n_b a0_n_pre a0_n_post (a0_n_0v,a0_n_1v)) (h_a0_n_0:Own qae 146 w0 K0 a0_n_0 a0_n_0v) (h_a0_n_1:Mp qab (Kd.int .i64) w0 K0 a0_n_1 a0_n_1v) (h_a1_s:qab.V K0 a1_s a1_s_v) {D2:Nat→Prop} (h_a2_b:Rd qai D2 w0 K0 a2_b a2_b_v) (hD2: ∀g,(g=a0_n_b∨ob a0_n_0v=some g∨mb a0_n_1v=some g)→¬D2 g) (hp:qaW a0_n_0 a0_n_1):Calls Try.prog 120 #[(.pointer (some ⟨a0_n_b,a0_n_pre.length,none⟩)),a1_s_v,a2_b_v] w0 (fun e w'=> ∃(K':Ghost) (r0:Value),e= .returned r0∧Ext NX w0 K0 w' K'∧Models w' K'∧Kd.bool.V K' (decide ((a1_s,a2_b)∈a0_n_0)) r0):=by
 obtain ⟨K1,hM1,hEx,hV,back⟩:=h_a2_b.use
 refine (qut hM1 (h_a0_n_B.ext hEx (hD2 _ (.inl rfl))) (h_a0_n_0.ext hEx fun g hg=>hD2 g (.inr (.inl hg))) (h_a0_n_1.ext hEx fun g hg=>hD2 g (.inr (.inr hg))) (h_a1_s.mono hEx.le) hV hp).mono ?_
 rintro _ w' ⟨K',r0,rfl,hE,hM,hb⟩
 obtain ⟨K2,hE2,hM2,_⟩:=back w' K' hE hM
 obtain rfl:=qbP hb
 exact ⟨K2,_,rfl,hE2,hM2,qcp⟩
theorem qus {fs:Array Field} (h:Try.prog.underlying 146=some (.struct fs)): ∀f∈fs.toList,∃i,Try.prog.info? f.type=some i:=by
 have h2:=(Try.underlying146).symm.trans h
 cases h2
 intro f hf
 simp only [List.mem_cons,List.not_mem_nil,or_false] at hf
 rcases hf with rfl | rfl
 ·exact ⟨_,Try.type24⟩
 ·exact ⟨_,Try.type32⟩
def qj4 (a0_n_0:(List ((List UInt8)×(List UInt8)))) (a0_n_1:(List ((List UInt8)×Int))) (a1_s:(List UInt8)) (a2_b:(List UInt8)) (Q:(List ((List UInt8)×(List UInt8)))→(List ((List UInt8)×Int))→Prop):Prop:=
 (qaW a0_n_0 a0_n_1)∧((((a1_s,a2_b)∈a0_n_0)→Q a0_n_0 a0_n_1)∧((¬((a1_s,a2_b)∈a0_n_0))→∀(r21:Bool),(r21=true→a0_n_1=[])→(∃(J23:(List ((List UInt8)×Int))→Prop),(((r21=true)→J23 ([]:List ((List UInt8)×Int)))∧((r21=false)→J23 a0_n_1))∧∀(y23:(List ((List UInt8)×Int))),J23 y23→(∃(J42:(List ((List UInt8)×Int))→Prop),(((¬(((mfind a1_s y23).isSome)=true))→J42 (mset a1_s (a0_n_0.length:Int) y23))∧((((mfind a1_s y23).isSome)=true)→J42 y23))∧∀(y42:(List ((List UInt8)×Int))),J42 y42→((a2_b.length≤140737488355328)∧((qai.wf a2_b)→(((a0_n_0.length+ [(a1_s,a2_b)].length) *56≤140737488355328)∧(Q (a0_n_0++ [(a1_s,a2_b)]) y42))))))))
theorem qtc {a0_n_0:(List ((List UInt8)×(List UInt8)))} {a0_n_1:(List ((List UInt8)×Int))} {a1_s:(List UInt8)} {a2_b:(List UInt8)} (w_0:qab.wf a1_s) (w_1:qai.wf a2_b) (hp:qaW a0_n_0 a0_n_1∧a2_b.length≤140737488355328∧(a0_n_0.length+1) *64≤140737488355328):qj4 a0_n_0 a0_n_1 a1_s a2_b (fun o0 o1=>o0=(addL a0_n_0 a1_s a2_b)∧o1=(addM a0_n_0 a0_n_1 a1_s a2_b)):=by
 obtain ⟨h1,h2,h3⟩:=hp
 have hlen:(a0_n_0.length+ [(a1_s,a2_b)].length) *56≤140737488355328:=by
  simp only [List.length_cons,List.length_nil]
  omega
 unfold qj4
 refine ⟨h1,fun h=>?_,fun h r hr=>?_⟩
 ·have hm:=h
  exact ⟨by simp [addL,hm],by simp [addM,hm]⟩
 ·have hm:=h
  refine ⟨fun m=>m=a0_n_1,⟨fun h=>(hr h).symm,fun _=>rfl⟩,?_⟩
  rintro m rfl
  refine ⟨fun m'=>m'=if (mfind a1_s m).isSome then m else mset a1_s (a0_n_0.length:Int) m,⟨fun h=>by rw [if_neg h],fun h=>by rw [if_pos h]⟩,?_⟩
  rintro m' rfl
  exact ⟨h2,fun _=>⟨hlen,by simp [addL,hm],by simp [addM,hm]⟩⟩
theorem qoQ {w0:World} {K0:Ghost} {a0_n_b:Nat} {a0_n_pre a0_n_post:List Value} {a0_n_0v:Value} {a0_n_0:(List ((List UInt8)×(List UInt8)))} {a0_n_1v:Value} {a0_n_1:(List ((List UInt8)×Int))} {a1_s_v:Value} {a1_s:(List UInt8)} {a2_b_v:Value} {a2_b:(List UInt8)} {Q:(List ((List UInt8)×(List UInt8)))→(List ((List UInt8)×Int))→Prop} (hM0:Models w0 K0) (h_a0_n_B:Bx qal w0 K0 a0_n_b a0_n_pre a0_n_post (a0_n_0v,a0_n_1v)) (h_a0_n_0:Own qae 146 w0 K0 a0_n_0 a0_n_0v) (h_a0_n_1:Mp qab (Kd.int .i64) w0 K0 a0_n_1 a0_n_1v) (h_a1_s:qab.V K0 a1_s a1_s_v) {D2:Nat→Prop} (h_a2_b:Rd qai D2 w0 K0 a2_b a2_b_v) (hD2: ∀g,(g=a0_n_b∨ob a0_n_0v=some g∨mb a0_n_1v=some g)→¬D2 g) (h:qj4 a0_n_0 a0_n_1 a1_s a2_b Q):Calls Try.prog 86 #[(.pointer (some ⟨a0_n_b,a0_n_pre.length,none⟩)),a1_s_v,a2_b_v] w0 (fun e w'=> ∃(K':Ghost) (u0_0:Value) (u0_1:Value) (o0:(List ((List UInt8)×(List UInt8)))) (o1:(List ((List UInt8)×Int))),e= .returned (.tuple #[])∧Q o0 o1∧Ext (fun c=>c=a0_n_b∨ob a0_n_0v=some c∨mb a0_n_1v=some c) w0 K0 w' K'∧Models w' K'∧Bx qal w' K' a0_n_b a0_n_pre a0_n_post (u0_0,u0_1)∧Own qae 146 w' K' o0 u0_0∧(∀g,ob u0_0=some g→ob a0_n_0v=some g∨w0.heap.size≤g)∧Mp qab (Kd.int .i64) w' K' o1 u0_1∧(∀g,mb u0_1=some g→mb a0_n_1v=some g∨w0.heap.size≤g)):=by
 unfold qj4 at h
 have hE0:Ext (fun c=>c=a0_n_b∨ob a0_n_0v=some c∨mb a0_n_1v=some c) w0 K0 w0 K0:=Ext.refl _ _ _
 refine qaF fun R hR=>?_
 refine qaD (args:=[(.pointer (some ⟨a0_n_b,a0_n_pre.length,none⟩)),a1_s_v,a2_b_v]) Try.func86 rfl (Nat.le_of_ble_eq_true rfl) ?_
 refine qaf ?_
 refine qac ?_
 refine qaz rfl rfl (St_B (qeU hM0 rfl h_a1_s) ?_)
 rintro b6 w6 (hB6:Bx qab _ _ _ _ _ a1_s) hS6 hM6 hge6
 have hE6:=hE0.andN hS6
 refine qak ?_
 refine qaf ?_
 refine qaf ?_
 refine qac ?_
 refine qaa (.pointer (some ⟨a0_n_b,a0_n_pre.length,none⟩)) (R_mv rfl) rfl rfl ?_
 refine WL_L hM6 (qa9 (Foc.id _) rfl ty24 hB6 (by first | rfl | simp | omega) (fun h=>h)) rfl rfl ?_
 rintro v8 (hV8:qab.V _ a1_s _)
 refine qaa a2_b_v (R_mv rfl) rfl rfl ?_
 have hR10:=(h_a0_n_0.extN hS6)
 have hR11:=(h_a0_n_1.extN hS6)
 have hR12:=(h_a0_n_B.extN hS6)
 obtain ⟨hp14,h⟩:=h
 refine qaz rfl rfl (qa0 (qbE Try.call120 rfl) ((qtn hM6 hR12 hR10 hR11 hV8 (h_a2_b.ext hE6 hM6 hD2) hD2 hp14).mono ?_))
 rintro _ w13 ⟨K13,v13_0,rfl,hS13,hM13,hV13_0⟩
 refine ⟨v13_0,rfl,?_⟩
 have hE13:=hE6.andN hS13
 obtain rfl:=qbP hV13_0
 refine qak ?_
 refine qay (decide ((a1_s,a2_b)∈a0_n_0)) rfl (fun hc15=>?_) (fun hc15=>?_)
 ·have hd15:(a1_s,a2_b)∈a0_n_0:=qeX hc15
  have h:=h.1 hd15
  refine qbm ?_
  have hR16:=(hR10.extN hS13)
  have hR17:=(hR11.extN hS13)
  have hR18:=(hR12.extN hS13)
  exact qaN hR (v:=(.tuple #[])) (qkA rfl) ⟨K13,a0_n_0v,a0_n_1v,a0_n_0,a0_n_1,rfl,h,hE13,hM13,hR18,hR16,(fun g hg=>(.inl hg)),hR17,(fun g hg=>(.inl hg))⟩
 ·have hd15: ¬((a1_s,a2_b)∈a0_n_0):=qeW hc15
  have h:=h.2 hd15
  refine qaO ?_
  refine qaf ?_
  refine qaf ?_
  refine qac ?_
  refine qaa (.pointer (some ⟨a0_n_b,a0_n_pre.length,none⟩)) (R_mv rfl) rfl rfl ?_
  refine qaa (.pointer (some ⟨a0_n_b,a0_n_pre.length,none⟩)) (qaL rfl) rfl rfl ?_
  refine qaa (.pointer (some ⟨a0_n_b,a0_n_pre.length+1,none⟩)) (R_fa rfl Try.underlying39 rfl rfl qeg rfl) rfl rfl ?_
  have hR20:=(hR12.extN hS13)
  refine WL_L hM13 (qa9 (Foc.snd Kd.rsl Kd.rmp) rfl qeg hR20 (by first | rfl | simp | omega) (fun h=>h)) rfl rfl ?_
  rintro v19 (hV19:Kd.rmp.V _ a0_n_1v _)
  obtain rfl:=qbL hV19
  have hR22:=(hR11.extN hS13)
  refine quk (qp9 rfl rfl hR22 Try.underlying37) rfl rfl ?_
  rintro r21 ⟨hn21,hnn21⟩
  have h:=h r21 (fun hx=>(hn21 hx).2)
  refine qak ?_
  obtain ⟨J23,h,hJ23⟩:=h
  refine qmr [17,18,19,20] (fun l w=> ∃y23 K z1_1,J23 y23∧l=[]∧Ext (fun c=>mb a0_n_1v=some c∨c=a0_n_b) w13 K13 w K∧Models w K∧Mp qab (Kd.int .i64) w K y23 (.map (some z1_1))∧(∀g,mb (.map (some z1_1))=some g→mb a0_n_1v=some g∨w13.heap.size≤g)∧Bx qal w K a0_n_b a0_n_pre a0_n_post (a0_n_0v,(.map (some z1_1)))) ?_ ?_
  ·skip
   refine qay r21 rfl (fun hc24=>?_) (fun hc24=>?_)
   ·have hd24:r21=true:=hc24
    have h:=h.1 hd24
    refine qac ?_
    refine qaa (.pointer (some ⟨a0_n_b,a0_n_pre.length,none⟩)) (R_mv rfl) rfl rfl ?_
    refine qaz rfl rfl (qui (qs4 (kk:=qab) (kv:=(Kd.int .i64)) hM13) ?_)
    rintro b25 w25 hO25 hS25 hM25 hge25
    have hf25: ∀g,mb (.map (some b25))=some g→w0.heap.size≤g:=fun g hg=>by cases hg;exact Nat.le_trans hE13.size hge25
    have hE25:=hE13.andN hS25
    have hs27: ∀g,mb (.map (some b25))=some g→¬(mb a0_n_1v=some g):=fun g hg hx=>by cases hg;exact absurd (hR22.lt _ hx) (Nat.not_lt.2 hge25)
    refine qaa (.pointer (some ⟨a0_n_b,a0_n_pre.length,none⟩)) (qaL rfl) rfl rfl ?_
    refine qaa (.pointer (some ⟨a0_n_b,a0_n_pre.length+1,none⟩)) (R_fa rfl Try.underlying39 rfl rfl qeg rfl) rfl rfl ?_
    have hR29:=(hR20.extN hS25)
    refine qaz rfl rfl (qg5 (qg3 (Foc.snd Kd.rsl Kd.rmp) hM25 rfl rfl (rw_V hO25.one) qeg hR29 (by first | rfl | simp | omega)) ?_)
    rintro w28 (hB28:Bx qal _ _ a0_n_b a0_n_pre a0_n_post (a0_n_0v,(.map (some b25)))) hS28 hM28
    have hE28:=hE25.comp hS28 (fun c hx hlt=>(by subst hx;exact (fun _=>(.inl rfl)) hlt))
    refine qak ?_
    have hR30:=(hO25.ext hS28 (fun g hg hx=>(fun g hg hx=>hO25.box hR29 (hg.trans (congrArg some hx))) g hg hx))
    exact qiM.mk [] ⟨([]:List ((List UInt8)×Int)),K13,b25,h,rfl,(((Ext.refl _ _ _).andN hS25).comp hS28 (fun c hx hlt=>(.inr (hx)))),hM28,hR30,(fun g hg=> .inr ((fun g hg=>by cases hg;exact hge25) g hg)),hB28⟩ (by repeat (first | exact Off.lay0 rfl | exact Off.refl _ _ | refine Off.updO ?_ rfl _ | refine Off.updN ?_ _ | refine Off.lay ?_ rfl)) (by repeat (first | exact trivial | refine ⟨rfl,?_⟩))
   ·have hd24:r21=false:=hc24
    have h:=h.2 hd24
    obtain ⟨b24,hv24⟩:=hnn21 hd24
    subst hv24
    refine qaO ?_
    exact qiM.mk [] ⟨a0_n_1,K13,b24,h,rfl,(Ext.refl _ _ _),hM13,hR22,(fun g hg=>(.inl hg)),hR20⟩ (by repeat (first | exact Off.lay0 rfl | exact Off.refl _ _ | refine Off.updO ?_ rfl _ | refine Off.updN ?_ _ | refine Off.lay ?_ rfl)) (by repeat (first | exact trivial | refine ⟨rfl,?_⟩))
  rintro l σ23 w31 ⟨y23,K31,z1_1_23,hI,rfl,hX31,hM31,hL23_z1_1,ho23_z1_1,hL23_1⟩
  have h:=hJ23 y23 hI
  have hE31:=hE13.comp hX31 (fun c hx hlt=>Or.elim hx (fun hx=>(fun g hg _=>(.inr (.inr (hg)))) c hx hlt) (fun hx=>(by subst hx;exact (fun _=>(.inl rfl)) hlt)))
  have hf32: ∀g,mb (.map (some z1_1_23))=some g→g<w0.heap.size→g=a0_n_b∨ob a0_n_0v=some g∨mb a0_n_1v=some g:=fun g hg hlt=>(ho23_z1_1 g hg).elim (fun hx=>(fun g hg _=>(.inr (.inr (hg)))) g hx hlt) (fun hx=>absurd hlt (Nat.not_lt.2 (Nat.le_trans hE13.size hx)))
  refine qaf ?_
  refine qaf ?_
  refine qbS (K:=K31) NX [.o 0 2,.o 1 2,.o 2 2,.o 3 2,.o 4 2,.o 5 2,.o 6 2,.o 7 2,.o 8 2,.o 9 2,.o 10 2] (by kernel_rfl) (by kernel_rfl) hM31 ?_
  rintro w33 hS33 hM33
  have hE33:=hE31.andN hS33
  refine qag (.pointer (some ⟨a0_n_b,a0_n_pre.length,none⟩)) rfl l0 hM33 (fun _=>R_mv rfl) rfl (gN rfl) rfl ?_
  refine qag (.pointer (some ⟨a0_n_b,a0_n_pre.length,none⟩)) rfl l0 hM33 (fun _=>qaL rfl) rfl (gN rfl) rfl ?_
  refine qag (.pointer (some ⟨a0_n_b,a0_n_pre.length+1,none⟩)) rfl l0 hM33 (fun _=>R_fa rfl Try.underlying39 rfl rfl qeg rfl) rfl (gN rfl) rfl ?_
  have hR35:=(hL23_1.extN hS33)
  refine qbG hM33 (qa9 (Foc.snd Kd.rsl Kd.rmp) rfl qeg hR35 (by first | rfl | simp | omega) (fun h=>h)) rfl (gN rfl) rfl ?_
  rintro v34 (hV34:Kd.rmp.V _ (.map (some z1_1_23)) _)
  obtain rfl:=qbL hV34
  have hR37:=(hB6.extN hS13)
  have hR38:=((hR37.ext hX31 (fun hx=>Or.elim hx (fun hx=>(hR22.box hR37) hx) (fun hx=>(qcs hge6 h_a0_n_B.lt) hx))).extN hS33)
  refine qbG hM33 (qa9 (Foc.id _) rfl ty24 hR38 (by first | rfl | simp | omega) (fun h=>h)) rfl (gN rfl) rfl ?_
  rintro v36 (hV36:qab.V _ a1_s _)
  have hR41:=(hL23_z1_1.extN hS33)
  refine qj0 hM33 (qml (kv:=(Kd.int .i64)) rfl rfl hR41 hV36 Try.underlying37 (qcq Try.underlying24 Try.underlying5 ty5b) ty3 (fun _ _ h=>h)) rfl (gN rfl) rfl ?_
  rintro v40 (hV40:(Kd.int .i64).V _ ((mfind a1_s y23).getD 0) _)
  obtain rfl:=qbk hV40
  refine qag (.tuple #[(.int .i64 ((mfind a1_s y23).getD 0)),(.bool ((mfind a1_s y23).isSome))]) rfl l0 hM33 (fun _=>R_mv rfl) rfl (gN rfl) rfl ?_
  refine qag (.int .i64 ((mfind a1_s y23).getD 0)) rfl l0 hM33 (fun _=>qg1 rfl rfl) rfl (gN rfl) rfl ?_
  refine qag (.bool ((mfind a1_s y23).isSome)) rfl l0 hM33 (fun _=>qg1 rfl rfl) rfl (gN rfl) rfl ?_
  refine qag (.int .i64 ((mfind a1_s y23).getD 0)) rfl l0 hM33 (fun _=>R_as rfl) rfl (gN rfl) rfl ?_
  refine qag (.bool ((mfind a1_s y23).isSome)) rfl l0 hM33 (fun _=>R_as rfl) rfl (gN rfl) rfl ?_
  refine qcQ ?_
  refine qaf ?_
  refine qac ?_
  refine qaa (.bool ((mfind a1_s y23).isSome)) (R_mv rfl) rfl rfl ?_
  refine qaa (.bool (!((mfind a1_s y23).isSome))) (qhV rfl) rfl rfl ?_
  refine qak ?_
  obtain ⟨J42,h,hJ42⟩:=h
  refine qmr [32,33,34,35,36,37,38,39,40,41] (fun l w=> ∃y42 K z1_1,J42 y42∧l=[]∧Ext (fun c=>mb (.map (some z1_1_23))=some c∨c=a0_n_b) w33 K31 w K∧Models w K∧Mp qab (Kd.int .i64) w K y42 (.map (some z1_1))∧(∀g,mb (.map (some z1_1))=some g→mb (.map (some z1_1_23))=some g∨w33.heap.size≤g)∧Bx qal w K a0_n_b a0_n_pre a0_n_post (a0_n_0v,(.map (some z1_1)))) ?_ ?_
  ·skip
   refine qay (!((mfind a1_s y23).isSome)) rfl (fun hc43=>?_) (fun hc43=>?_)
   ·have hd43: ¬(((mfind a1_s y23).isSome)=true):=qrD hc43
    have h:=h.1 hd43
    refine qbS (K:=K31) (fun c=>mb (.map (some z1_1_23))=some c∨w33.heap.size≤c) [.o 0 2,.o 1 2,.o 2 2,.o 3 2,.o 4 2,.o 5 2,.o 6 2,.o 7 2,.o 8 2,.o 9 2,.o 10 1] (by kernel_rfl) (by kernel_rfl) hM33 ?_
    rintro w44 hS44 hM44
    have hE44:=hE33.andN hS44
    refine qag (.pointer (some ⟨a0_n_b,a0_n_pre.length,none⟩)) rfl l0 hM44 (fun _=>R_mv rfl) rfl (gN rfl) rfl ?_
    refine qag (.pointer (some ⟨a0_n_b,a0_n_pre.length,none⟩)) rfl l0 hM44 (fun _=>qaL rfl) rfl (gN rfl) rfl ?_
    refine qag (.pointer (some ⟨a0_n_b,a0_n_pre.length+1,none⟩)) rfl l0 hM44 (fun _=>R_fa rfl Try.underlying39 rfl rfl qeg rfl) rfl (gN rfl) rfl ?_
    have hR46:=(hR35.extN hS44)
    refine qbG hM44 (qa9 (Foc.snd Kd.rsl Kd.rmp) rfl qeg hR46 (by first | rfl | simp | omega) (fun h=>h)) rfl (gN rfl) rfl ?_
    rintro v45 (hV45:Kd.rmp.V _ (.map (some z1_1_23)) _)
    obtain rfl:=qbL hV45
    have hR48:=(hR38.extN hS44)
    refine qbG hM44 (qa9 (Foc.id _) rfl ty24 hR48 (by first | rfl | simp | omega) (fun h=>h)) rfl (gN rfl) rfl ?_
    rintro v47 (hV47:qab.V _ a1_s _)
    refine qag (.pointer (some ⟨a0_n_b,a0_n_pre.length,none⟩)) rfl l0 hM44 (fun _=>R_mv rfl) rfl (gN rfl) rfl ?_
    refine qag (.pointer (some ⟨a0_n_b,a0_n_pre.length,none⟩)) rfl l0 hM44 (fun _=>qaL rfl) rfl (gN rfl) rfl ?_
    refine qag (.pointer (some ⟨a0_n_b,a0_n_pre.length+0,none⟩)) rfl l0 hM44 (fun _=>R_fa rfl Try.underlying39 rfl rfl qdC rfl) rfl (gN rfl) rfl ?_
    refine qbG hM44 (qa9 (Foc.fst Kd.rsl Kd.rmp) rfl qdC hR46 (by first | rfl | simp | omega) (fun h=>h)) rfl (gN rfl) rfl ?_
    rintro v50 (hV50:Kd.rsl.V _ a0_n_0v _)
    obtain rfl:=qbL hV50
    refine qag (.int .i64 (a0_n_0.length:Int)) rfl l0 hM44 (fun _=>qdZ rfl (hR10.V.mono (hS13.le.trans (hX31.le.trans (hS33.le.trans hS44.le)))) Try.underlying36) rfl (gN rfl) rfl ?_
    have hR52:=(hR41.extN hS44)
    refine qgq rfl (gN rfl) rfl (quj (qs5 hM44 rfl rfl rfl hR52 hV47 (qe0 (qbv ((hR10).V).wf.1)) Try.underlying37 (qcq Try.underlying24 Try.underlying5 ty5b)) ?_)
    rintro w51 hO51 hS51 hM51
    have hS51:Ext (fun c=>mb (.map (some z1_1_23))=some c) w44 K31 w51 K31:=hS51.weak (fun c _ hc=>congrArg some hc.symm)
    refine ⟨K31,(hS51.weak (fun c hlt hx=>(.inl (hx)))),hM51,?_⟩
    have hE51:=hE44.comp hS51 (fun c hx hlt=>hf32 c hx hlt)
    refine qcQ ?_
    have hR53:=(hR46.ext hS51 (fun hx=>(hR52.box hR46) hx))
    exact qiM.mk [] ⟨(mset a1_s (a0_n_0.length:Int) y23),K31,z1_1_23,h,rfl,(((Ext.refl _ _ _).andN hS44).comp hS51 (fun c hx hlt=>(.inl (hx)))),hM51,hO51,(fun g hg=>(.inl hg)),hR53⟩ (by repeat (first | exact Off.lay0 rfl | exact Off.refl _ _ | refine Off.updO ?_ rfl _ | refine Off.updN ?_ _ | refine Off.lay ?_ rfl)) (by repeat (first | exact trivial | refine ⟨rfl,?_⟩))
   ·have hd43:((mfind a1_s y23).isSome)=true:=qrC hc43
    have h:=h.2 hd43
    refine qaO ?_
    exact qiM.mk [] ⟨y23,K31,z1_1_23,h,rfl,(Ext.refl _ _ _),hM33,hR41,(fun g hg=>(.inl hg)),hR35⟩ (by repeat (first | exact Off.lay0 rfl | exact Off.refl _ _ | refine Off.updO ?_ rfl _ | refine Off.updN ?_ _ | refine Off.lay ?_ rfl)) (by repeat (first | exact trivial | refine ⟨rfl,?_⟩))
  rintro l σ42 w54 ⟨y42,K54,z1_1_42,hI,rfl,hX54,hM54,hL42_z1_1,ho42_z1_1,hL42_1⟩
  have h:=hJ42 y42 hI
  have hE54:=hE33.comp hX54 (fun c hx hlt=>Or.elim hx (fun hx=>hf32 c hx hlt) (fun hx=>(by subst hx;exact (fun _=>(.inl rfl)) hlt)))
  have hf55: ∀g,mb (.map (some z1_1_42))=some g→g<w0.heap.size→g=a0_n_b∨ob a0_n_0v=some g∨mb a0_n_1v=some g:=fun g hg hlt=>(ho42_z1_1 g hg).elim (fun hx=>hf32 g hx hlt) (fun hx=>absurd hlt (Nat.not_lt.2 (Nat.le_trans hE33.size hx)))
  have hR56:=(hR10.extN hS13)
  have hR57:=((hR56.ext hX31 (fun g hg hx=>Or.elim hx (fun hx=>(fun g hg=>hR22.own hR56 g hg) g hg hx) (fun hx=>(fun g hg hx=>hR56.box hR20 (hg.trans (congrArg some hx))) g hg hx))).extN hS33)
  have hR58:=(hR57.ext hX54 (fun g hg hx=>Or.elim hx (fun hx=>(fun g hg=>hR41.own hR57 g hg) g hg hx) (fun hx=>(fun g hg hx=>hR57.box hR35 (hg.trans (congrArg some hx))) g hg hx)))
  have hR59:=(hR38.ext hX54 (fun hx=>Or.elim hx (fun hx=>(hR41.box hR38) hx) (fun hx=>(qcs hge6 h_a0_n_B.lt) hx)))
  refine qbS (K:=K54) (fun c=>c=a0_n_b∨ob a0_n_0v=some c∨w54.heap.size≤c) [.o 0 3,.o 1 2,.o 2 2,.o 3 2,.o 4 2,.o 5 2,.o 6 2,.o 7 0,.o 8 2,.o 9 0,.o 10 1,.o 11 3,.o 12 3,.o 13 1] (by kernel_rfl) (by kernel_rfl) hM54 ?_
  rintro w60 hS60 hM60
  have hE60:=hE54.andN hS60
  refine qag (.pointer (some ⟨a0_n_b,a0_n_pre.length,none⟩)) rfl l3 hM60 (fun _=>R_mv rfl) rfl (gN rfl) rfl ?_
  refine qag (.pointer (some ⟨a0_n_b,a0_n_pre.length,none⟩)) rfl l0 hM60 (fun _=>R_mv rfl) rfl (gN rfl) rfl ?_
  refine qag (.pointer (some ⟨a0_n_b,a0_n_pre.length,none⟩)) rfl l0 hM60 (fun _=>qaL rfl) rfl (gN rfl) rfl ?_
  refine qag (.pointer (some ⟨a0_n_b,a0_n_pre.length+0,none⟩)) rfl l0 hM60 (fun _=>R_fa rfl Try.underlying39 rfl rfl qdC rfl) rfl (gN rfl) rfl ?_
  have hR62:=(hL42_1.extN hS60)
  refine qbG hM60 (qa9 (Foc.fst Kd.rsl Kd.rmp) rfl qdC hR62 (by first | rfl | simp | omega) (fun h=>h)) rfl (gN rfl) rfl ?_
  rintro v61 (hV61:Kd.rsl.V _ a0_n_0v _)
  obtain rfl:=qbL hV61
  have hR64:=(hR59.extN hS60)
  refine qbG hM60 (qa9 (Foc.id _) rfl ty24 hR64 (by first | rfl | simp | omega) (fun h=>h)) rfl (gN rfl) rfl ?_
  rintro v63 (hV63:qab.V _ a1_s _)
  refine qag a2_b_v rfl l0 hM60 (fun _=>R_mv rfl) rfl (gN rfl) rfl ?_
  have hR66:=(hR58.extN hS60)
  have hR67:=(hL42_z1_1.extN hS60)
  obtain ⟨hp69,h⟩:=h
  refine qeo rfl (gN rfl) rfl (qa0 (qbE Try.call69 rfl) ((qlH hM60 (h_a2_b.ext hE60 hM60 hD2) hp69).mono ?_))
  rintro _ w68 ⟨K68,v68_0,rfl,hS68,hM68,hO68_0,hg68_0⟩
  refine ⟨v68_0,rfl,?_⟩
  refine ⟨K68,hS68,hM68,?_⟩
  have hE68:=hE60.andN hS68
  have h:=h hO68_0.wf
  refine WO_V rfl l0 hM68 (qq9 (K:=K68) (vs:=[(0,v63),(1,v68_0)]) (Z:=(a1_s,a2_b)) qdb rfl Try.underlying146 (qus Try.underlying146) rfl (Parts.cons rfl rfl ty24 (Foc.fst qab qai) (hV63.mono hS68.le) (Parts.cons rfl rfl ty32 (Foc.snd qab qai) hO68_0.V Parts.nil))) rfl (gN rfl) rfl ?_
  rintro v71 (hV71:qae.V _ (a1_s,a2_b) _)
  refine qeo rfl (gN rfl) rfl (qoK (qiY (k:=qae) (l:=[((a1_s,a2_b),v71)]) hM68 rfl (by intro p hp;simp only [List.mem_cons,List.not_mem_nil,or_false] at hp;subst hp;exact hV71) rfl Try.underlying36 qdb rfl rfl) ?_)
  rintro v73 w73 K73 (hO73:Own qae 146 w73 K73 [(a1_s,a2_b)] v73) hS73 hM73 hg73
  refine ⟨K73,hS73,hM73,?_⟩
  have hE73:=hE68.andN hS73
  have hR75:=(hR66.extN hS68)
  have hR76:=((hR66.extN hS68).extN hS73)
  obtain ⟨hp78,h⟩:=h
  refine qgq rfl (gN rfl) rfl (St_S (qq8 hM73 rfl hR76 rfl hO73.V Try.underlying36 qdb rfl hp78) ?_)
  rintro v77 w77 K77 hO77 hS77 hM77 hob77
  refine ⟨K77,(hS77.weak (fun c hlt hx=>(.inr (.inl (hx))))),hM77,?_⟩
  have hE77:=hE73.comp hS77 (fun c hx hlt=>(fun g hg _=>(.inr (.inl hg))) c hx hlt)
  have hR79:=(hO73.ext hS77 (fun g hg hx=>(fun g hg hx=>absurd (hR75.lt _ hx) (Nat.not_lt.2 (hg73 g hg))) g hg hx))
  have hfx77: ∀g,ob v77=some g→g<w0.heap.size→g=a0_n_b∨ob a0_n_0v=some g∨mb a0_n_1v=some g:=fun g hg hlt=>by rcases hob77 with hq | hq<;>rw [hq] at hg;exact (fun g hg _=>(.inr (.inl hg))) g hg hlt;cases hg;exact absurd hlt (Nat.not_lt.2 hE73.size)
  have hs81: ∀g,ob v77=some g→¬(ob v73=some g):=fun g hg hx=>by rcases hob77 with hq | hq<;>rw [hq] at hg;exact (fun g hg hx=>(fun g hg hx=>absurd (hR75.lt _ hx) (Nat.not_lt.2 (hg73 g hg))) g hx hg) g hg hx;cases hg;exact absurd (hO73.lt _ hx) (Nat.not_lt.2 (Nat.le_refl _))
  refine qag (.pointer (some ⟨a0_n_b,a0_n_pre.length,none⟩)) rfl l3 hM77 (fun _=>qaL rfl) rfl (gN rfl) rfl ?_
  refine qag (.pointer (some ⟨a0_n_b,a0_n_pre.length+0,none⟩)) rfl l3 hM77 (fun _=>R_fa rfl Try.underlying39 rfl rfl qdC rfl) rfl (gN rfl) rfl ?_
  have hR83:=((hR62.extN hS68).extN hS73)
  have hR84:=(hR83.ext hS77 (fun hx=>(hR76.box hR83) hx))
  refine qgq rfl (gN rfl) rfl (qg5 (qg3 (Foc.fst Kd.rsl Kd.rmp) hM77 rfl rfl (rw_V hO77.one) qdC hR84 (by first | rfl | simp | omega)) ?_)
  rintro w82 (hB82:Bx qal _ _ a0_n_b a0_n_pre a0_n_post (v77,(.map (some z1_1_42)))) hS82 hM82
  refine ⟨K77,(hS82.weak (fun c hlt hx=>(.inl (hx)))),hM82,?_⟩
  have hE82:=hE77.comp hS82 (fun c hx hlt=>(by subst hx;exact (fun _=>(.inl rfl)) hlt))
  refine qcQ ?_
  have hR85:=(hO77.ext hS82 (fun g hg hx=>(fun g hg hx=>hO77.box hR84 (hg.trans (congrArg some hx))) g hg hx))
  have hR86:=((hR67.extN hS68).extN hS73)
  have hR87:=(hR86.ext hS77 (fun g hg hx=>(fun g hg hx=>hR86.own hR76 g hx hg) g hg hx))
  have hR88:=(hR87.ext hS82 (fun g hg hx=>(fun g hg hx=>hR87.box hR84 (hg.trans (congrArg some hx))) g hg hx))
  exact qhl hR (v:=(.tuple #[])) (qkA rfl) ⟨K77,v77,(.map (some z1_1_42)),(a0_n_0++ [(a1_s,a2_b)]),y42,rfl,h,hE82,hM82,hB82,hR85,(fun g hg=>(by have hg:ob v77=some g:=hg;rcases hob77 with hq | hq<;>rw [hq] at hg;exact (.inl hg);cases hg;exact .inr hE73.size)),hR88,(fun g hg=>((ho42_z1_1 g hg).elim (fun hz=>((ho23_z1_1 g hz).elim (fun hz=>(.inl hz)) (fun hz=> .inr (Nat.le_trans hE13.size hz)))) (fun hz=> .inr (Nat.le_trans hE33.size hz))))⟩
theorem qrc {w0:World} {K0:Ghost} {a0_n_b:Nat} {a0_n_pre a0_n_post:List Value} {a0_n_0v:Value} {a0_n_0:(List ((List UInt8)×(List UInt8)))} {a0_n_1v:Value} {a0_n_1:(List ((List UInt8)×Int))} {a1_s_v:Value} {a1_s:(List UInt8)} {a2_b_v:Value} {a2_b:(List UInt8)} (hM0:Models w0 K0) (h_a0_n_B:Bx qal w0 K0 a0_n_b a0_n_pre a0_n_post (a0_n_0v,a0_n_1v)) (h_a0_n_0:Own qae 146 w0 K0 a0_n_0 a0_n_0v) (h_a0_n_1:Mp qab (Kd.int .i64) w0 K0 a0_n_1 a0_n_1v) (h_a1_s:qab.V K0 a1_s a1_s_v) {D2:Nat→Prop} (h_a2_b:Rd qai D2 w0 K0 a2_b a2_b_v) (hD2: ∀g,(g=a0_n_b∨ob a0_n_0v=some g∨mb a0_n_1v=some g)→¬D2 g) (hp:qaW a0_n_0 a0_n_1∧a2_b.length≤140737488355328∧(a0_n_0.length+1) *64≤140737488355328):Calls Try.prog 86 #[(.pointer (some ⟨a0_n_b,a0_n_pre.length,none⟩)),a1_s_v,a2_b_v] w0 (fun e w'=> ∃(K':Ghost) (u0_0:Value) (u0_1:Value),e= .returned (.tuple #[])∧Ext (fun c=>c=a0_n_b∨ob a0_n_0v=some c∨mb a0_n_1v=some c) w0 K0 w' K'∧Models w' K'∧Bx qal w' K' a0_n_b a0_n_pre a0_n_post (u0_0,u0_1)∧Own qae 146 w' K' (addL a0_n_0 a1_s a2_b) u0_0∧(∀g,ob u0_0=some g→ob a0_n_0v=some g∨w0.heap.size≤g)∧Mp qab (Kd.int .i64) w' K' (addM a0_n_0 a0_n_1 a1_s a2_b) u0_1∧(∀g,mb u0_1=some g→mb a0_n_1v=some g∨w0.heap.size≤g)):=by
 refine (qoQ hM0 h_a0_n_B h_a0_n_0 h_a0_n_1 h_a1_s h_a2_b hD2 (qtc h_a1_s.wf h_a2_b.wf hp)).mono ?_
 rintro _ w' ⟨K',u0,u1,o0,o1,rfl,⟨rfl,rfl⟩,hF⟩
 exact ⟨K',u0,u1,rfl,hF⟩
abbrev qao:Kd ((Value×Value)×Int):=(Kd.pr qal (Kd.int .i64))
def qgS (a0_k_0_0:(List ((List UInt8)×(List UInt8)))) (a0_k_0_1:(List ((List UInt8)×Int))) (a0_k_1:Int) (Q:Int→Prop):Prop:=
 Q a0_k_1
theorem qol {a0_k_0_0:(List ((List UInt8)×(List UInt8)))} {a0_k_0_1:(List ((List UInt8)×Int))} {a0_k_1:Int}:qgS a0_k_0_0 a0_k_0_1 a0_k_1 (fun o0=>o0=a0_k_1):=by
 exact rfl
theorem qkO {w0:World} {K0:Ghost} {a0_k_b:Nat} {a0_k_pre a0_k_post:List Value} {a0_k_0_0v:Value} {a0_k_0_0:(List ((List UInt8)×(List UInt8)))} {a0_k_0_1v:Value} {a0_k_0_1:(List ((List UInt8)×Int))} {a0_k_1:Int} {Q:Int→Prop} (hM0:Models w0 K0) (h_a0_k_B:Bx qao w0 K0 a0_k_b a0_k_pre a0_k_post ((a0_k_0_0v,a0_k_0_1v),a0_k_1)) (h_a0_k_0_0:Own qae 146 w0 K0 a0_k_0_0 a0_k_0_0v) (h_a0_k_0_1:Mp qab (Kd.int .i64) w0 K0 a0_k_0_1 a0_k_0_1v) (h:qgS a0_k_0_0 a0_k_0_1 a0_k_1 Q):Calls Try.prog 99 #[(.pointer (some ⟨a0_k_b,a0_k_pre.length,none⟩))] w0 (fun e w'=> ∃(K':Ghost) (r0:Value) (o0:Int),e= .returned r0∧Q o0∧Ext NX w0 K0 w' K'∧Models w' K'∧(Kd.int .i64).V K' o0 r0):=by
 unfold qgS at h
 have hE0:Ext NX w0 K0 w0 K0:=Ext.refl _ _ _
 refine qaF fun R hR=>?_
 refine qaD (args:=[(.pointer (some ⟨a0_k_b,a0_k_pre.length,none⟩))]) Try.func99 rfl (Nat.le_of_ble_eq_true rfl) ?_
 refine qaf ?_
 refine qac ?_
 refine qaa (.int .i64 0) (R_as rfl) rfl rfl ?_
 refine qak ?_
 refine qaf ?_
 refine qaf ?_
 refine qac ?_
 refine qaa (.pointer (some ⟨a0_k_b,a0_k_pre.length,none⟩)) (R_mv rfl) rfl rfl ?_
 refine qaa (.bool false) (qk3 rfl rfl Try.underlying35) rfl rfl ?_
 refine qak ?_
 refine qay false rfl (fun hc=>by cases hc) (fun _=>?_)
 refine qaO ?_
 refine qaf ?_
 refine qac ?_
 refine qaa (.pointer (some ⟨a0_k_b,a0_k_pre.length,none⟩)) (R_mv rfl) rfl rfl ?_
 refine qaa (.pointer (some ⟨a0_k_b,a0_k_pre.length,none⟩)) (qaL rfl) rfl rfl ?_
 refine qaa (.pointer (some ⟨a0_k_b,a0_k_pre.length+2,none⟩)) (R_fa rfl Try.underlying41 rfl rfl ty3 rfl) rfl rfl ?_
 refine WL_L hM0 (qa9 (Foc.snd qal (Kd.int .i64)) rfl ty3 h_a0_k_B (by first | rfl | simp | omega) (fun h=>h)) rfl rfl ?_
 rintro v4 (hV4:(Kd.int .i64).V _ a0_k_1 _)
 obtain rfl:=qbk hV4
 refine qaa (.int .i64 a0_k_1) (R_as rfl) rfl rfl ?_
 refine qak ?_
 refine qbm ?_
 exact qaN hR (v:=(.int .i64 a0_k_1)) (qcv rfl rfl) ⟨K0,(.int .i64 a0_k_1),a0_k_1,rfl,h,hE0,hM0,(qe0 (hV4).wf)⟩
theorem qqD {w0:World} {K0:Ghost} {a0_k_b:Nat} {a0_k_pre a0_k_post:List Value} {a0_k_0_0v:Value} {a0_k_0_0:(List ((List UInt8)×(List UInt8)))} {a0_k_0_1v:Value} {a0_k_0_1:(List ((List UInt8)×Int))} {a0_k_1:Int} (hM0:Models w0 K0) (h_a0_k_B:Bx qao w0 K0 a0_k_b a0_k_pre a0_k_post ((a0_k_0_0v,a0_k_0_1v),a0_k_1)) (h_a0_k_0_0:Own qae 146 w0 K0 a0_k_0_0 a0_k_0_0v) (h_a0_k_0_1:Mp qab (Kd.int .i64) w0 K0 a0_k_0_1 a0_k_0_1v):Calls Try.prog 99 #[(.pointer (some ⟨a0_k_b,a0_k_pre.length,none⟩))] w0 (fun e w'=> ∃(K':Ghost) (r0:Value),e= .returned r0∧Ext NX w0 K0 w' K'∧Models w' K'∧(Kd.int .i64).V K' a0_k_1 r0):=by
 refine (qkO hM0 h_a0_k_B h_a0_k_0_0 h_a0_k_0_1 (qol)).mono ?_
 rintro _ w' ⟨K',r0,o0,rfl,rfl,hF⟩
 exact ⟨K',r0,rfl,hF⟩
theorem ty39:TyOk Try.prog 39 qal 32:=⟨⟨Try.t39,_,Try.type39,rfl,rfl,rfl,rfl,rfl⟩,⟨_,Try.underlying39,rfl⟩⟩
def qiQ (a0_k_0_0:(List ((List UInt8)×(List UInt8)))) (a0_k_0_1:(List ((List UInt8)×Int))) (a0_k_1:Int) (a1_s:(List UInt8)) (a2_b:(List UInt8)) (Q:(List ((List UInt8)×(List UInt8)))→(List ((List UInt8)×Int))→Int→Prop):Prop:=
 (qaW a0_k_0_0 a0_k_0_1∧a2_b.length≤140737488355328∧(a0_k_0_0.length+1) *64≤140737488355328)∧(Q (addL a0_k_0_0 a1_s a2_b) (addM a0_k_0_0 a0_k_0_1 a1_s a2_b) a0_k_1)
theorem qqU {a0_k_0_0:(List ((List UInt8)×(List UInt8)))} {a0_k_0_1:(List ((List UInt8)×Int))} {a0_k_1:Int} {a1_s:(List UInt8)} {a2_b:(List UInt8)} (w_0:qab.wf a1_s) (w_1:qai.wf a2_b) (hp:qaW a0_k_0_0 a0_k_0_1∧a2_b.length≤140737488355328∧(a0_k_0_0.length+1) *64≤140737488355328):qiQ a0_k_0_0 a0_k_0_1 a0_k_1 a1_s a2_b (fun o0 o1 o2=>o0=(addL a0_k_0_0 a1_s a2_b)∧o1=(addM a0_k_0_0 a0_k_0_1 a1_s a2_b)∧o2=a0_k_1):=by
 exact ⟨hp,rfl,rfl,rfl⟩
theorem ql2 {w0:World} {K0:Ghost} {a0_k_b:Nat} {a0_k_pre a0_k_post:List Value} {a0_k_0_0v:Value} {a0_k_0_0:(List ((List UInt8)×(List UInt8)))} {a0_k_0_1v:Value} {a0_k_0_1:(List ((List UInt8)×Int))} {a0_k_1:Int} {a1_s_v:Value} {a1_s:(List UInt8)} {a2_b_v:Value} {a2_b:(List UInt8)} {Q:(List ((List UInt8)×(List UInt8)))→(List ((List UInt8)×Int))→Int→Prop} (hM0:Models w0 K0) (h_a0_k_B:Bx qao w0 K0 a0_k_b a0_k_pre a0_k_post ((a0_k_0_0v,a0_k_0_1v),a0_k_1)) (h_a0_k_0_0:Own qae 146 w0 K0 a0_k_0_0 a0_k_0_0v) (h_a0_k_0_1:Mp qab (Kd.int .i64) w0 K0 a0_k_0_1 a0_k_0_1v) (h_a1_s:qab.V K0 a1_s a1_s_v) {D2:Nat→Prop} (h_a2_b:Rd qai D2 w0 K0 a2_b a2_b_v) (hD2: ∀g,(g=a0_k_b∨ob a0_k_0_0v=some g∨mb a0_k_0_1v=some g)→¬D2 g) (h:qiQ a0_k_0_0 a0_k_0_1 a0_k_1 a1_s a2_b Q):Calls Try.prog 56 #[(.pointer (some ⟨a0_k_b,a0_k_pre.length,none⟩)),a1_s_v,a2_b_v] w0 (fun e w'=> ∃(K':Ghost) (u0_0_0:Value) (u0_0_1:Value) (o0:(List ((List UInt8)×(List UInt8)))) (o1:(List ((List UInt8)×Int))) (o2:Int),e= .returned (.tuple #[])∧Q o0 o1 o2∧Ext (fun c=>c=a0_k_b∨ob a0_k_0_0v=some c∨mb a0_k_0_1v=some c) w0 K0 w' K'∧Models w' K'∧Bx qao w' K' a0_k_b a0_k_pre a0_k_post ((u0_0_0,u0_0_1),o2)∧Own qae 146 w' K' o0 u0_0_0∧(∀g,ob u0_0_0=some g→ob a0_k_0_0v=some g∨w0.heap.size≤g)∧Mp qab (Kd.int .i64) w' K' o1 u0_0_1∧(∀g,mb u0_0_1=some g→mb a0_k_0_1v=some g∨w0.heap.size≤g)):=by
 unfold qiQ at h
 have hE0:Ext (fun c=>c=a0_k_b∨ob a0_k_0_0v=some c∨mb a0_k_0_1v=some c) w0 K0 w0 K0:=Ext.refl _ _ _
 refine qaF fun R hR=>?_
 refine qaD (args:=[(.pointer (some ⟨a0_k_b,a0_k_pre.length,none⟩)),a1_s_v,a2_b_v]) Try.func56 rfl (Nat.le_of_ble_eq_true rfl) ?_
 refine qaf ?_
 refine qac ?_
 refine qaz rfl rfl (St_B (qeU hM0 rfl h_a1_s) ?_)
 rintro b6 w6 (hB6:Bx qab _ _ _ _ _ a1_s) hS6 hM6 hge6
 have hE6:=hE0.andN hS6
 refine qak ?_
 refine qaf ?_
 refine qac ?_
 refine qaa (.pointer (some ⟨a0_k_b,a0_k_pre.length,none⟩)) (R_mv rfl) rfl rfl ?_
 refine qaa (.bool true) (qmg rfl rfl Try.underlying35) rfl rfl ?_
 refine qak ?_
 refine qay true rfl (fun _=>?_) (fun hc=>by cases hc)
 have hR8:=(h_a0_k_B.extN hS6)
 have hR9:=(h_a0_k_0_0.extN hS6)
 have hR10:=(h_a0_k_0_1.extN hS6)
 refine qbS (K:=K0) (fun c=>c=a0_k_b∨ob a0_k_0_0v=some c∨mb a0_k_0_1v=some c∨w6.heap.size≤c) [.o 0 2,.o 1 2,.o 2 2,.o 3 2,.o 4 2,.o 5 1] (by kernel_rfl) (by kernel_rfl) hM6 ?_
 rintro w11 hS11 hM11
 have hE11:=hE6.andN hS11
 refine qag (.pointer (some ⟨a0_k_b,a0_k_pre.length,none⟩)) rfl l0 hM11 (fun _=>R_mv rfl) rfl (gN rfl) rfl ?_
 refine qag (.pointer (some ⟨a0_k_b,a0_k_pre.length,none⟩)) rfl l0 hM11 (fun _=>qaL rfl) rfl (gN rfl) rfl ?_
 refine qag (.pointer (some ⟨a0_k_b,a0_k_pre.length+0,none⟩)) rfl l0 hM11 (fun _=>R_fa rfl Try.underlying41 rfl rfl ty39 rfl) rfl (gN rfl) rfl ?_
 have hR13:=(hB6.extN hS11)
 refine qbG hM11 (qa9 (Foc.id _) rfl ty24 hR13 (by first | rfl | simp | omega) (fun h=>h)) rfl (gN rfl) rfl ?_
 rintro v12 (hV12:qab.V _ a1_s _)
 refine qag a2_b_v rfl l0 hM11 (fun _=>R_mv rfl) rfl (gN rfl) rfl ?_
 have hR15:=(hR9.extN hS11)
 have hR16:=(hR10.extN hS11)
 have hR17:=(hR8.extN hS11)
 obtain ⟨p19,q19,hl19,hB19,hback19⟩:=Bx.sub (Foc.fst qal (Kd.int .i64)) hR17
 obtain ⟨hp20,h⟩:=h
 refine qgq rfl (gN rfl) rfl (qa0 (qbE Try.call86 (mapC (show (Value.pointer (some ⟨a0_k_b,a0_k_pre.length+0,none⟩))= .pointer (some ⟨a0_k_b,((a0_k_pre:List Value)++p19).length,none⟩) from by rw [List.length_append,hl19];first | done | simp) (mapC rfl (mapC rfl mapN)))) ((qrc hM11 hB19 hR15 hR16 hV12 (h_a2_b.ext hE11 hM11 hD2) hD2 hp20).mono ?_))
 rintro _ w18 ⟨K18,u18_0_0,u18_0_1,rfl,hS18,hM18,hB18_m0,hu18_0_0,hxu18_0_0,hu18_0_1,hxu18_0_1⟩
 refine ⟨(.tuple #[]),rfl,?_⟩
 refine ⟨K18,(hS18.weak (fun c hlt hx=>Or.elim hx (fun hx=>(.inl (hx))) (fun hx=>Or.elim hx (fun hx=>(.inr (.inl (hx)))) (fun hx=>(.inr (.inr (.inl (hx)))))))),hM18,?_⟩
 have hE18:=hE11.comp hS18 (fun c hx hlt=>Or.elim hx (fun hx=>(by subst hx;exact (fun _=>(.inl rfl)) hlt)) (fun hx=>Or.elim hx (fun hx=>(fun g hg _=>(.inr (.inl hg))) c hx hlt) (fun hx=>(fun g hg _=>(.inr (.inr (hg)))) c hx hlt)))
 have hf21: ∀g,ob u18_0_0=some g→g<w0.heap.size→g=a0_k_b∨ob a0_k_0_0v=some g∨mb a0_k_0_1v=some g:=fun g hg hlt=>(hxu18_0_0 g hg).elim (fun hx=>(fun g hg _=>(.inr (.inl hg))) g hx hlt) (fun hx=>absurd hlt (Nat.not_lt.2 (Nat.le_trans hE11.size hx)))
 have hf22: ∀g,mb u18_0_1=some g→g<w0.heap.size→g=a0_k_b∨ob a0_k_0_0v=some g∨mb a0_k_0_1v=some g:=fun g hg hlt=>(hxu18_0_1 g hg).elim (fun hx=>(fun g hg _=>(.inr (.inr (hg)))) g hx hlt) (fun hx=>absurd hlt (Nat.not_lt.2 (Nat.le_trans hE11.size hx)))
 have hB18_w:Bx qao w18 K18 a0_k_b a0_k_pre a0_k_post ((u18_0_0,u18_0_1),a0_k_1):=hback19 hS18.le hB18_m0
 refine qcQ ?_
 exact qhl hR (v:=(.tuple #[])) (qkA rfl) ⟨K18,u18_0_0,u18_0_1,(addL a0_k_0_0 a1_s a2_b),(addM a0_k_0_0 a0_k_0_1 a1_s a2_b),a0_k_1,rfl,h,hE18,hM18,hB18_w,hu18_0_0,(fun g hg=>((hxu18_0_0 g hg).elim (fun hz=>(.inl hz)) (fun hz=> .inr (Nat.le_trans hE11.size hz)))),hu18_0_1,(fun g hg=>((hxu18_0_1 g hg).elim (fun hz=>(.inl hz)) (fun hz=> .inr (Nat.le_trans hE11.size hz))))⟩
theorem qsk {w0:World} {K0:Ghost} {a0_k_b:Nat} {a0_k_pre a0_k_post:List Value} {a0_k_0_0v:Value} {a0_k_0_0:(List ((List UInt8)×(List UInt8)))} {a0_k_0_1v:Value} {a0_k_0_1:(List ((List UInt8)×Int))} {a0_k_1:Int} {a1_s_v:Value} {a1_s:(List UInt8)} {a2_b_v:Value} {a2_b:(List UInt8)} (hM0:Models w0 K0) (h_a0_k_B:Bx qao w0 K0 a0_k_b a0_k_pre a0_k_post ((a0_k_0_0v,a0_k_0_1v),a0_k_1)) (h_a0_k_0_0:Own qae 146 w0 K0 a0_k_0_0 a0_k_0_0v) (h_a0_k_0_1:Mp qab (Kd.int .i64) w0 K0 a0_k_0_1 a0_k_0_1v) (h_a1_s:qab.V K0 a1_s a1_s_v) {D2:Nat→Prop} (h_a2_b:Rd qai D2 w0 K0 a2_b a2_b_v) (hD2: ∀g,(g=a0_k_b∨ob a0_k_0_0v=some g∨mb a0_k_0_1v=some g)→¬D2 g) (hp:qaW a0_k_0_0 a0_k_0_1∧a2_b.length≤140737488355328∧(a0_k_0_0.length+1) *64≤140737488355328):Calls Try.prog 56 #[(.pointer (some ⟨a0_k_b,a0_k_pre.length,none⟩)),a1_s_v,a2_b_v] w0 (fun e w'=> ∃(K':Ghost) (u0_0_0:Value) (u0_0_1:Value),e= .returned (.tuple #[])∧Ext (fun c=>c=a0_k_b∨ob a0_k_0_0v=some c∨mb a0_k_0_1v=some c) w0 K0 w' K'∧Models w' K'∧Bx qao w' K' a0_k_b a0_k_pre a0_k_post ((u0_0_0,u0_0_1),a0_k_1)∧Own qae 146 w' K' (addL a0_k_0_0 a1_s a2_b) u0_0_0∧(∀g,ob u0_0_0=some g→ob a0_k_0_0v=some g∨w0.heap.size≤g)∧Mp qab (Kd.int .i64) w' K' (addM a0_k_0_0 a0_k_0_1 a1_s a2_b) u0_0_1∧(∀g,mb u0_0_1=some g→mb a0_k_0_1v=some g∨w0.heap.size≤g)):=by
 refine (ql2 hM0 h_a0_k_B h_a0_k_0_0 h_a0_k_0_1 h_a1_s h_a2_b hD2 (qqU h_a1_s.wf h_a2_b.wf hp)).mono ?_
 rintro _ w' ⟨K',u0,u1,o0,o1,o2,rfl,⟨rfl,rfl,rfl⟩,hF⟩
 exact ⟨K',u0,u1,rfl,hF⟩
def qgW (a0_k_0_0:(List ((List UInt8)×(List UInt8)))) (a0_k_0_1:(List ((List UInt8)×Int))) (a0_k_1:Int) (a1_s:(List UInt8)) (Q:(List UInt8)→Bool→Prop):Prop:=
 ((¬(((mfind a1_s a0_k_0_1).isSome)=true))→Q ([]:List UInt8) false)∧((((mfind a1_s a0_k_0_1).isSome)=true)→(0≤((mfind a1_s a0_k_0_1).getD 0)∧((mfind a1_s a0_k_0_1).getD 0)<(a0_k_0_0.length:Int))∧((((ix a0_k_0_0 ((mfind a1_s a0_k_0_1).getD 0)).2).length≤140737488355328)∧((qai.wf ((ix a0_k_0_0 ((mfind a1_s a0_k_0_1).getD 0)).2))→(Q ((ix a0_k_0_0 ((mfind a1_s a0_k_0_1).getD 0)).2) true))))
theorem qqJ {a0_k_0_0:(List ((List UInt8)×(List UInt8)))} {a0_k_0_1:(List ((List UInt8)×Int))} {a0_k_1:Int} {a1_s:(List UInt8)} (w_0:qab.wf a1_s) (hp:qaW a0_k_0_0 a0_k_0_1∧∀x∈a0_k_0_0,x.2.length≤140737488355328):qgW a0_k_0_0 a0_k_0_1 a0_k_1 a1_s (fun o0 o1=>o0=(qa3 a0_k_0_0 a1_s)∧o1=(qan a1_s a0_k_0_0 0).isSome):=by
 obtain ⟨h1,h2⟩:=hp
 unfold qgW
 rw [h1 a1_s]
 refine ⟨fun h=>?_,fun h=>?_⟩
 ·cases hf:qan a1_s a0_k_0_0 0 with
  | none=>exact ⟨by simp [qa3,hf],rfl⟩
  | some a=>rw [hf] at h;exact absurd rfl h
 ·cases hf:qan a1_s a0_k_0_0 0 with
  | none=>rw [hf] at h;cases h
  | some a=>
    obtain ⟨j,rfl,hl, -⟩:=qcd hf
    simp only [Option.getD_some]
    refine ⟨⟨by omega,by omega⟩,h2 _ (qce (by omega) (by omega)),fun _=>⟨by simp [qa3,hf],rfl⟩⟩
theorem qlQ {w0:World} {K0:Ghost} {a0_k_b:Nat} {a0_k_pre a0_k_post:List Value} {a0_k_0_0v:Value} {a0_k_0_0:(List ((List UInt8)×(List UInt8)))} {a0_k_0_1v:Value} {a0_k_0_1:(List ((List UInt8)×Int))} {a0_k_1:Int} {a1_s_v:Value} {a1_s:(List UInt8)} {Q:(List UInt8)→Bool→Prop} (hM0:Models w0 K0) (h_a0_k_B:Bx qao w0 K0 a0_k_b a0_k_pre a0_k_post ((a0_k_0_0v,a0_k_0_1v),a0_k_1)) (h_a0_k_0_0:Own qae 146 w0 K0 a0_k_0_0 a0_k_0_0v) (h_a0_k_0_1:Mp qab (Kd.int .i64) w0 K0 a0_k_0_1 a0_k_0_1v) (h_a1_s:qab.V K0 a1_s a1_s_v) (h:qgW a0_k_0_0 a0_k_0_1 a0_k_1 a1_s Q):Calls Try.prog 52 #[(.pointer (some ⟨a0_k_b,a0_k_pre.length,none⟩)),a1_s_v] w0 (fun e w'=> ∃(K':Ghost) (r0:Value) (r1:Value) (o0:(List UInt8)) (o1:Bool),e= .returned (.tuple #[r0,r1])∧Q o0 o1∧Ext NX w0 K0 w' K'∧Models w' K'∧Own Kd.byte 5 w' K' o0 r0∧(∀g,ob r0=some g→w0.heap.size≤g)∧Kd.bool.V K' o1 r1):=by
 unfold qgW at h
 have hE0:Ext NX w0 K0 w0 K0:=Ext.refl _ _ _
 refine qaF fun R hR=>?_
 refine qaD (args:=[(.pointer (some ⟨a0_k_b,a0_k_pre.length,none⟩)),a1_s_v]) Try.func52 rfl (Nat.le_of_ble_eq_true rfl) ?_
 refine qaf ?_
 refine qac ?_
 refine qaz rfl rfl (St_B (qeU hM0 rfl h_a1_s) ?_)
 rintro b5 w5 (hB5:Bx qab _ _ _ _ _ a1_s) hS5 hM5 hge5
 have hE5:=hE0.andN hS5
 have hR7:Own Kd.byte 5 w5 K0 ([]:List UInt8) (.slice none 0 0):=Own.nil
 refine qaa (.slice none 0 0) (R_as rfl) rfl rfl ?_
 refine qaa (.bool false) (R_as rfl) rfl rfl ?_
 refine qak ?_
 refine qaf ?_
 refine qaf ?_
 refine qac ?_
 refine qaa (.pointer (some ⟨a0_k_b,a0_k_pre.length,none⟩)) (R_mv rfl) rfl rfl ?_
 refine qaa (.bool false) (qk3 rfl rfl Try.underlying35) rfl rfl ?_
 refine qak ?_
 refine qay false rfl (fun hc=>by cases hc) (fun _=>?_)
 refine qaO ?_
 refine qaf ?_
 refine qbS (K:=K0) NX [.o 0 2,.o 1 2,.o 2 2,.o 3 2,.o 4 2,.o 5 2,.o 6 2,.o 7 2,.o 8 2,.o 9 2,.o 10 2,.o 11 2] (by kernel_rfl) (by kernel_rfl) hM5 ?_
 rintro w8 hS8 hM8
 have hE8:=hE5.andN hS8
 refine qag (.pointer (some ⟨a0_k_b,a0_k_pre.length,none⟩)) rfl l0 hM8 (fun _=>R_mv rfl) rfl (gN rfl) rfl ?_
 refine qag (.pointer (some ⟨a0_k_b,a0_k_pre.length,none⟩)) rfl l0 hM8 (fun _=>qaL rfl) rfl (gN rfl) rfl ?_
 refine qag (.pointer (some ⟨a0_k_b,a0_k_pre.length+0,none⟩)) rfl l0 hM8 (fun _=>R_fa rfl Try.underlying41 rfl rfl ty39 rfl) rfl (gN rfl) rfl ?_
 refine qag (.pointer (some ⟨a0_k_b,a0_k_pre.length+0+1,none⟩)) rfl l0 hM8 (fun _=>R_fa rfl Try.underlying39 rfl rfl qeg rfl) rfl (gN rfl) rfl ?_
 have hR10:=((h_a0_k_B.extN hS5).extN hS8)
 refine qbG hM8 (qa9 (Foc.trans (Foc.fst qal (Kd.int .i64)) (Foc.snd Kd.rsl Kd.rmp)) rfl qeg hR10 (by first | rfl | simp | omega) (fun h=>h)) rfl (gN rfl) rfl ?_
 rintro v9 (hV9:Kd.rmp.V _ a0_k_0_1v _)
 obtain rfl:=qbL hV9
 have hR12:=(hB5.extN hS8)
 refine qbG hM8 (qa9 (Foc.id _) rfl ty24 hR12 (by first | rfl | simp | omega) (fun h=>h)) rfl (gN rfl) rfl ?_
 rintro v11 (hV11:qab.V _ a1_s _)
 have hR15:=((h_a0_k_0_1.extN hS5).extN hS8)
 refine qj0 hM8 (qml (kv:=(Kd.int .i64)) rfl rfl hR15 hV11 Try.underlying37 (qcq Try.underlying24 Try.underlying5 ty5b) ty3 (fun _ _ h=>h)) rfl (gN rfl) rfl ?_
 rintro v14 (hV14:(Kd.int .i64).V _ ((mfind a1_s a0_k_0_1).getD 0) _)
 obtain rfl:=qbk hV14
 refine qag (.tuple #[(.int .i64 ((mfind a1_s a0_k_0_1).getD 0)),(.bool ((mfind a1_s a0_k_0_1).isSome))]) rfl l0 hM8 (fun _=>R_mv rfl) rfl (gN rfl) rfl ?_
 refine qag (.int .i64 ((mfind a1_s a0_k_0_1).getD 0)) rfl l0 hM8 (fun _=>qg1 rfl rfl) rfl (gN rfl) rfl ?_
 refine qag (.bool ((mfind a1_s a0_k_0_1).isSome)) rfl l0 hM8 (fun _=>qg1 rfl rfl) rfl (gN rfl) rfl ?_
 refine qag (.int .i64 ((mfind a1_s a0_k_0_1).getD 0)) rfl l0 hM8 (fun _=>R_as rfl) rfl (gN rfl) rfl ?_
 refine qag (.bool ((mfind a1_s a0_k_0_1).isSome)) rfl l0 hM8 (fun _=>R_as rfl) rfl (gN rfl) rfl ?_
 refine qcQ ?_
 refine qaf ?_
 refine qaf ?_
 refine qac ?_
 refine qaa (.bool ((mfind a1_s a0_k_0_1).isSome)) (R_mv rfl) rfl rfl ?_
 refine qaa (.bool (!((mfind a1_s a0_k_0_1).isSome))) (qhV rfl) rfl rfl ?_
 refine qak ?_
 refine qay (!((mfind a1_s a0_k_0_1).isSome)) rfl (fun hc16=>?_) (fun hc16=>?_)
 ·have hd16: ¬(((mfind a1_s a0_k_0_1).isSome)=true):=qrD hc16
  have h:=h.1 hd16
  refine qaf ?_
  refine qac ?_
  have hR17:Own Kd.byte 5 w8 K0 ([]:List UInt8) (.slice none 0 0):=Own.nil
  refine qaa (.slice none 0 0) (R_as rfl) rfl rfl ?_
  refine qaa (.bool false) (R_as rfl) rfl rfl ?_
  refine qak ?_
  refine qbm ?_
  exact qaN hR (v:=(.tuple #[(.slice none 0 0),(.bool false)])) (qnJ rfl rfl rfl) ⟨K0,(.slice none 0 0),(.bool false),([]:List UInt8),false,rfl,h,hE8,hM8,hR17,(fun g hg=>nilS hg),qcp⟩
 ·have hd16:((mfind a1_s a0_k_0_1).isSome)=true:=qrC hc16
  have h:=h.2 hd16
  refine qaO ?_
  refine qaf ?_
  refine qac ?_
  refine qaa (.pointer (some ⟨a0_k_b,a0_k_pre.length,none⟩)) (R_mv rfl) rfl rfl ?_
  refine qaa (.pointer (some ⟨a0_k_b,a0_k_pre.length,none⟩)) (qaL rfl) rfl rfl ?_
  refine qaa (.pointer (some ⟨a0_k_b,a0_k_pre.length+0,none⟩)) (R_fa rfl Try.underlying41 rfl rfl ty39 rfl) rfl rfl ?_
  refine qaa (.pointer (some ⟨a0_k_b,a0_k_pre.length+0+0,none⟩)) (R_fa rfl Try.underlying39 rfl rfl qdC rfl) rfl rfl ?_
  refine WL_L hM8 (qa9 (Foc.trans (Foc.fst qal (Kd.int .i64)) (Foc.fst Kd.rsl Kd.rmp)) rfl qdC hR10 (by first | rfl | simp | omega) (fun h=>h)) rfl rfl ?_
  rintro v18 (hV18:Kd.rsl.V _ a0_k_0_0v _)
  obtain rfl:=qbL hV18
  refine qaa (.int .i64 ((mfind a1_s a0_k_0_1).getD 0)) (R_mv rfl) rfl rfl ?_
  obtain ⟨hp20,h⟩:=h
  refine WL_P (qeV rfl (h_a0_k_0_0.V.mono (hS5.le.trans hS8.le)) rfl Try.underlying36 qdb hp20.1 hp20.2) rfl rfl ?_
  rintro b19 o19 hP19
  have hP22:=Kd.Pt.foc (Foc.snd qab qai) hP19
  refine qaa (.pointer (some ⟨b19,o19+32,none⟩)) (R_fa rfl Try.underlying146 rfl rfl ty32 rfl) rfl rfl ?_
  refine WL_L hM8 (S_ld rfl ty32 hP22) rfl rfl ?_
  rintro v24 (hV24:qai.V _ ((ix a0_k_0_0 ((mfind a1_s a0_k_0_1).getD 0)).2) _)
  have hR26:=((h_a0_k_0_0.extN hS5).extN hS8)
  have hR27:=(hR7.extN hS8)
  obtain ⟨hp29,h⟩:=h
  refine qaz rfl rfl (qa0 (qbE Try.call69 rfl) ((qfn hM8 hV24 hp29).mono ?_))
  rintro _ w28 ⟨K28,v28_0,rfl,hS28,hM28,hO28_0,hg28_0⟩
  refine ⟨v28_0,rfl,?_⟩
  have hE28:=hE8.andN hS28
  have h:=h hO28_0.wf
  refine qaa v28_0 (R_as rfl) rfl rfl ?_
  refine qaa (.bool true) (R_as rfl) rfl rfl ?_
  refine qak ?_
  refine qbm ?_
  exact qaN hR (v:=(.tuple #[v28_0,(.bool true)])) (qnJ rfl rfl rfl) ⟨K28,v28_0,(.bool true),((ix a0_k_0_0 ((mfind a1_s a0_k_0_1).getD 0)).2),true,rfl,h,hE28,hM28,hO28_0,(fun g hg=>Nat.le_trans hE8.size (hg28_0 g hg)),qcp⟩
theorem qsb {w0:World} {K0:Ghost} {a0_k_b:Nat} {a0_k_pre a0_k_post:List Value} {a0_k_0_0v:Value} {a0_k_0_0:(List ((List UInt8)×(List UInt8)))} {a0_k_0_1v:Value} {a0_k_0_1:(List ((List UInt8)×Int))} {a0_k_1:Int} {a1_s_v:Value} {a1_s:(List UInt8)} (hM0:Models w0 K0) (h_a0_k_B:Bx qao w0 K0 a0_k_b a0_k_pre a0_k_post ((a0_k_0_0v,a0_k_0_1v),a0_k_1)) (h_a0_k_0_0:Own qae 146 w0 K0 a0_k_0_0 a0_k_0_0v) (h_a0_k_0_1:Mp qab (Kd.int .i64) w0 K0 a0_k_0_1 a0_k_0_1v) (h_a1_s:qab.V K0 a1_s a1_s_v) (hp:qaW a0_k_0_0 a0_k_0_1∧∀x∈a0_k_0_0,x.2.length≤140737488355328):Calls Try.prog 52 #[(.pointer (some ⟨a0_k_b,a0_k_pre.length,none⟩)),a1_s_v] w0 (fun e w'=> ∃(K':Ghost) (r0:Value) (r1:Value),e= .returned (.tuple #[r0,r1])∧Ext NX w0 K0 w' K'∧Models w' K'∧Own Kd.byte 5 w' K' (qa3 a0_k_0_0 a1_s) r0∧(∀g,ob r0=some g→w0.heap.size≤g)∧Kd.bool.V K' ((qan a1_s a0_k_0_0 0).isSome) r1):=by
 refine (qlQ hM0 h_a0_k_B h_a0_k_0_0 h_a0_k_0_1 h_a1_s (qqJ h_a1_s.wf hp)).mono ?_
 rintro _ w' ⟨K',r0,r1,o0,o1,rfl,⟨rfl,rfl⟩,hF⟩
 exact ⟨K',r0,r1,rfl,hF⟩
def qcB (a0_k_0_0:(List ((List UInt8)×(List UInt8)))) (a0_k_0_1:(List ((List UInt8)×Int))) (a0_k_1:Int) (Q:(List (List UInt8))→Prop):Prop:=
 ∃(I7:(List (List UInt8))→Int→Prop) (μ7:(List (List UInt8))→Int→Nat),I7 ([]:List (List UInt8)) 0∧∀(out7:(List (List UInt8))) (i7:Int),I7 out7 i7→(qaV.wf out7)→((Kd.int .i64).wf i7)→(((i7<(a0_k_0_0.length:Int))→(0≤i7∧i7<(a0_k_0_0.length:Int))∧((((ix a0_k_0_0 i7).2).length≤140737488355328)∧((qai.wf ((ix a0_k_0_0 i7).2))→(((out7.length+ [((ix a0_k_0_0 i7).2)].length) *24≤140737488355328)∧(I7 (out7++ [((ix a0_k_0_0 i7).2)]) (i7+1)∧μ7 (out7++ [((ix a0_k_0_0 i7).2)]) (i7+1)<μ7 out7 i7)))))∧((¬(i7<(a0_k_0_0.length:Int)))→Q out7))
theorem qiF {a0_k_0_0:(List ((List UInt8)×(List UInt8)))} {a0_k_0_1:(List ((List UInt8)×Int))} {a0_k_1:Int} (hp:a0_k_0_0.length *24≤140737488355328∧∀x∈a0_k_0_0,x.2.length≤140737488355328):qcB a0_k_0_0 a0_k_0_1 a0_k_1 (fun o0=>o0=(a0_k_0_0.map Prod.snd)):=by
 obtain ⟨h1,h2⟩:=hp
 unfold qcB
 refine ⟨fun out i=> ∃j:Nat,i=(j:Int)∧j≤a0_k_0_0.length∧out=(a0_k_0_0.take j).map Prod.snd,fun _ i=>a0_k_0_0.length - i.toNat,⟨0,rfl,by omega,rfl⟩,?_⟩
 rintro out i ⟨j,rfl,hj,rfl⟩ _ _
 refine ⟨fun hlt=>⟨⟨by omega,hlt⟩,h2 _ (qce (by omega) hlt),fun _=>⟨?_,⟨j+1,by omega,by omega,?_⟩,?_⟩⟩,fun hge=>?_⟩
 ·simp only [List.length_map,List.length_take,List.length_cons,List.length_nil]
  omega
 ·rw [qbh hlt]
  simp
 ·show a0_k_0_0.length - ((j:Int)+1).toNat<a0_k_0_0.length - (j:Int).toNat
  omega
 ·have:j=a0_k_0_0.length:=by omega
  subst this
  rw [List.take_length]
theorem qgQ {w0:World} {K0:Ghost} {a0_k_b:Nat} {a0_k_pre a0_k_post:List Value} {a0_k_0_0v:Value} {a0_k_0_0:(List ((List UInt8)×(List UInt8)))} {a0_k_0_1v:Value} {a0_k_0_1:(List ((List UInt8)×Int))} {a0_k_1:Int} {Q:(List (List UInt8))→Prop} (hM0:Models w0 K0) (h_a0_k_B:Bx qao w0 K0 a0_k_b a0_k_pre a0_k_post ((a0_k_0_0v,a0_k_0_1v),a0_k_1)) (h_a0_k_0_0:Own qae 146 w0 K0 a0_k_0_0 a0_k_0_0v) (h_a0_k_0_1:Mp qab (Kd.int .i64) w0 K0 a0_k_0_1 a0_k_0_1v) (h:qcB a0_k_0_0 a0_k_0_1 a0_k_1 Q):Calls Try.prog 100 #[(.pointer (some ⟨a0_k_b,a0_k_pre.length,none⟩))] w0 (fun e w'=> ∃(K':Ghost) (r0:Value) (o0:(List (List UInt8))),e= .returned r0∧Q o0∧Ext NX w0 K0 w' K'∧Models w' K'∧Own qai 32 w' K' o0 r0∧(∀g,ob r0=some g→w0.heap.size≤g)):=by
 unfold qcB at h
 have hE0:Ext NX w0 K0 w0 K0:=Ext.refl _ _ _
 refine qaF fun R hR=>?_
 refine qaD (args:=[(.pointer (some ⟨a0_k_b,a0_k_pre.length,none⟩))]) Try.func100 rfl (Nat.le_of_ble_eq_true rfl) ?_
 refine qaf ?_
 refine qac ?_
 have hR4:Own qai 32 w0 K0 ([]:List (List UInt8)) (.slice none 0 0):=Own.nil
 refine qaa (.slice none 0 0) (R_as rfl) rfl rfl ?_
 refine qak ?_
 refine qaf ?_
 refine qaf ?_
 refine qac ?_
 refine qaa (.pointer (some ⟨a0_k_b,a0_k_pre.length,none⟩)) (R_mv rfl) rfl rfl ?_
 refine qaa (.bool false) (qk3 rfl rfl Try.underlying35) rfl rfl ?_
 refine qak ?_
 refine qay false rfl (fun hc=>by cases hc) (fun _=>?_)
 refine qaO ?_
 refine qaf ?_
 refine qac ?_
 have hR5:Own qai 32 w0 K0 ([]:List (List UInt8)) (.slice none 0 0):=Own.nil
 refine qaa (.slice none 0 0) (R_as rfl) rfl rfl ?_
 refine qak ?_
 refine qaf ?_
 refine qaf ?_
 refine qac ?_
 refine qaa (.pointer (some ⟨a0_k_b,a0_k_pre.length,none⟩)) (R_mv rfl) rfl rfl ?_
 refine qaa (.pointer (some ⟨a0_k_b,a0_k_pre.length,none⟩)) (qaL rfl) rfl rfl ?_
 refine qaa (.pointer (some ⟨a0_k_b,a0_k_pre.length+0,none⟩)) (R_fa rfl Try.underlying41 rfl rfl ty39 rfl) rfl rfl ?_
 refine qaa (.pointer (some ⟨a0_k_b,a0_k_pre.length+0+0,none⟩)) (R_fa rfl Try.underlying39 rfl rfl qdC rfl) rfl rfl ?_
 refine WL_L hM0 (qa9 (Foc.trans (Foc.fst qal (Kd.int .i64)) (Foc.fst Kd.rsl Kd.rmp)) rfl qdC h_a0_k_B (by first | rfl | simp | omega) (fun h=>h)) rfl rfl ?_
 rintro v6 (hV6:Kd.rsl.V _ a0_k_0_0v _)
 obtain rfl:=qbL hV6
 refine qaa (.int .i64 (a0_k_0_0.length:Int)) (qdZ rfl h_a0_k_0_0.V Try.underlying36) rfl rfl ?_
 refine qaa (.int .i64 0) (R_mv rfl) rfl rfl ?_
 refine qak ?_
 refine qbi ?_
 obtain ⟨I7,μ7,h0,h⟩:=h
 refine qdi (ι:=(List (List UInt8))×Int) [3,5,14,15,16,17,18,19,20,21,22,23,24] (fun s l w=> ∃K u3,I7 s.1 s.2∧l=[(3,u3),(14,(.int .i64 s.2))]∧Ext (fun c=>ob (.slice none 0 0)=some c) w0 K0 w K∧Models w K∧(Kd.int .i64).wf s.2∧Own qai 32 w K s.1 u3∧(∀g,ob u3=some g→ob (.slice none 0 0)=some g∨w0.heap.size≤g)) (fun s=>μ7 s.1 s.2) (([]:List (List UInt8)),0) [(3,(.slice none 0 0)),(14,(.int .i64 0))]
  ⟨K0,(.slice none 0 0),h0,rfl,Ext.refl _ _ _,hM0,(show (Kd.int .i64).wf 0 from by constructor<;>decide),hR5,(fun g hg=> .inr (nilS hg))⟩ (by repeat (first | exact trivial | refine ⟨rfl,?_⟩)) ?_
 rintro ⟨out7,i7⟩ l σ7 w8 ⟨K8,u3_7,hI,rfl,hX8,hM8,hw7_14,hL7_u3,ho7_u3⟩
 dsimp only at hI hw7_14 hL7_u3 ho7_u3
 have hE8:=hE0.comp hX8 (fun c hx hlt=>(fun g hg _=>nilS hg) c hx hlt)
 have hR9:=(hR4.ext hX8 (fun g hg hx=>(fun g hg hx=>(fun g hg _=>nilS hg) g hx hg) g hg hx))
 have h:=h out7 i7 hI hL7_u3.wf hw7_14
 refine qaf ?_
 refine qac ?_
 refine qaa (.bool (decide (i7<(a0_k_0_0.length:Int)))) (qg2 rfl rfl) rfl rfl ?_
 refine qak ?_
 refine qaf ?_
 refine qay (decide (i7<(a0_k_0_0.length:Int))) rfl (fun hc10=>?_) (fun hc10=>?_)
 ·have hd10:i7<(a0_k_0_0.length:Int):=qeX hc10
  have h:=h.1 hd10
  refine qaO ?_
  refine qaf ?_
  refine qbi ?_
  refine qaf ?_
  refine qac ?_
  obtain ⟨hp12,h⟩:=h
  refine WL_P (qeV rfl (h_a0_k_0_0.V.mono hX8.le) rfl Try.underlying36 qdb hp12.1 hp12.2) rfl rfl ?_
  rintro b11 o11 hP11
  refine WL_L hM8 (S_ld rfl qdb hP11) rfl rfl ?_
  rintro v14 (hV14:qae.V _ (ix a0_k_0_0 i7) _)
  refine qaz rfl rfl (St_B (qcW hM8 qdb) ?_)
  rintro b16 w16 (hB16:Bx qae _ _ _ _ _ ((List.replicate 32 0),([]:List UInt8))) hS16 hM16 hge16
  have hE16:=hE8.andN hS16
  have hR18:=(h_a0_k_B.ext hX8 (fun hx=>(hR5.box h_a0_k_B) hx))
  refine qaz rfl rfl (qg5 (qg3 (Foc.id _) hM16 rfl rfl (hV14.mono hS16.le) qdb hB16 (by first | rfl | simp | omega)) ?_)
  rintro w19 (hB19:Bx qae _ _ b16 [] [] (ix a0_k_0_0 i7)) hS19 hM19
  have hE19:=hE16.comp hS19 (fun c hx hlt=>(by subst hx;exact (fun hlt=>absurd hlt (Nat.not_lt.2 (Nat.le_trans hE8.size hge16))) hlt))
  refine qak ?_
  refine qac ?_
  refine qaa u3_7 (R_mv rfl) rfl rfl ?_
  refine qaa (.pointer (some ⟨b16,0+32,none⟩)) (R_fa rfl Try.underlying146 rfl rfl ty32 rfl) rfl rfl ?_
  refine WL_L hM19 (qa9 (Foc.snd qab qai) rfl ty32 hB19 (by first | rfl | simp | omega) (fun h=>h)) rfl rfl ?_
  rintro v20 (hV20:qai.V _ ((ix a0_k_0_0 i7).2) _)
  have hR22:=((h_a0_k_0_0.ext hX8 (fun g hg hx=>(Own.ne_type h_a0_k_0_0 hR5 (by decide)) g hg hx)).extN hS16)
  have hR23:=(hR22.ext hS19 (fun g hg hx=>(fun g hg hx=>hR22.box hB16 (hg.trans (congrArg some hx))) g hg hx))
  have hR24:=((h_a0_k_0_1.ext hX8 (fun g hg hx=>(fun g hg hx=>h_a0_k_0_1.own hR5 g hx hg) g hg hx)).extN hS16)
  have hR25:=(hR24.ext hS19 (fun g hg hx=>(fun g hg hx=>hR24.box hB16 (hg.trans (congrArg some hx))) g hg hx))
  have hR26:=((h_a0_k_B.ext hX8 (fun hx=>(hR5.box h_a0_k_B) hx)).extN hS16)
  have hR27:=(hR26.ext hS19 (fun hx=>(fun he=>(qcs hge16 hR18.lt) he.symm) hx))
  have hR28:=(hR9.extN hS16)
  have hR29:=(hR28.ext hS19 (fun g hg hx=>(fun g hg hx=>hR28.box hB16 (hg.trans (congrArg some hx))) g hg hx))
  have hR30:=(hL7_u3.extN hS16)
  have hR31:=(hR30.ext hS19 (fun g hg hx=>(fun g hg hx=>hR30.box hB16 (hg.trans (congrArg some hx))) g hg hx))
  obtain ⟨hp33,h⟩:=h
  refine qaz rfl rfl (qa0 (qbE Try.call69 rfl) ((qfn hM19 hV20 hp33).mono ?_))
  rintro _ w32 ⟨K32,v32_0,rfl,hS32,hM32,hO32_0,hg32_0⟩
  refine ⟨v32_0,rfl,?_⟩
  have hE32:=hE19.andN hS32
  have h:=h hO32_0.wf
  refine qaz rfl rfl (qoK (qiY (k:=qai) (l:=[(((ix a0_k_0_0 i7).2),v32_0)]) hM32 rfl (by intro p hp;simp only [List.mem_cons,List.not_mem_nil,or_false] at hp;subst hp;exact hO32_0.V) rfl Try.underlying96 ty32 rfl rfl) ?_)
  rintro v35 w35 K35 (hO35:Own qai 32 w35 K35 [((ix a0_k_0_0 i7).2)] v35) hS35 hM35 hg35
  have hE35:=hE32.andN hS35
  have hR37:=(hR29.extN hS32)
  have hR38:=(hR31.extN hS32)
  have hR39:=((hR31.extN hS32).extN hS35)
  obtain ⟨hp41,h⟩:=h
  refine qaz rfl rfl (St_S (qq8 hM35 rfl hR39 rfl hO35.V Try.underlying96 ty32 rfl hp41) ?_)
  rintro v40 w40 K40 hO40 hS40 hM40 hob40
  have hE40:=hE35.comp hS40 (fun c hx hlt=>(fun g hg hlt=>absurd hlt (Nat.not_lt.2 ((fun g hg=>(ho7_u3 g hg).elim (fun hx=>(fun g hg=>nilS hg) g hx) (fun hx=>Nat.le_trans hE0.size hx)) g hg))) c hx hlt)
  have hR42:=((hR29.extN hS32).extN hS35)
  have hR43:=(hR42.ext hS40 (fun g hg hx=>(fun g hg hx=>(fun g hg hy=>(ho7_u3 g hg).elim (fun hz=>(fun g hg _=>nilS hg) g hz hy) (fun hz=>absurd (hR4.lt _ hy) (Nat.not_lt.2 hz))) g hx hg) g hg hx))
  have hR44:=(hO35.ext hS40 (fun g hg hx=>(fun g hg hx=>absurd (hR38.lt _ hx) (Nat.not_lt.2 (hg35 g hg))) g hg hx))
  have hf40: ∀g,ob v40=some g→w0.heap.size≤g:=fun g hg=>by rcases hob40 with hq | hq<;>rw [hq] at hg;exact (fun g hg=>(ho7_u3 g hg).elim (fun hx=>(fun g hg=>nilS hg) g hx) (fun hx=>Nat.le_trans hE0.size hx)) g hg;cases hg;exact hE35.size
  have hs46: ∀g,ob v40=some g→¬(ob v35=some g):=fun g hg hx=>by rcases hob40 with hq | hq<;>rw [hq] at hg;exact (fun g hg hx=>(fun g hg hx=>absurd (hR38.lt _ hx) (Nat.not_lt.2 (hg35 g hg))) g hx hg) g hg hx;cases hg;exact absurd (hO35.lt _ hx) (Nat.not_lt.2 (Nat.le_refl _))
  refine qaa v40 (R_as rfl) rfl rfl ?_
  refine qak ?_
  refine qac ?_
  refine qaa (.int .i64 (i7+1)) (qk2 rfl rfl hw7_14 hd10 (qbv ((h_a0_k_0_0).V).wf.1)) rfl rfl ?_
  refine qaa (.int .i64 (i7+1)) (R_mv rfl) rfl rfl ?_
  refine qak ?_
  refine qfj.mk ((out7++ [((ix a0_k_0_0 i7).2)]),(i7+1)) [(3,v40),(14,(.int .i64 (i7+1)))] ?_ ?_ ?_ ?_
  rotate_left
  ·exact h.2
  ·repeat (first | exact Off.lay0 rfl | refine Off.updO ?_ rfl _ | refine Off.updN ?_ _ | refine Off.lay ?_ rfl)
  ·repeat (first | exact trivial | refine ⟨rfl,?_⟩)
  exact ⟨K40,v40,h.1,rfl,(((((((Ext.refl _ _ _).comp hX8 (fun c hx hlt=>(absurd hlt (Nat.not_lt.2 (nilS hx))))).andN hS16).comp hS19 (fun c hx hlt=>(by subst hx;exact absurd hlt (Nat.not_lt.2 (Nat.le_trans hE8.size hge16))))).andN hS32).andN hS35).comp hS40 (fun c hx hlt=>(absurd hlt (Nat.not_lt.2 ((ho7_u3 c hx).elim (fun hz=>(nilS hz)) (fun hz=>(Nat.le_trans (Nat.le_refl _) hz))))))),hM40,(qgA hw7_14 hd10 (qbv ((h_a0_k_0_0).V).wf.1)),hO40,(fun g hg=> .inr (by have hg:ob v40=some g:=hg;rcases hob40 with hq | hq<;>rw [hq] at hg;exact ((ho7_u3 g hg).elim (fun hz=>(nilS hz)) (fun hz=>(Nat.le_trans (Nat.le_refl _) hz)));cases hg;exact hE35.size))⟩
 ·have hd10: ¬(i7<(a0_k_0_0.length:Int)):=qeW hc10
  have h:=h.2 hd10
  refine qcX ?_
  refine qaf ?_
  refine qac ?_
  refine qaa u3_7 (R_mv rfl) rfl rfl ?_
  refine qaa u3_7 (R_as rfl) rfl rfl ?_
  refine qak ?_
  refine qbm ?_
  exact qaN hR (v:=u3_7) (qcv rfl rfl) ⟨K8,u3_7,out7,rfl,h,hE8,hM8,hL7_u3,(fun g hg=>(ho7_u3 g hg).elim (fun hx=>(fun g hg=>nilS hg) g hx) (fun hx=>Nat.le_trans hE0.size hx))⟩
theorem qkN {w0:World} {K0:Ghost} {a0_k_b:Nat} {a0_k_pre a0_k_post:List Value} {a0_k_0_0v:Value} {a0_k_0_0:(List ((List UInt8)×(List UInt8)))} {a0_k_0_1v:Value} {a0_k_0_1:(List ((List UInt8)×Int))} {a0_k_1:Int} (hM0:Models w0 K0) (h_a0_k_B:Bx qao w0 K0 a0_k_b a0_k_pre a0_k_post ((a0_k_0_0v,a0_k_0_1v),a0_k_1)) (h_a0_k_0_0:Own qae 146 w0 K0 a0_k_0_0 a0_k_0_0v) (h_a0_k_0_1:Mp qab (Kd.int .i64) w0 K0 a0_k_0_1 a0_k_0_1v) (hp:a0_k_0_0.length *24≤140737488355328∧∀x∈a0_k_0_0,x.2.length≤140737488355328):Calls Try.prog 100 #[(.pointer (some ⟨a0_k_b,a0_k_pre.length,none⟩))] w0 (fun e w'=> ∃(K':Ghost) (r0:Value),e= .returned r0∧Ext NX w0 K0 w' K'∧Models w' K'∧Own qai 32 w' K' (a0_k_0_0.map Prod.snd) r0∧(∀g,ob r0=some g→w0.heap.size≤g)):=by
 refine (qgQ hM0 h_a0_k_B h_a0_k_0_0 h_a0_k_0_1 (qiF hp)).mono ?_
 rintro _ w' ⟨K',r0,o0,rfl,rfl,hF⟩
 exact ⟨K',r0,rfl,hF⟩
abbrev qiH:=qaE 146
def qjS (a0_k_0_0:(List ((List UInt8)×(List UInt8)))) (a0_k_0_1:(List ((List UInt8)×Int))) (a0_k_1:Int) (a1_kind:Int) (a2_parts:(List (List UInt8))) (Q:(List UInt8)→(List ((List UInt8)×(List UInt8)))→(List ((List UInt8)×Int))→Int→Prop):Prop:=
 (1+qah a2_parts≤140737488355328)∧((qai.wf (preimage a1_kind a2_parts))→(((1+ [(preimage a1_kind a2_parts)].length) *24≤140737488355328∧[(preimage a1_kind a2_parts)].flatten.length≤140737488355328)∧((qab.wf (qaT [(preimage a1_kind a2_parts)]))→((qaW a0_k_0_0 a0_k_0_1∧(preimage a1_kind a2_parts).length≤140737488355328∧(a0_k_0_0.length+1) *64≤140737488355328)∧(Q (qaT [(preimage a1_kind a2_parts)]) (addL a0_k_0_0 (qaT [(preimage a1_kind a2_parts)]) (preimage a1_kind a2_parts)) (addM a0_k_0_0 a0_k_0_1 (qaT [(preimage a1_kind a2_parts)]) (preimage a1_kind a2_parts)) (IntKind.i64.wrap (a0_k_1+1)))))))
theorem qso {a0_k_0_0:(List ((List UInt8)×(List UInt8)))} {a0_k_0_1:(List ((List UInt8)×Int))} {a0_k_1:Int} {a1_kind:Int} {a2_parts:(List (List UInt8))} (w_0:(Kd.int .i64).wf a1_kind) (w_1:qaV.wf a2_parts) (hp:qaW a0_k_0_0 a0_k_0_1∧1+qah a2_parts≤140737488355328∧(a0_k_0_0.length+1) *64≤140737488355328):qjS a0_k_0_0 a0_k_0_1 a0_k_1 a1_kind a2_parts (fun o0 o1 o2 o3=>o0=(qaj a1_kind a2_parts)∧o1=(addL a0_k_0_0 (qaj a1_kind a2_parts) (preimage a1_kind a2_parts))∧o2=(addM a0_k_0_0 a0_k_0_1 (qaj a1_kind a2_parts) (preimage a1_kind a2_parts))∧o3=(IntKind.i64.wrap (a0_k_1+1))):=by
 obtain ⟨h1,h2,h3⟩:=hp
 have hl:=qbw a1_kind h2
 unfold qjS
 exact ⟨h2,fun _=>⟨⟨by simp,by simpa using by omega⟩,fun _=>⟨⟨h1,by omega,h3⟩,rfl,rfl,rfl,rfl⟩⟩⟩
theorem qoC {w0:World} {K0:Ghost} {a0_k_b:Nat} {a0_k_pre a0_k_post:List Value} {a0_k_0_0v:Value} {a0_k_0_0:(List ((List UInt8)×(List UInt8)))} {a0_k_0_1v:Value} {a0_k_0_1:(List ((List UInt8)×Int))} {a0_k_1:Int} {a1_kind_v:Value} {a1_kind:Int} {a2_parts_v:Value} {a2_parts:(List (List UInt8))} {Q:(List UInt8)→(List ((List UInt8)×(List UInt8)))→(List ((List UInt8)×Int))→Int→Prop} (hM0:Models w0 K0) (h_a0_k_B:Bx qao w0 K0 a0_k_b a0_k_pre a0_k_post ((a0_k_0_0v,a0_k_0_1v),a0_k_1)) (h_a0_k_0_0:Own qae 146 w0 K0 a0_k_0_0 a0_k_0_0v) (h_a0_k_0_1:Mp qab (Kd.int .i64) w0 K0 a0_k_0_1 a0_k_0_1v) (h_a1_kind:(Kd.int .i64).V K0 a1_kind a1_kind_v) {D2:Nat→Prop} (h_a2_parts:Rd qaV D2 w0 K0 a2_parts a2_parts_v) (h:qjS a0_k_0_0 a0_k_0_1 a0_k_1 a1_kind a2_parts Q):Calls Try.prog 67 #[(.pointer (some ⟨a0_k_b,a0_k_pre.length,none⟩)),a1_kind_v,a2_parts_v] w0 (fun e w'=> ∃(K':Ghost) (r0:Value) (u0_0_0:Value) (u0_0_1:Value) (o0:(List UInt8)) (o1:(List ((List UInt8)×(List UInt8)))) (o2:(List ((List UInt8)×Int))) (o3:Int),e= .returned r0∧Q o0 o1 o2 o3∧Ext (fun c=>c=a0_k_b∨ob a0_k_0_0v=some c∨mb a0_k_0_1v=some c) w0 K0 w' K'∧Models w' K'∧qab.V K' o0 r0∧Bx qao w' K' a0_k_b a0_k_pre a0_k_post ((u0_0_0,u0_0_1),o3)∧Own qae 146 w' K' o1 u0_0_0∧(∀g,ob u0_0_0=some g→ob a0_k_0_0v=some g∨w0.heap.size≤g)∧Mp qab (Kd.int .i64) w' K' o2 u0_0_1∧(∀g,mb u0_0_1=some g→mb a0_k_0_1v=some g∨w0.heap.size≤g)):=by
 unfold qjS at h
 obtain rfl:=qbk h_a1_kind
 have hE0:Ext (fun c=>c=a0_k_b∨ob a0_k_0_0v=some c∨mb a0_k_0_1v=some c) w0 K0 w0 K0:=Ext.refl _ _ _
 refine qaF fun R hR=>?_
 refine qaD (args:=[(.pointer (some ⟨a0_k_b,a0_k_pre.length,none⟩)),(.int .i64 a1_kind),a2_parts_v]) Try.func67 rfl (Nat.le_of_ble_eq_true rfl) ?_
 refine qaf ?_
 refine qac ?_
 refine qaz rfl rfl (St_B (qcW hM0 ty24) ?_)
 rintro b5 w5 (hB5:Bx qab _ _ _ _ _ (List.replicate 32 0)) hS5 hM5 hge5
 have hE5:=hE0.andN hS5
 refine qak ?_
 refine qaf ?_
 refine qac ?_
 refine qaa (.int .i64 a1_kind) (R_mv rfl) rfl rfl ?_
 refine qaa a2_parts_v (R_mv rfl) rfl rfl ?_
 have hR7:=(h_a0_k_0_0.extN hS5)
 have hR8:=(h_a0_k_0_1.extN hS5)
 have hR9:=(h_a0_k_B.extN hS5)
 obtain ⟨hp11,h⟩:=h
 refine qaz rfl rfl (qa0 (qbE Try.call98 rfl) ((qeM hM5 (qe0 (h_a1_kind).wf) (h_a2_parts.ext hS5 hM5 (fun _ h=>h.elim)) hp11).mono ?_))
 rintro _ w10 ⟨K10,v10_0,rfl,hS10,hM10,hO10_0,hg10_0⟩
 refine ⟨v10_0,rfl,?_⟩
 have hE10:=hE5.andN hS10
 have h:=h hO10_0.wf
 refine qaa v10_0 (R_as rfl) rfl rfl ?_
 refine qak ?_
 refine qaf ?_
 refine qac ?_
 refine qaa v10_0 (R_mv rfl) rfl rfl ?_
 refine qaz rfl rfl (qoK (qiY (k:=qai) (l:=[((preimage a1_kind a2_parts),v10_0)]) hM10 rfl (by intro p hp;simp only [List.mem_cons,List.not_mem_nil,or_false] at hp;subst hp;exact hO10_0.V) rfl Try.underlying96 ty32 rfl rfl) ?_)
 rintro v13 w13 K13 (hO13:Own qai 32 w13 K13 [(preimage a1_kind a2_parts)] v13) hS13 hM13 hg13
 have hE13:=hE10.andN hS13
 obtain ⟨hp16,h⟩:=h
 refine qaz rfl rfl (qa0 (qbE Try.call110 rfl) ((qjZ hM13 hO13.V hp16).mono ?_))
 rintro _ w15 ⟨K15,v15_0,rfl,hS15,hM15,hV15_0⟩
 refine ⟨v15_0,rfl,?_⟩
 have hE15:=hE13.andN hS15
 have h:=h hV15_0.wf
 refine qaz rfl rfl (St_B (qcW hM15 ty24) ?_)
 rintro b18 w18 (hB18:Bx qab _ _ _ _ _ (List.replicate 32 0)) hS18 hM18 hge18
 have hE18:=hE15.andN hS18
 have hR20:=(((hR9.extN hS10).extN hS13).extN hS15)
 have hR21:=(((hB5.extN hS10).extN hS13).extN hS15)
 refine qaz rfl rfl (qg5 (qg3 (Foc.id _) hM18 rfl rfl (hV15_0.mono hS18.le) ty24 hB18 (by first | rfl | simp | omega)) ?_)
 rintro w22 (hB22:Bx qab _ _ b18 [] [] (qaT [(preimage a1_kind a2_parts)])) hS22 hM22
 have hE22:=hE18.comp hS22 (fun c hx hlt=>(by subst hx;exact (fun hlt=>absurd hlt (Nat.not_lt.2 (Nat.le_trans hE15.size hge18))) hlt))
 refine qak ?_
 refine qaf ?_
 refine qaf ?_
 refine qac ?_
 refine qaa (.pointer (some ⟨a0_k_b,a0_k_pre.length,none⟩)) (R_mv rfl) rfl rfl ?_
 refine qaa (.bool true) (qmg rfl rfl Try.underlying35) rfl rfl ?_
 refine qak ?_
 refine qay true rfl (fun _=>?_) (fun hc=>by cases hc)
 refine qaf ?_
 refine qac ?_
 refine qaa (.pointer (some ⟨a0_k_b,a0_k_pre.length,none⟩)) (R_mv rfl) rfl rfl ?_
 refine qaa (.pointer (some ⟨a0_k_b,a0_k_pre.length,none⟩)) (qaL rfl) rfl rfl ?_
 refine qaa (.pointer (some ⟨a0_k_b,a0_k_pre.length+2,none⟩)) (R_fa rfl Try.underlying41 rfl rfl ty3 rfl) rfl rfl ?_
 have hR24:=((((hR9.extN hS10).extN hS13).extN hS15).extN hS18)
 have hR25:=(hR24.ext hS22 (fun hx=>(fun he=>(qcs hge18 hR20.lt) he.symm) hx))
 refine WL_L hM22 (qa9 (Foc.snd qal (Kd.int .i64)) rfl ty3 hR25 (by first | rfl | simp | omega) (fun h=>h)) rfl rfl ?_
 rintro v23 (hV23:(Kd.int .i64).V _ a0_k_1 _)
 obtain rfl:=qbk hV23
 refine qaa (.int .i64 (IntKind.i64.wrap (a0_k_1+1))) (qk1 rfl rfl) rfl rfl ?_
 refine qaa (.pointer (some ⟨a0_k_b,a0_k_pre.length,none⟩)) (qaL rfl) rfl rfl ?_
 refine qaa (.pointer (some ⟨a0_k_b,a0_k_pre.length+2,none⟩)) (R_fa rfl Try.underlying41 rfl rfl ty3 rfl) rfl rfl ?_
 refine qaz rfl rfl (qg5 (qg3 (Foc.snd qal (Kd.int .i64)) hM22 rfl rfl (qe0 (qcm _ _)) ty3 hR25 (by first | rfl | simp | omega)) ?_)
 rintro w26 (hB26:Bx qao _ _ a0_k_b a0_k_pre a0_k_post ((a0_k_0_0v,a0_k_0_1v),(IntKind.i64.wrap (a0_k_1+1)))) hS26 hM26
 have hE26:=hE22.comp hS26 (fun c hx hlt=>(by subst hx;exact (fun _=>(.inl rfl)) hlt))
 refine qak ?_
 have hR27:=(hB22.ext hS26 (fun hx=>(qcs hge18 hR20.lt) hx))
 have hR28:=((((hR7.extN hS10).extN hS13).extN hS15).extN hS18)
 have hR29:=(hR28.ext hS22 (fun g hg hx=>(fun g hg hx=>hR28.box hB18 (hg.trans (congrArg some hx))) g hg hx))
 have hR30:=(hR29.ext hS26 (fun g hg hx=>(fun g hg hx=>hR29.box hR25 (hg.trans (congrArg some hx))) g hg hx))
 have hR31:=((((hR8.extN hS10).extN hS13).extN hS15).extN hS18)
 have hR32:=(hR31.ext hS22 (fun g hg hx=>(fun g hg hx=>hR31.box hB18 (hg.trans (congrArg some hx))) g hg hx))
 have hR33:=(hR32.ext hS26 (fun g hg hx=>(fun g hg hx=>hR32.box hR25 (hg.trans (congrArg some hx))) g hg hx))
 refine qbS (K:=K15) (fun c=>c=a0_k_b∨ob a0_k_0_0v=some c∨mb a0_k_0_1v=some c∨w26.heap.size≤c) [.o 0 2,.o 1 2,.o 2 2,.o 3 2,.o 4 2,.o 5 1] (by kernel_rfl) (by kernel_rfl) hM26 ?_
 rintro w34 hS34 hM34
 have hE34:=hE26.andN hS34
 refine qag (.pointer (some ⟨a0_k_b,a0_k_pre.length,none⟩)) rfl l0 hM34 (fun _=>R_mv rfl) rfl (gN rfl) rfl ?_
 refine qag (.pointer (some ⟨a0_k_b,a0_k_pre.length,none⟩)) rfl l0 hM34 (fun _=>qaL rfl) rfl (gN rfl) rfl ?_
 refine qag (.pointer (some ⟨a0_k_b,a0_k_pre.length+0,none⟩)) rfl l0 hM34 (fun _=>R_fa rfl Try.underlying41 rfl rfl ty39 rfl) rfl (gN rfl) rfl ?_
 have hR36:=(hR27.extN hS34)
 refine qbG hM34 (qa9 (Foc.id _) rfl ty24 hR36 (by first | rfl | simp | omega) (fun h=>h)) rfl (gN rfl) rfl ?_
 rintro v35 (hV35:qab.V _ (qaT [(preimage a1_kind a2_parts)]) _)
 refine qag v10_0 rfl l0 hM34 (fun _=>R_mv rfl) rfl (gN rfl) rfl ?_
 have hR38:=(hR30.extN hS34)
 have hR39:=(hR33.extN hS34)
 have hR40:=(hB26.extN hS34)
 have hR41:=((((hB5.extN hS10).extN hS13).extN hS15).extN hS18)
 have hR42:=(hR41.ext hS22 (fun hx=>(fun he=>(qcs hge18 hR21.lt) he.symm) hx))
 have hR43:=((hR42.ext hS26 (fun hx=>(qcs hge5 h_a0_k_B.lt) hx)).extN hS34)
 have hR44:=(((hO10_0.extN hS13).extN hS15).extN hS18)
 have hR45:=(hR44.ext hS22 (fun g hg hx=>(fun g hg hx=>hR44.box hB18 (hg.trans (congrArg some hx))) g hg hx))
 have hR46:=((hR45.ext hS26 (fun g hg hx=>(fun g hg hx=>hR45.box hR25 (hg.trans (congrArg some hx))) g hg hx)).extN hS34)
 have hR47:=((hO13.extN hS15).extN hS18)
 have hR48:=(hR47.ext hS22 (fun g hg hx=>(fun g hg hx=>hR47.box hB18 (hg.trans (congrArg some hx))) g hg hx))
 have hR49:=((hR48.ext hS26 (fun g hg hx=>(fun g hg hx=>hR48.box hR25 (hg.trans (congrArg some hx))) g hg hx)).extN hS34)
 obtain ⟨p51,q51,hl51,hB51,hback51⟩:=Bx.sub (Foc.fst qal (Kd.int .i64)) hR40
 obtain ⟨hp52,h⟩:=h
 refine qgq rfl (gN rfl) rfl (qa0 (qbE Try.call86 (mapC (show (Value.pointer (some ⟨a0_k_b,a0_k_pre.length+0,none⟩))= .pointer (some ⟨a0_k_b,((a0_k_pre:List Value)++p51).length,none⟩) from by rw [List.length_append,hl51];first | done | simp) (mapC rfl (mapC rfl mapN)))) ((qrc hM34 hB51 hR38 hR39 hV35 (Rd.ofV hM34 hR46.V) (fun _ _ h=>h) hp52).mono ?_))
 rintro _ w50 ⟨K50,u50_0_0,u50_0_1,rfl,hS50,hM50,hB50_m0,hu50_0_0,hxu50_0_0,hu50_0_1,hxu50_0_1⟩
 refine ⟨(.tuple #[]),rfl,?_⟩
 refine ⟨K50,(hS50.weak (fun c hlt hx=>Or.elim hx (fun hx=>(.inl (hx))) (fun hx=>Or.elim hx (fun hx=>(.inr (.inl (hx)))) (fun hx=>(.inr (.inr (.inl (hx)))))))),hM50,?_⟩
 have hE50:=hE34.comp hS50 (fun c hx hlt=>Or.elim hx (fun hx=>(by subst hx;exact (fun _=>(.inl rfl)) hlt)) (fun hx=>Or.elim hx (fun hx=>(fun g hg _=>(.inr (.inl hg))) c hx hlt) (fun hx=>(fun g hg _=>(.inr (.inr (hg)))) c hx hlt)))
 have hf53: ∀g,ob u50_0_0=some g→g<w0.heap.size→g=a0_k_b∨ob a0_k_0_0v=some g∨mb a0_k_0_1v=some g:=fun g hg hlt=>(hxu50_0_0 g hg).elim (fun hx=>(fun g hg _=>(.inr (.inl hg))) g hx hlt) (fun hx=>absurd hlt (Nat.not_lt.2 (Nat.le_trans hE34.size hx)))
 have hf54: ∀g,mb u50_0_1=some g→g<w0.heap.size→g=a0_k_b∨ob a0_k_0_0v=some g∨mb a0_k_0_1v=some g:=fun g hg hlt=>(hxu50_0_1 g hg).elim (fun hx=>(fun g hg _=>(.inr (.inr (hg)))) g hx hlt) (fun hx=>absurd hlt (Nat.not_lt.2 (Nat.le_trans hE34.size hx)))
 have hB50_w:Bx qao w50 K50 a0_k_b a0_k_pre a0_k_post ((u50_0_0,u50_0_1),(IntKind.i64.wrap (a0_k_1+1))):=hback51 hS50.le hB50_m0
 refine qcQ ?_
 refine qaf ?_
 refine qac ?_
 have hR56:=(hR36.ext hS50 (fun hx=>Or.elim hx (fun hx=>(qcs hge18 hR20.lt) hx) (fun hx=>Or.elim hx (fun hx=>(hR38.box hR36) hx) (fun hx=>(hR39.box hR36) hx))))
 refine WL_L hM50 (qa9 (Foc.id _) rfl ty24 hR56 (by first | rfl | simp | omega) (fun h=>h)) rfl rfl ?_
 rintro v55 (hV55:qab.V _ (qaT [(preimage a1_kind a2_parts)]) _)
 have hR59:=(hR43.ext hS50 (fun hx=>Or.elim hx (fun hx=>(qcs hge5 h_a0_k_B.lt) hx) (fun hx=>Or.elim hx (fun hx=>(hR38.box hR43) hx) (fun hx=>(hR39.box hR43) hx))))
 refine qaz rfl rfl (qg5 (qg3 (Foc.id _) hM50 rfl rfl hV55 ty24 hR59 (by first | rfl | simp | omega)) ?_)
 rintro w58 (hB58:Bx qab _ _ b5 [] [] (qaT [(preimage a1_kind a2_parts)])) hS58 hM58
 have hE58:=hE50.comp hS58 (fun c hx hlt=>(by subst hx;exact (fun hlt=>absurd hlt (Nat.not_lt.2 (Nat.le_trans hE0.size hge5))) hlt))
 refine qak ?_
 refine qbm ?_
 refine qkf hR (qqm rfl rfl ty24 hB58) ?_
 rintro v60 hV60
 have hR61:=(hu50_0_0.ext hS58 (fun g hg hx=>(fun g hg hx=>hu50_0_0.box hR59 (hg.trans (congrArg some hx))) g hg hx))
 have hR62:=(hu50_0_1.ext hS58 (fun g hg hx=>(fun g hg hx=>hu50_0_1.box hR59 (hg.trans (congrArg some hx))) g hg hx))
 have hR63:=(hB50_w.ext hS58 (fun hx=>(fun he=>(qcs hge5 h_a0_k_B.lt) he.symm) hx))
 exact ⟨K50,v60,u50_0_0,u50_0_1,(qaT [(preimage a1_kind a2_parts)]),(addL a0_k_0_0 (qaT [(preimage a1_kind a2_parts)]) (preimage a1_kind a2_parts)),(addM a0_k_0_0 a0_k_0_1 (qaT [(preimage a1_kind a2_parts)]) (preimage a1_kind a2_parts)),(IntKind.i64.wrap (a0_k_1+1)),rfl,h,hE58,hM58,hV60,hR63,hR61,(fun g hg=>((hxu50_0_0 g hg).elim (fun hz=>(.inl hz)) (fun hz=> .inr (Nat.le_trans hE34.size hz)))),hR62,(fun g hg=>((hxu50_0_1 g hg).elim (fun hz=>(.inl hz)) (fun hz=> .inr (Nat.le_trans hE34.size hz))))⟩
theorem qtS {w0:World} {K0:Ghost} {a0_k_b:Nat} {a0_k_pre a0_k_post:List Value} {a0_k_0_0v:Value} {a0_k_0_0:(List ((List UInt8)×(List UInt8)))} {a0_k_0_1v:Value} {a0_k_0_1:(List ((List UInt8)×Int))} {a0_k_1:Int} {a1_kind_v:Value} {a1_kind:Int} {a2_parts_v:Value} {a2_parts:(List (List UInt8))} (hM0:Models w0 K0) (h_a0_k_B:Bx qao w0 K0 a0_k_b a0_k_pre a0_k_post ((a0_k_0_0v,a0_k_0_1v),a0_k_1)) (h_a0_k_0_0:Own qae 146 w0 K0 a0_k_0_0 a0_k_0_0v) (h_a0_k_0_1:Mp qab (Kd.int .i64) w0 K0 a0_k_0_1 a0_k_0_1v) (h_a1_kind:(Kd.int .i64).V K0 a1_kind a1_kind_v) {D2:Nat→Prop} (h_a2_parts:Rd qaV D2 w0 K0 a2_parts a2_parts_v) (hp:qaW a0_k_0_0 a0_k_0_1∧1+qah a2_parts≤140737488355328∧(a0_k_0_0.length+1) *64≤140737488355328):Calls Try.prog 67 #[(.pointer (some ⟨a0_k_b,a0_k_pre.length,none⟩)),a1_kind_v,a2_parts_v] w0 (fun e w'=> ∃(K':Ghost) (r0:Value) (u0_0_0:Value) (u0_0_1:Value),e= .returned r0∧Ext (fun c=>c=a0_k_b∨ob a0_k_0_0v=some c∨mb a0_k_0_1v=some c) w0 K0 w' K'∧Models w' K'∧qab.V K' (qaj a1_kind a2_parts) r0∧Bx qao w' K' a0_k_b a0_k_pre a0_k_post ((u0_0_0,u0_0_1),(IntKind.i64.wrap (a0_k_1+1)))∧Own qae 146 w' K' (addL a0_k_0_0 (qaj a1_kind a2_parts) (preimage a1_kind a2_parts)) u0_0_0∧(∀g,ob u0_0_0=some g→ob a0_k_0_0v=some g∨w0.heap.size≤g)∧Mp qab (Kd.int .i64) w' K' (addM a0_k_0_0 a0_k_0_1 (qaj a1_kind a2_parts) (preimage a1_kind a2_parts)) u0_0_1∧(∀g,mb u0_0_1=some g→mb a0_k_0_1v=some g∨w0.heap.size≤g)):=by
 refine (qoC hM0 h_a0_k_B h_a0_k_0_0 h_a0_k_0_1 h_a1_kind h_a2_parts (qso h_a1_kind.wf h_a2_parts.wf hp)).mono ?_
 rintro _ w' ⟨K',r0,u0,u1,o0,o1,o2,o3,rfl,⟨rfl,rfl,rfl,rfl⟩,hF⟩
 exact ⟨K',r0,u0,u1,rfl,hF⟩
def qjT (a1_kind:Int) (a2_parts:(List (List UInt8))) (Q:(List UInt8)→Prop):Prop:=
 (1+qah a2_parts≤140737488355328)∧((qai.wf (preimage a1_kind a2_parts))→(((1+ [(preimage a1_kind a2_parts)].length) *24≤140737488355328∧[(preimage a1_kind a2_parts)].flatten.length≤140737488355328)∧((qab.wf (qaT [(preimage a1_kind a2_parts)]))→(Q (qaT [(preimage a1_kind a2_parts)])))))
theorem qsq {a1_kind:Int} {a2_parts:(List (List UInt8))} (w_0:(Kd.int .i64).wf a1_kind) (w_1:qaV.wf a2_parts) (hp:1+qah a2_parts≤140737488355328):qjT a1_kind a2_parts (fun o0=>o0=(qaj a1_kind a2_parts)):=by
 have hl:=qbw a1_kind hp
 unfold qjT
 exact ⟨hp,fun _=>⟨⟨by simp,by simpa using by omega⟩,fun _=>rfl⟩⟩
theorem qoD {w0:World} {K0:Ghost} {a1_kind_v:Value} {a1_kind:Int} {a2_parts_v:Value} {a2_parts:(List (List UInt8))} {Q:(List UInt8)→Prop} (hM0:Models w0 K0) (h_a1_kind:(Kd.int .i64).V K0 a1_kind a1_kind_v) {D2:Nat→Prop} (h_a2_parts:Rd qaV D2 w0 K0 a2_parts a2_parts_v) (h:qjT a1_kind a2_parts Q):Calls Try.prog 67 #[(.pointer none),a1_kind_v,a2_parts_v] w0 (fun e w'=> ∃(K':Ghost) (r0:Value) (o0:(List UInt8)),e= .returned r0∧Q o0∧Ext NX w0 K0 w' K'∧Models w' K'∧qab.V K' o0 r0):=by
 unfold qjT at h
 obtain rfl:=qbk h_a1_kind
 have hE0:Ext NX w0 K0 w0 K0:=Ext.refl _ _ _
 refine qaF fun R hR=>?_
 refine qaD (args:=[(.pointer none),(.int .i64 a1_kind),a2_parts_v]) Try.func67 rfl (Nat.le_of_ble_eq_true rfl) ?_
 refine qaf ?_
 refine qac ?_
 refine qaz rfl rfl (St_B (qcW hM0 ty24) ?_)
 rintro b2 w2 (hB2:Bx qab _ _ _ _ _ (List.replicate 32 0)) hS2 hM2 hge2
 have hE2:=hE0.andN hS2
 refine qak ?_
 refine qaf ?_
 refine qac ?_
 refine qaa (.int .i64 a1_kind) (R_mv rfl) rfl rfl ?_
 refine qaa a2_parts_v (R_mv rfl) rfl rfl ?_
 obtain ⟨hp5,h⟩:=h
 refine qaz rfl rfl (qa0 (qbE Try.call98 rfl) ((qeM hM2 (qe0 (h_a1_kind).wf) (h_a2_parts.ext hS2 hM2 (fun _ h=>h.elim)) hp5).mono ?_))
 rintro _ w4 ⟨K4,v4_0,rfl,hS4,hM4,hO4_0,hg4_0⟩
 refine ⟨v4_0,rfl,?_⟩
 have hE4:=hE2.andN hS4
 have h:=h hO4_0.wf
 refine qaa v4_0 (R_as rfl) rfl rfl ?_
 refine qak ?_
 refine qaf ?_
 refine qac ?_
 refine qaa v4_0 (R_mv rfl) rfl rfl ?_
 refine qaz rfl rfl (qoK (qiY (k:=qai) (l:=[((preimage a1_kind a2_parts),v4_0)]) hM4 rfl (by intro p hp;simp only [List.mem_cons,List.not_mem_nil,or_false] at hp;subst hp;exact hO4_0.V) rfl Try.underlying96 ty32 rfl rfl) ?_)
 rintro v7 w7 K7 (hO7:Own qai 32 w7 K7 [(preimage a1_kind a2_parts)] v7) hS7 hM7 hg7
 have hE7:=hE4.andN hS7
 obtain ⟨hp10,h⟩:=h
 refine qaz rfl rfl (qa0 (qbE Try.call110 rfl) ((qjZ hM7 hO7.V hp10).mono ?_))
 rintro _ w9 ⟨K9,v9_0,rfl,hS9,hM9,hV9_0⟩
 refine ⟨v9_0,rfl,?_⟩
 have hE9:=hE7.andN hS9
 have h:=h hV9_0.wf
 refine qaz rfl rfl (St_B (qcW hM9 ty24) ?_)
 rintro b12 w12 (hB12:Bx qab _ _ _ _ _ (List.replicate 32 0)) hS12 hM12 hge12
 have hE12:=hE9.andN hS12
 have hR14:=(((hB2.extN hS4).extN hS7).extN hS9)
 refine qaz rfl rfl (qg5 (qg3 (Foc.id _) hM12 rfl rfl (hV9_0.mono hS12.le) ty24 hB12 (by first | rfl | simp | omega)) ?_)
 rintro w15 (hB15:Bx qab _ _ b12 [] [] (qaT [(preimage a1_kind a2_parts)])) hS15 hM15
 have hE15:=hE12.comp hS15 (fun c hx hlt=>(by subst hx;exact (fun hlt=>absurd hlt (Nat.not_lt.2 (Nat.le_trans hE9.size hge12))) hlt))
 refine qak ?_
 refine qaf ?_
 refine qaf ?_
 refine qac ?_
 refine qaa (.pointer none) (R_mv rfl) rfl rfl ?_
 refine qaa (.bool false) (qhW rfl rfl Try.underlying35) rfl rfl ?_
 refine qak ?_
 refine qay false rfl (fun hc=>by cases hc) (fun _=>?_)
 refine qaO ?_
 refine qaf ?_
 refine qac ?_
 refine WL_L hM15 (qa9 (Foc.id _) rfl ty24 hB15 (by first | rfl | simp | omega) (fun h=>h)) rfl rfl ?_
 rintro v16 (hV16:qab.V _ (qaT [(preimage a1_kind a2_parts)]) _)
 have hR19:=((((hB2.extN hS4).extN hS7).extN hS9).extN hS12)
 have hR20:=(hR19.ext hS15 (fun hx=>(fun he=>(qcs hge12 hR14.lt) he.symm) hx))
 refine qaz rfl rfl (qg5 (qg3 (Foc.id _) hM15 rfl rfl hV16 ty24 hR20 (by first | rfl | simp | omega)) ?_)
 rintro w18 (hB18:Bx qab _ _ b2 [] [] (qaT [(preimage a1_kind a2_parts)])) hS18 hM18
 have hE18:=hE15.comp hS18 (fun c hx hlt=>(by subst hx;exact (fun hlt=>absurd hlt (Nat.not_lt.2 (Nat.le_trans hE0.size hge2))) hlt))
 refine qak ?_
 refine qbm ?_
 refine qkf hR (qqm rfl rfl ty24 hB18) ?_
 rintro v21 hV21
 exact ⟨K9,v21,(qaT [(preimage a1_kind a2_parts)]),rfl,h,hE18,hM18,hV21⟩
theorem qtU {w0:World} {K0:Ghost} {a1_kind_v:Value} {a1_kind:Int} {a2_parts_v:Value} {a2_parts:(List (List UInt8))} (hM0:Models w0 K0) (h_a1_kind:(Kd.int .i64).V K0 a1_kind a1_kind_v) {D2:Nat→Prop} (h_a2_parts:Rd qaV D2 w0 K0 a2_parts a2_parts_v) (hp:1+qah a2_parts≤140737488355328):Calls Try.prog 67 #[(.pointer none),a1_kind_v,a2_parts_v] w0 (fun e w'=> ∃(K':Ghost) (r0:Value),e= .returned r0∧Ext NX w0 K0 w' K'∧Models w' K'∧qab.V K' (qaj a1_kind a2_parts) r0):=by
 refine (qoD hM0 h_a1_kind h_a2_parts (qsq h_a1_kind.wf h_a2_parts.wf hp)).mono ?_
 rintro _ w' ⟨K',r0,o0,rfl,rfl,hF⟩
 exact ⟨K',r0,rfl,hF⟩
def qgZ (a1_s:(List UInt8)) (a2_b:(List UInt8)) (Q:Prop):Prop:=
 Q
theorem qoB {a1_s:(List UInt8)} {a2_b:(List UInt8)} (w_0:qab.wf a1_s) (w_1:qai.wf a2_b):qgZ a1_s a2_b (True):=by
 trivial
theorem qkV {w0:World} {K0:Ghost} {a1_s_v:Value} {a1_s:(List UInt8)} {a2_b_v:Value} {a2_b:(List UInt8)} {Q:Prop} (hM0:Models w0 K0) (h_a1_s:qab.V K0 a1_s a1_s_v) (h_a2_b:qai.wf a2_b) (h:qgZ a1_s a2_b Q):Calls Try.prog 56 #[(.pointer none),a1_s_v,a2_b_v] w0 (fun e w'=> ∃(K':Ghost),e= .returned (.tuple #[])∧Q∧Ext NX w0 K0 w' K'∧Models w' K'):=by
 unfold qgZ at h
 have hE0:Ext NX w0 K0 w0 K0:=Ext.refl _ _ _
 refine qaF fun R hR=>?_
 refine qaD (args:=[(.pointer none),a1_s_v,a2_b_v]) Try.func56 rfl (Nat.le_of_ble_eq_true rfl) ?_
 refine qaf ?_
 refine qac ?_
 refine qaz rfl rfl (St_B (qeU hM0 rfl h_a1_s) ?_)
 rintro b3 w3 (hB3:Bx qab _ _ _ _ _ a1_s) hS3 hM3 hge3
 have hE3:=hE0.andN hS3
 refine qak ?_
 refine qaf ?_
 refine qac ?_
 refine qaa (.pointer none) (R_mv rfl) rfl rfl ?_
 refine qaa (.bool false) (qhW rfl rfl Try.underlying35) rfl rfl ?_
 refine qak ?_
 refine qay false rfl (fun hc=>by cases hc) (fun _=>?_)
 refine qaO ?_
 exact qhl hR (v:=(.tuple #[])) (qkA rfl) ⟨K0,rfl,h,hE3,hM3⟩
theorem qqS {w0:World} {K0:Ghost} {a1_s_v:Value} {a1_s:(List UInt8)} {a2_b_v:Value} {a2_b:(List UInt8)} (hM0:Models w0 K0) (h_a1_s:qab.V K0 a1_s a1_s_v) (h_a2_b:qai.wf a2_b):Calls Try.prog 56 #[(.pointer none),a1_s_v,a2_b_v] w0 (fun e w'=> ∃(K':Ghost),e= .returned (.tuple #[])∧Ext NX w0 K0 w' K'∧Models w' K'):=by
 refine (qkV hM0 h_a1_s h_a2_b (qoB h_a1_s.wf h_a2_b)).mono ?_
 rintro _ w' ⟨K',rfl, -,hF⟩
 exact ⟨K',rfl,hF⟩
def qfl  (Q:Int→Prop):Prop:=
 Q 0
theorem qlC  :qfl  (fun o0=>o0=(0:Int)):=by
 rfl
theorem qiI {w0:World} {K0:Ghost}  {Q:Int→Prop} (hM0:Models w0 K0)  (h:qfl  Q):Calls Try.prog 99 #[(.pointer none)] w0 (fun e w'=> ∃(K':Ghost) (r0:Value) (o0:Int),e= .returned r0∧Q o0∧Ext NX w0 K0 w' K'∧Models w' K'∧(Kd.int .i64).V K' o0 r0):=by
 unfold qfl at h
 have hE0:Ext NX w0 K0 w0 K0:=Ext.refl _ _ _
 refine qaF fun R hR=>?_
 refine qaD (args:=[(.pointer none)]) Try.func99 rfl (Nat.le_of_ble_eq_true rfl) ?_
 refine qaf ?_
 refine qac ?_
 refine qaa (.int .i64 0) (R_as rfl) rfl rfl ?_
 refine qak ?_
 refine qaf ?_
 refine qaf ?_
 refine qac ?_
 refine qaa (.pointer none) (R_mv rfl) rfl rfl ?_
 refine qaa (.bool true) (qgo rfl rfl Try.underlying35) rfl rfl ?_
 refine qak ?_
 refine qay true rfl (fun _=>?_) (fun hc=>by cases hc)
 refine qaf ?_
 refine qac ?_
 refine qaa (.int .i64 0) (R_as rfl) rfl rfl ?_
 refine qak ?_
 refine qbm ?_
 exact qaN hR (v:=(.int .i64 0)) (qcv rfl rfl) ⟨K0,(.int .i64 0),0,rfl,h,hE0,hM0,(qe0 (show (Kd.int .i64).wf 0 from by constructor<;>decide))⟩
theorem qoj {w0:World} {K0:Ghost}  (hM0:Models w0 K0)  :Calls Try.prog 99 #[(.pointer none)] w0 (fun e w'=> ∃(K':Ghost) (r0:Value),e= .returned r0∧Ext NX w0 K0 w' K'∧Models w' K'∧(Kd.int .i64).V K' (0:Int) r0):=by
 refine (qiI hM0  (qlC)).mono ?_
 rintro _ w' ⟨K',r0,o0,rfl,rfl,hF⟩
 exact ⟨K',r0,rfl,hF⟩
def qgV (a1_s:(List UInt8)) (Q:(List UInt8)→Bool→Prop):Prop:=
 Q ([]:List UInt8) false
theorem qov {a1_s:(List UInt8)} (w_0:qab.wf a1_s):qgV a1_s (fun o0 o1=>o0=([]:List UInt8)∧o1=false):=by
 exact ⟨rfl,rfl⟩
theorem qkQ {w0:World} {K0:Ghost} {a1_s_v:Value} {a1_s:(List UInt8)} {Q:(List UInt8)→Bool→Prop} (hM0:Models w0 K0) (h_a1_s:qab.V K0 a1_s a1_s_v) (h:qgV a1_s Q):Calls Try.prog 52 #[(.pointer none),a1_s_v] w0 (fun e w'=> ∃(K':Ghost) (r0:Value) (r1:Value) (o0:(List UInt8)) (o1:Bool),e= .returned (.tuple #[r0,r1])∧Q o0 o1∧Ext NX w0 K0 w' K'∧Models w' K'∧Own Kd.byte 5 w' K' o0 r0∧(∀g,ob r0=some g→w0.heap.size≤g)∧Kd.bool.V K' o1 r1):=by
 unfold qgV at h
 have hE0:Ext NX w0 K0 w0 K0:=Ext.refl _ _ _
 refine qaF fun R hR=>?_
 refine qaD (args:=[(.pointer none),a1_s_v]) Try.func52 rfl (Nat.le_of_ble_eq_true rfl) ?_
 refine qaf ?_
 refine qac ?_
 refine qaz rfl rfl (St_B (qeU hM0 rfl h_a1_s) ?_)
 rintro b2 w2 (hB2:Bx qab _ _ _ _ _ a1_s) hS2 hM2 hge2
 have hE2:=hE0.andN hS2
 have hR4:Own Kd.byte 5 w2 K0 ([]:List UInt8) (.slice none 0 0):=Own.nil
 refine qaa (.slice none 0 0) (R_as rfl) rfl rfl ?_
 refine qaa (.bool false) (R_as rfl) rfl rfl ?_
 refine qak ?_
 refine qaf ?_
 refine qaf ?_
 refine qac ?_
 refine qaa (.pointer none) (R_mv rfl) rfl rfl ?_
 refine qaa (.bool true) (qgo rfl rfl Try.underlying35) rfl rfl ?_
 refine qak ?_
 refine qay true rfl (fun _=>?_) (fun hc=>by cases hc)
 refine qaf ?_
 refine qac ?_
 have hR5:Own Kd.byte 5 w2 K0 ([]:List UInt8) (.slice none 0 0):=Own.nil
 refine qaa (.slice none 0 0) (R_as rfl) rfl rfl ?_
 refine qaa (.bool false) (R_as rfl) rfl rfl ?_
 refine qak ?_
 refine qbm ?_
 exact qaN hR (v:=(.tuple #[(.slice none 0 0),(.bool false)])) (qnJ rfl rfl rfl) ⟨K0,(.slice none 0 0),(.bool false),([]:List UInt8),false,rfl,h,hE2,hM2,hR5,(fun g hg=>nilS hg),qcp⟩
theorem qqG {w0:World} {K0:Ghost} {a1_s_v:Value} {a1_s:(List UInt8)} (hM0:Models w0 K0) (h_a1_s:qab.V K0 a1_s a1_s_v):Calls Try.prog 52 #[(.pointer none),a1_s_v] w0 (fun e w'=> ∃(K':Ghost) (r0:Value) (r1:Value),e= .returned (.tuple #[r0,r1])∧Ext NX w0 K0 w' K'∧Models w' K'∧Own Kd.byte 5 w' K' ([]:List UInt8) r0∧(∀g,ob r0=some g→w0.heap.size≤g)∧Kd.bool.V K' false r1):=by
 refine (qkQ hM0 h_a1_s (qov h_a1_s.wf)).mono ?_
 rintro _ w' ⟨K',r0,r1,o0,o1,rfl,⟨rfl,rfl⟩,hF⟩
 exact ⟨K',r0,r1,rfl,hF⟩
def qiE  (Q:(List (List UInt8))→Prop):Prop:=
 Q ([]:List (List UInt8))
theorem qqz  :qiE  (fun o0=>o0=([]:List (List UInt8))):=by
 rfl
theorem qlx {w0:World} {K0:Ghost}  {Q:(List (List UInt8))→Prop} (hM0:Models w0 K0)  (h:qiE  Q):Calls Try.prog 100 #[(.pointer none)] w0 (fun e w'=> ∃(K':Ghost) (r0:Value) (o0:(List (List UInt8))),e= .returned r0∧Q o0∧Ext NX w0 K0 w' K'∧Models w' K'∧Own qai 32 w' K' o0 r0∧(∀g,ob r0=some g→w0.heap.size≤g)):=by
 unfold qiE at h
 have hE0:Ext NX w0 K0 w0 K0:=Ext.refl _ _ _
 refine qaF fun R hR=>?_
 refine qaD (args:=[(.pointer none)]) Try.func100 rfl (Nat.le_of_ble_eq_true rfl) ?_
 refine qaf ?_
 refine qac ?_
 have hR1:Own qai 32 w0 K0 ([]:List (List UInt8)) (.slice none 0 0):=Own.nil
 refine qaa (.slice none 0 0) (R_as rfl) rfl rfl ?_
 refine qak ?_
 refine qaf ?_
 refine qaf ?_
 refine qac ?_
 refine qaa (.pointer none) (R_mv rfl) rfl rfl ?_
 refine qaa (.bool true) (qgo rfl rfl Try.underlying35) rfl rfl ?_
 refine qak ?_
 refine qay true rfl (fun _=>?_) (fun hc=>by cases hc)
 refine qaf ?_
 refine qac ?_
 have hR2:Own qai 32 w0 K0 ([]:List (List UInt8)) (.slice none 0 0):=Own.nil
 refine qaa (.slice none 0 0) (R_as rfl) rfl rfl ?_
 refine qak ?_
 refine qbm ?_
 exact qaN hR (v:=(.slice none 0 0)) (qcv rfl rfl) ⟨K0,(.slice none 0 0),([]:List (List UInt8)),rfl,h,hE0,hM0,hR2,(fun g hg=>nilS hg)⟩
theorem qr7 {w0:World} {K0:Ghost}  (hM0:Models w0 K0)  :Calls Try.prog 100 #[(.pointer none)] w0 (fun e w'=> ∃(K':Ghost) (r0:Value),e= .returned r0∧Ext NX w0 K0 w' K'∧Models w' K'∧Own qai 32 w' K' ([]:List (List UInt8)) r0∧(∀g,ob r0=some g→w0.heap.size≤g)):=by
 refine (qlx hM0  (qqz)).mono ?_
 rintro _ w' ⟨K',r0,o0,rfl,rfl,hF⟩
 exact ⟨K',r0,rfl,hF⟩
theorem Of_c {w0:World} {K0:Ghost} {a0_k_v:Value} {a0_k_F:Nat→Prop} {a0_k:qav} {a1_kind_v:Value} {a1_kind:Int} {a2_parts_v:Value} {a2_parts:(List (List UInt8))} (hM0:Models w0 K0) (h_a0_k:qiH w0 K0 a0_k_v a0_k_F a0_k) (h_a1_kind:(Kd.int .i64).V K0 a1_kind a1_kind_v) {D2:Nat→Prop} (h_a2_parts:Rd qaV D2 w0 K0 a2_parts a2_parts_v) (hp:1+qah a2_parts≤140737488355328∧qaZ a0_k):Calls Try.prog 67 #[a0_k_v,a1_kind_v,a2_parts_v] w0 (fun e w'=> ∃(K':Ghost) (r0:Value) (F0:Nat→Prop),e= .returned r0∧Ext a0_k_F w0 K0 w' K'∧Models w' K'∧qab.V K' (qaj a1_kind a2_parts) r0∧qiH w' K' a0_k_v F0 (qaH a0_k a1_kind a2_parts)∧(∀g,F0 g→a0_k_F g∨w0.heap.size≤g)):=by
 cases a0_k with
 | none=>
   obtain ⟨rfl,rfl⟩:=h_a0_k
   refine (qtU hM0 h_a1_kind h_a2_parts hp.1).mono ?_
   rintro _ w' ⟨K',r0,rfl,hE,hM,hr0⟩
   exact ⟨K',r0,NX,rfl,hE,hM,hr0,⟨rfl,rfl⟩,fun g hg=>hg.elim⟩
 | some x=>
   obtain ⟨b,pre,post,lv,mv,m,rfl,hB,hO,hm,hi,hF,hlt⟩:=h_a0_k
   refine (qtS hM0 hB hO hm h_a1_kind h_a2_parts ⟨hi,hp.1,hp.2 x rfl⟩).mono ?_
   rintro _ w' ⟨K',r0,u0,u1,rfl,hE,hM,hr0,hB',hO',hx,hm',hy⟩
   refine ⟨K',r0,_,rfl,hE.weak (fun g hg hx=>hF g hx),hM,hr0,qaE.mk hB' hO' hm' (qmt hi _ _),fun g hg=>?_⟩
   rcases hg with rfl | hg | hg
   ·exact .inl (hF _ (.inl rfl))
   ·exact (hx g hg).imp (fun h=>hF g (.inr (.inl h))) id
   ·exact (hy g hg).imp (fun h=>hF g (.inr (.inr h))) id
theorem qlZ {w0:World} {K0:Ghost} {a0_k_v:Value} {a0_k_F:Nat→Prop} {a0_k:qav} {a1_s_v:Value} {a1_s:(List UInt8)} {a2_b_v:Value} {a2_b:(List UInt8)} (hM0:Models w0 K0) (h_a0_k:qiH w0 K0 a0_k_v a0_k_F a0_k) (h_a1_s:qab.V K0 a1_s a1_s_v) {D2:Nat→Prop} (h_a2_b:Rd qai D2 w0 K0 a2_b a2_b_v) (hD2: ∀g,a0_k_F g→¬D2 g) (hp:a2_b.length≤140737488355328∧qaZ a0_k):Calls Try.prog 56 #[a0_k_v,a1_s_v,a2_b_v] w0 (fun e w'=> ∃(K':Ghost) (F0:Nat→Prop),e= .returned (.tuple #[])∧Ext a0_k_F w0 K0 w' K'∧Models w' K'∧qiH w' K' a0_k_v F0 (qam a0_k a1_s a2_b)∧(∀g,F0 g→a0_k_F g∨w0.heap.size≤g)):=by
 cases a0_k with
 | none=>
   obtain ⟨rfl,rfl⟩:=h_a0_k
   refine (qqS hM0 h_a1_s h_a2_b.wf ).mono ?_
   rintro _ w' ⟨K',rfl,hE,hM⟩
   exact ⟨K',NX,rfl,hE,hM,⟨rfl,rfl⟩,fun g hg=>hg.elim⟩
 | some x=>
   obtain ⟨b,pre,post,lv,mv,m,rfl,hB,hO,hm,hi,hF,hlt⟩:=h_a0_k
   refine (qsk hM0 hB hO hm h_a1_s h_a2_b (fun g hg=>hD2 g (hF g hg)) ⟨hi,hp.1,hp.2 x rfl⟩).mono ?_
   rintro _ w' ⟨K',u0,u1,rfl,hE,hM,hB',hO',hx,hm',hy⟩
   refine ⟨K',_,rfl,hE.weak (fun g hg hx=>hF g hx),hM,qaE.mk hB' hO' hm' (qmt hi _ _),fun g hg=>?_⟩
   rcases hg with rfl | hg | hg
   ·exact .inl (hF _ (.inl rfl))
   ·exact (hx g hg).imp (fun h=>hF g (.inr (.inl h))) id
   ·exact (hy g hg).imp (fun h=>hF g (.inr (.inr h))) id
theorem qok {w0:World} {K0:Ghost} {a0_k_v:Value} {a0_k_F:Nat→Prop} {a0_k:qav} (hM0:Models w0 K0) (h_a0_k:qiH w0 K0 a0_k_v a0_k_F a0_k):Calls Try.prog 99 #[a0_k_v] w0 (fun e w'=> ∃(K':Ghost) (r0:Value),e= .returned r0∧Ext NX w0 K0 w' K'∧Models w' K'∧(Kd.int .i64).V K' (qbr a0_k) r0):=by
 cases a0_k with
 | none=>
   obtain ⟨rfl,rfl⟩:=h_a0_k
   exact (qoj hM0  )
 | some x=>
   obtain ⟨b,pre,post,lv,mv,m,rfl,hB,hO,hm,hi,hF,hlt⟩:=h_a0_k
   exact (qqD hM0 hB hO hm  )
theorem qlO {w0:World} {K0:Ghost} {a0_k_v:Value} {a0_k_F:Nat→Prop} {a0_k:qav} {a1_s_v:Value} {a1_s:(List UInt8)} (hM0:Models w0 K0) (h_a0_k:qiH w0 K0 a0_k_v a0_k_F a0_k) (h_a1_s:qab.V K0 a1_s a1_s_v) (hp:qaU a0_k):Calls Try.prog 52 #[a0_k_v,a1_s_v] w0 (fun e w'=> ∃(K':Ghost) (r0:Value) (r1:Value),e= .returned (.tuple #[r0,r1])∧Ext NX w0 K0 w' K'∧Models w' K'∧Own Kd.byte 5 w' K' (qby a0_k a1_s) r0∧(∀g,ob r0=some g→w0.heap.size≤g)∧Kd.bool.V K' (qcE a0_k a1_s) r1):=by
 cases a0_k with
 | none=>
   obtain ⟨rfl,rfl⟩:=h_a0_k
   exact (qqG hM0 h_a1_s )
 | some x=>
   obtain ⟨b,pre,post,lv,mv,m,rfl,hB,hO,hm,hi,hF,hlt⟩:=h_a0_k
   exact (qsb hM0 hB hO hm h_a1_s ⟨hi,(hp x rfl).2⟩)
theorem qr8 {w0:World} {K0:Ghost} {a0_k_v:Value} {a0_k_F:Nat→Prop} {a0_k:qav} (hM0:Models w0 K0) (h_a0_k:qiH w0 K0 a0_k_v a0_k_F a0_k) (hp:qaU a0_k):Calls Try.prog 100 #[a0_k_v] w0 (fun e w'=> ∃(K':Ghost) (r0:Value),e= .returned r0∧Ext NX w0 K0 w' K'∧Models w' K'∧Own qai 32 w' K' (qeq a0_k) r0∧(∀g,ob r0=some g→w0.heap.size≤g)):=by
 cases a0_k with
 | none=>
   obtain ⟨rfl,rfl⟩:=h_a0_k
   exact (qr7 hM0  )
 | some x=>
   obtain ⟨b,pre,post,lv,mv,m,rfl,hB,hO,hm,hi,hF,hlt⟩:=h_a0_k
   exact (qkN hM0 hB hO hm  (hp x rfl))
abbrev qb6:Kd ((List ((List UInt8)×(List UInt8)))×Unit):=(Kd.pr qau Kd.anm)
abbrev qgc:Kd (((List ((List UInt8)×(List UInt8)))×Unit)×Int):=(Kd.pr qb6 (Kd.int .i64))
abbrev qbT:Kd (Option (((List ((List UInt8)×(List UInt8)))×Unit)×Int)):=(Kd.ptr qgc)
abbrev qbz:Kd (List (Option (((List ((List UInt8)×(List UInt8)))×Unit)×Int))):=(Kd.sl qbT)
theorem ty41:TyOk Try.prog 41 qao 40:=⟨⟨Try.t41,_,Try.type41,rfl,rfl,rfl,rfl,rfl⟩,⟨_,Try.underlying41,rfl⟩⟩
theorem qtN:TyOk Try.prog 35 qbT 8:=⟨⟨Try.t35,_,Try.type35,rfl,rfl,rfl,rfl,rfl⟩,⟨_,Try.underlying35,rfl⟩⟩
theorem qvb:TyOk Try.prog 39 qb6 32:=⟨⟨Try.t39,_,Try.type39,rfl,rfl,rfl,rfl,rfl⟩,⟨_,Try.underlying39,rfl⟩⟩
theorem ty36:TyOk Try.prog 36 qau 24:=⟨⟨Try.t36,_,Try.type36,rfl,rfl,rfl,rfl,rfl⟩,⟨_,Try.underlying36,rfl⟩⟩
theorem fs41 {fs:Array Field} (h:Try.prog.underlying 41=some (.struct fs)): ∀f∈fs.toList,∃i,Try.prog.info? f.type=some i:=by
 have h2:=(Try.underlying41).symm.trans h
 cases h2
 intro f hf
 simp only [List.mem_cons,List.not_mem_nil,or_false] at hf
 rcases hf with rfl | rfl
 ·exact ⟨_,Try.type39⟩
 ·exact ⟨_,Try.type3⟩
def qe1 (a0_l:(List (Option (((List ((List UInt8)×(List UInt8)))×Unit)×Int)))) (Q:(List UInt8)→(List UInt8)→Bool→Prop):Prop:=
 ∃(I10:(List UInt8)→(List UInt8)→Bool→Int→(List ((List UInt8)×(List UInt8)))→(List ((List UInt8)×Int))→Prop) (μ10:(List UInt8)→(List UInt8)→Bool→Int→(List ((List UInt8)×(List UInt8)))→(List ((List UInt8)×Int))→Nat),I10 ([]:List UInt8) ([]:List UInt8) false 0 ([]:List ((List UInt8)×(List UInt8))) ([]:List ((List UInt8)×Int))∧∀(a10:(List UInt8)) (b10:(List UInt8)) (found10:Bool) (i10:Int) (y10:(List ((List UInt8)×(List UInt8)))) (y10':(List ((List UInt8)×Int))),I10 a10 b10 found10 i10 y10 y10'→(qai.wf a10)→(qai.wf b10)→((Kd.int .i64).wf i10)→(qau.wf y10)→(((i10<(a0_l.length:Int))→(0≤i10∧i10<(a0_l.length:Int))∧(((((ix a0_l i10).isNone)=true)→I10 a10 b10 found10 (i10+1) y10 y10'∧μ10 a10 b10 found10 (i10+1) y10 y10'<μ10 a10 b10 found10 i10 y10 y10')∧((((ix a0_l i10).isNone)=false)→∀(y20:(((List ((List UInt8)×(List UInt8)))×Unit)×Int)),(ix a0_l i10)=some y20→(∃(I28:(List UInt8)→(List UInt8)→Bool→Int→(List ((List UInt8)×(List UInt8)))→(List ((List UInt8)×Int))→Prop) (μ28:(List UInt8)→(List UInt8)→Bool→Int→(List ((List UInt8)×(List UInt8)))→(List ((List UInt8)×Int))→Nat),I28 a10 b10 found10 0 y10 y10'∧∀(a28:(List UInt8)) (b28:(List UInt8)) (found28:Bool) (i28:Int) (y28:(List ((List UInt8)×(List UInt8)))) (y28':(List ((List UInt8)×Int))),I28 a28 b28 found28 i28 y28 y28'→(qai.wf a28)→(qai.wf b28)→((Kd.int .i64).wf i28)→(qau.wf y28)→(((i28<(y20.1.1.length:Int))→(0≤i28∧i28<(y20.1.1.length:Int))∧(((((mfind ((ix y20.1.1 i28).1) y28').isSome)=true)→((0≤((mfind ((ix y20.1.1 i28).1) y28').getD 0)∧((mfind ((ix y20.1.1 i28).1) y28').getD 0)<(y28.length:Int))∧(True)))∧((((((mfind ((ix y20.1.1 i28).1) y28').isSome)=true)∧(¬(((ix y28 ((mfind ((ix y20.1.1 i28).1) y28').getD 0)).2)=((ix y20.1.1 i28).2))))→(0≤((mfind ((ix y20.1.1 i28).1) y28').getD 0)∧((mfind ((ix y20.1.1 i28).1) y28').getD 0)<(y28.length:Int))∧((((ix y28 ((mfind ((ix y20.1.1 i28).1) y28').getD 0)).2).length≤140737488355328)∧((qai.wf ((ix y28 ((mfind ((ix y20.1.1 i28).1) y28').getD 0)).2))→((((ix y20.1.1 i28).2).length≤140737488355328)∧((qai.wf ((ix y20.1.1 i28).2))→(Q ((ix y28 ((mfind ((ix y20.1.1 i28).1) y28').getD 0)).2) ((ix y20.1.1 i28).2) true))))))∧((¬((((mfind ((ix y20.1.1 i28).1) y28').isSome)=true)∧(¬(((ix y28 ((mfind ((ix y20.1.1 i28).1) y28').getD 0)).2)=((ix y20.1.1 i28).2)))))→(qaW y28 y28'∧((ix y20.1.1 i28).2).length≤140737488355328∧(y28.length+1) *64≤140737488355328)∧(I28 a28 b28 found28 (i28+1) (addL y28 ((ix y20.1.1 i28).1) ((ix y20.1.1 i28).2)) (addM y28 y28' ((ix y20.1.1 i28).1) ((ix y20.1.1 i28).2))∧μ28 a28 b28 found28 (i28+1) (addL y28 ((ix y20.1.1 i28).1) ((ix y20.1.1 i28).2)) (addM y28 y28' ((ix y20.1.1 i28).1) ((ix y20.1.1 i28).2))<μ28 a28 b28 found28 i28 y28 y28')))))∧((¬(i28<(y20.1.1.length:Int)))→I10 a28 b28 found28 (IntKind.i64.wrap (i10+1)) y28 y28'∧μ10 a28 b28 found28 (IntKind.i64.wrap (i10+1)) y28 y28'<μ10 a10 b10 found10 i10 y10 y10'))))))∧((¬(i10<(a0_l.length:Int)))→Q ([]:List UInt8) ([]:List UInt8) false))
theorem qon {a0_l:(List (Option (((List ((List UInt8)×(List UInt8)))×Unit)×Int)))} (w_0:qbz.wf a0_l) (hp:qcF a0_l):qe1 a0_l (fun o0 o1 o2=>o0=(qaK a0_l).1∧o1=(qaK a0_l).2.1∧o2=(qaK a0_l).2.2):=by
 obtain ⟨hp1,hp2⟩:=hp
 unfold qe1
 refine ⟨fun _ _ _ i l m=> ∃j:Nat,i=(j:Int)∧j≤a0_l.length∧qaK a0_l=qaM l (qaX (a0_l.drop j))∧qaW l m∧l.length≤(qaX (a0_l.take j)).length∧∀z∈l,z∈qaX a0_l,fun _ _ _ i _ _=>a0_l.length - i.toNat,⟨0,rfl,by omega,by simp [qaK],fun s=>rfl,by simp,by simp⟩,?_⟩
 rintro a b f i l m ⟨j,rfl,hj,hc,hi,hlen,hmem⟩ _ _ _ _
 refine ⟨fun hlt=>⟨⟨by omega,hlt⟩,fun hn=>⟨⟨j+1,by omega,by omega,?_,hi,?_,hmem⟩,?_⟩,fun hs y hy=>?_⟩,fun hge=>?_⟩
 ·rw [hc,qfU hlt]
  rw [Option.isNone_iff_eq_none] at hn
  rw [hn]
  rfl
 ·have h1:=congrArg List.length (qdO (a0_l.take (j+1)) j)
  rw [List.take_take,Nat.min_eq_left (by omega),List.length_append] at h1
  omega
 ·show a0_l.length - ((j:Int)+1).toNat<a0_l.length - (j:Int).toNat
  omega
 ·have hd:=qfU hlt
  rw [hy] at hd
  simp only at hd
  have hall:=qdO a0_l j
  have hal:=congrArg List.length hall
  rw [hd,List.length_append,List.length_append] at hal
  have hym: ∀z∈y.1.1,z∈qaX a0_l:=fun z hz=>by
   rw [hall,hd]
   simp [hz]
  refine ⟨fun _ _ _ i l m=> ∃n:Nat,i=(n:Int)∧n≤y.1.1.length∧qaK a0_l=qaM l (y.1.1.drop n++qaX (a0_l.drop (j+1)))∧qaW l m∧l.length≤(qaX (a0_l.take j)).length+n∧∀z∈l,z∈qaX a0_l,fun _ _ _ i _ _=>y.1.1.length - i.toNat,⟨0,rfl,by omega,by rw [hc,hd];simp,hi,by omega,hmem⟩,?_⟩
  rintro a b f i l m ⟨n,rfl,hn,hc,hi,hlen,hmem⟩ _ _ _ _
  simp only [hi _]
  refine ⟨fun hlt2=>⟨⟨by omega,hlt2⟩,?_,?_,?_⟩,fun hge=>?_⟩
  ·intro hs
   obtain ⟨a,ha⟩:=Option.isSome_iff_exists.1 hs
   have:=qex ha
   rw [ha]
   exact ⟨this,trivial⟩
  ·intro hs
   have hnl:n<y.1.1.length:=by omega
   have hst:y.1.1.drop n++qaX (a0_l.drop (j+1))=ix y.1.1 (n:Int)::(y.1.1.drop (n+1)++qaX (a0_l.drop (j+1))):=by
    rw [List.drop_eq_getElem_cons hnl,qaR (by simpa using hnl)]
    rfl
   rw [hst,qdJ,if_pos hs] at hc
   obtain ⟨a,ha⟩:=Option.isSome_iff_exists.1 hs.1
   have hb:=qex ha
   rw [ha] at hc⊢
   simp only [Option.getD_some] at hc⊢
   refine ⟨hb,hp2 _ (hmem _ (qjm hb.1 hb.2)),fun _=>⟨hp2 _ (hym _ (qjm (by omega) hlt2)),fun _=>?_⟩⟩
   rw [hc]
   exact ⟨rfl,rfl,rfl⟩
  ·intro hs
   have hnl:n<y.1.1.length:=by omega
   have hst:y.1.1.drop n++qaX (a0_l.drop (j+1))=ix y.1.1 (n:Int)::(y.1.1.drop (n+1)++qaX (a0_l.drop (j+1))):=by
    rw [List.drop_eq_getElem_cons hnl,qaR (by simpa using hnl)]
    rfl
   rw [hst,qdJ,if_neg hs] at hc
   have hx:=hym _ (qjm (l:=y.1.1) (i:=(n:Int)) (by omega) hlt2)
   refine ⟨⟨fun s=>hi s,hp2 _ hx,by omega⟩,⟨n+1,by omega,by omega,hc,qmt hi _ _,?_,?_⟩,?_⟩
   ·have:=qg9 l (ix y.1.1 (n:Int)).1 (ix y.1.1 (n:Int)).2
    omega
   ·intro z hz
    rcases qe2 hz with h | rfl
    ·exact hmem z h
    ·exact hx
   ·show y.1.1.length - ((n:Int)+1).toNat<y.1.1.length - (n:Int).toNat
    omega
  ·have hne:n=y.1.1.length:=by omega
   subst hne
   have hw:IntKind.i64.wrap ((j:Int)+1)=(j:Int)+1:=qaw (wf64 (by omega) (by have:=w_0.1;unfold LM at this;omega))
   rw [hw]
   refine ⟨⟨j+1,by omega,by omega,by rw [hc];simp,hi,?_,hmem⟩,?_⟩
   ·have h1:=congrArg List.length (qdO (a0_l.take (j+1)) j)
    rw [List.take_take,Nat.min_eq_left (by omega),List.length_append,List.drop_take] at h1
    have h2:qaX ((a0_l.drop j).take (j+1 - j))=y.1.1:=by
     have hj':j<a0_l.length:=by omega
     rw [List.drop_eq_getElem_cons hj',show j+1 - j=1 from by omega,List.take_succ_cons,List.take_zero]
     have:a0_l[j]=some y:=by
      rw [←hy,qaR (by simpa using hj')]
      rfl
     rw [this]
     simp [qaX]
    rw [h2] at h1
    omega
   ·show a0_l.length - ((j:Int)+1).toNat<a0_l.length - (j:Int).toNat
    omega
 ·have:j=a0_l.length:=by omega
  subst this
  rw [hc]
  simp [qaX,qaM]
theorem qkP {w0:World} {K0:Ghost} {a0_l_v:Value} {a0_l:(List (Option (((List ((List UInt8)×(List UInt8)))×Unit)×Int)))} {Q:(List UInt8)→(List UInt8)→Bool→Prop} (hM0:Models w0 K0) (h_a0_l:qbz.V K0 a0_l a0_l_v) (h:qe1 a0_l Q):Calls Try.prog 36 #[a0_l_v] w0 (fun e w'=> ∃(K':Ghost) (r0:Value) (r1:Value) (r2:Value) (o0:(List UInt8)) (o1:(List UInt8)) (o2:Bool),e= .returned (.tuple #[r0,r1,r2])∧Q o0 o1 o2∧Ext NX w0 K0 w' K'∧Models w' K'∧Own Kd.byte 5 w' K' o0 r0∧(∀g,ob r0=some g→w0.heap.size≤g)∧Own Kd.byte 5 w' K' o1 r1∧(∀g,ob r1=some g→w0.heap.size≤g)∧Kd.bool.V K' o2 r2∧(∀g,ob r0=some g→¬(ob r1=some g))):=by
 unfold qe1 at h
 have hE0:Ext NX w0 K0 w0 K0:=Ext.refl _ _ _
 refine qaF fun R hR=>?_
 refine qaD (args:=[a0_l_v]) Try.func36 rfl (Nat.le_of_ble_eq_true rfl) ?_
 refine qaf ?_
 refine qac ?_
 have hR2:Own Kd.byte 5 w0 K0 ([]:List UInt8) (.slice none 0 0):=Own.nil
 refine qaa (.slice none 0 0) (R_as rfl) rfl rfl ?_
 have hR3:Own Kd.byte 5 w0 K0 ([]:List UInt8) (.slice none 0 0):=Own.nil
 refine qaa (.slice none 0 0) (R_as rfl) rfl rfl ?_
 refine qaa (.bool false) (R_as rfl) rfl rfl ?_
 refine qak ?_
 refine qaf ?_
 refine qac ?_
 refine WL_V (qq9 (K:=K0) (vs:=[]) (Z:=(((.slice none 0 0),(.map none)),0)) ty41 rfl Try.underlying41 (fs41 Try.underlying41) rfl Parts.nil) rfl rfl ?_
 rintro v4 (hV4:qao.V _ (((.slice none 0 0),(.map none)),0) _)
 refine qaz rfl rfl (St_B (qeU hM0 rfl hV4) ?_)
 rintro b6 w6 (hB6:Bx qao _ _ _ _ _ (((.slice none 0 0),(.map none)),0)) hS6 hM6 hge6
 have hE6:=hE0.andN hS6
 have hR8:Own qae 146 w6 K0 ([]:List ((List UInt8)×(List UInt8))) (.slice none 0 0):=Own.nil
 have hR9:Mp qab (Kd.int .i64) w6 K0 ([]:List ((List UInt8)×Int)) (.map none):=Or.inl ⟨rfl,rfl⟩
 refine qaa (.pointer (some ⟨b6,0,none⟩)) (R_as rfl) rfl rfl ?_
 refine qak ?_
 refine qaf ?_
 refine qaf ?_
 refine qac ?_
 refine qaa a0_l_v (R_mv rfl) rfl rfl ?_
 refine qaa (.int .i64 (a0_l.length:Int)) (qdZ rfl (h_a0_l.mono hS6.le) Try.underlying107) rfl rfl ?_
 refine qaa (.int .i64 0) (R_mv rfl) rfl rfl ?_
 refine qak ?_
 refine qbi ?_
 have hR12:=(hR2.extN hS6)
 have hR13:=(hR3.extN hS6)
 obtain ⟨I10,μ10,h0,h⟩:=h
 refine qdi (ι:=(List UInt8)×(List UInt8)×Bool×Int×(List ((List UInt8)×(List UInt8)))×(List ((List UInt8)×Int))) [2,3,4,7,9,10,11,16,17,18,19,20,21,22,23,24,25,26,27,28,29,30,31,32,33,34,35,36,37,38,39,40,41,42,43,44,45,46,47,48,49,50,51,52,53,54,55,56,57,58,59,60,61,62,63,64,65,66,67,68,69,70,71,72,73,74,75,76,77,78,79,80,81] (fun s l w=> ∃K u2 u3 z7_0_0 z7_0_1,I10 s.1 s.2.1 s.2.2.1 s.2.2.2.1 s.2.2.2.2.1 s.2.2.2.2.2∧l=[(2,u2),(3,u3),(4,(.bool s.2.2.1)),(16,(.int .i64 s.2.2.2.1))]∧Ext (fun c=>ob (.slice none 0 0)=some c∨ob (.slice none 0 0)=some c∨ob (.slice none 0 0)=some c∨mb (.map none)=some c∨c=b6) w6 K0 w K∧Models w K∧(Kd.int .i64).wf s.2.2.2.1∧Own Kd.byte 5 w K s.1 u2∧(∀g,ob u2=some g→ob (.slice none 0 0)=some g∨w6.heap.size≤g)∧Own Kd.byte 5 w K s.2.1 u3∧(∀g,ob u3=some g→ob (.slice none 0 0)=some g∨w6.heap.size≤g)∧Own qae 146 w K s.2.2.2.2.1 z7_0_0∧(∀g,ob z7_0_0=some g→ob (.slice none 0 0)=some g∨w6.heap.size≤g)∧Mp qab (Kd.int .i64) w K s.2.2.2.2.2 z7_0_1∧(∀g,mb z7_0_1=some g→mb (.map none)=some g∨w6.heap.size≤g)∧Bx qao w K b6 [] [] ((z7_0_0,z7_0_1),0)∧(∀g,ob u2=some g→¬(ob u3=some g))) (fun s=>μ10 s.1 s.2.1 s.2.2.1 s.2.2.2.1 s.2.2.2.2.1 s.2.2.2.2.2) (([]:List UInt8),([]:List UInt8),false,0,([]:List ((List UInt8)×(List UInt8))),([]:List ((List UInt8)×Int))) [(2,(.slice none 0 0)),(3,(.slice none 0 0)),(4,(.bool false)),(16,(.int .i64 0))]
  ⟨K0,(.slice none 0 0),(.slice none 0 0),(.slice none 0 0),(.map none),h0,rfl,Ext.refl _ _ _,hM6,(show (Kd.int .i64).wf 0 from by constructor<;>decide),hR12,(fun g hg=>(.inl hg)),hR13,(fun g hg=>(.inl hg)),hR8,(fun g hg=> .inr (nilS hg)),hR9,(fun g hg=> .inr (nilM hg)),hB6,(fun g hg hx=>(fun g hg _=>nilS hg) g hx hg)⟩ (by repeat (first | exact trivial | refine ⟨rfl,?_⟩)) ?_
 rintro ⟨a10,b10,found10,i10,y10,y10'⟩ l σ10 w11 ⟨K11,u2_10,u3_10,z7_0_0_10,z7_0_1_10,hI,rfl,hX11,hM11,hw10_16,hL10_u2,ho10_u2,hL10_u3,ho10_u3,hL10_z7_0_0,ho10_z7_0_0,hL10_z7_0_1,ho10_z7_0_1,hL10_7,hs10_u2_u3⟩
 dsimp only at hI hw10_16 hL10_u2 ho10_u2 hL10_u3 ho10_u3 hL10_z7_0_0 ho10_z7_0_0 hL10_z7_0_1 ho10_z7_0_1 hL10_7
 have hE11:=hE6.comp hX11 (fun c hx hlt=>Or.elim hx (fun hx=>(fun g hg _=>nilS hg) c hx hlt) (fun hx=>Or.elim hx (fun hx=>(fun g hg _=>nilS hg) c hx hlt) (fun hx=>Or.elim hx (fun hx=>(fun g hg _=>nilS hg) c hx hlt) (fun hx=>Or.elim hx (fun hx=>(fun g hg _=>nilM hg) c hx hlt) (fun hx=>(by subst hx;exact (fun hlt=>absurd hlt (Nat.not_lt.2 (Nat.le_trans hE0.size hge6))) hlt))))))
 have h:=h a10 b10 found10 i10 y10 y10' hI hL10_u2.wf hL10_u3.wf hw10_16 hL10_z7_0_0.wf
 refine qaf ?_
 refine qac ?_
 refine qaa (.bool (decide (i10<(a0_l.length:Int)))) (qg2 rfl rfl) rfl rfl ?_
 refine qak ?_
 refine qaf ?_
 refine qay (decide (i10<(a0_l.length:Int))) rfl (fun hc14=>?_) (fun hc14=>?_)
 ·have hd14:i10<(a0_l.length:Int):=qeX hc14
  have h:=h.1 hd14
  refine qaO ?_
  refine qaf ?_
  refine qbi ?_
  refine qaf ?_
  refine qac ?_
  obtain ⟨hp16,h⟩:=h
  refine WL_P (qeV rfl (h_a0_l.mono (hS6.le.trans hX11.le)) rfl Try.underlying107 qtN hp16.1 hp16.2) rfl rfl ?_
  rintro b15 o15 hP15
  refine WL_L hM11 (S_ld rfl qtN hP15) rfl rfl ?_
  rintro v18 (hV18:qbT.V _ (ix a0_l i10) _)
  refine qaa v18 (R_as rfl) rfl rfl ?_
  refine qak ?_
  refine qaf ?_
  refine qaf ?_
  refine qac ?_
  refine qaa v18 (R_mv rfl) rfl rfl ?_
  refine qaa (.bool ((ix a0_l i10).isNone)) (qjX rfl hV18 rfl Try.underlying35) rfl rfl ?_
  refine qak ?_
  refine qay ((ix a0_l i10).isNone) rfl (fun hc20=>?_) (fun hc20=>?_)
  ·have hd20:((ix a0_l i10).isNone)=true:=hc20
   have h:=h.1 hd20
   refine qcX ?_
   refine qac ?_
   refine qaa (.int .i64 (i10+1)) (qk2 rfl rfl hw10_16 hd14 (qbv (h_a0_l).wf.1)) rfl rfl ?_
   refine qaa (.int .i64 (i10+1)) (R_mv rfl) rfl rfl ?_
   refine qak ?_
   refine qfj.mk (a10,b10,found10,(i10+1),y10,y10') [(2,u2_10),(3,u3_10),(4,(.bool found10)),(16,(.int .i64 (i10+1)))] ?_ ?_ ?_ ?_
   rotate_left
   ·exact h.2
   ·repeat (first | exact Off.lay0 rfl | refine Off.updO ?_ rfl _ | refine Off.updN ?_ _ | refine Off.lay ?_ rfl)
   ·repeat (first | exact trivial | refine ⟨rfl,?_⟩)
   exact ⟨K11,u2_10,u3_10,z7_0_0_10,z7_0_1_10,h.1,rfl,((Ext.refl _ _ _).comp hX11 (fun c hx hlt=>Or.elim hx (fun hx=>(.inl (hx))) (fun hx=>Or.elim hx (fun hx=>(.inl (hx))) (fun hx=>Or.elim hx (fun hx=>(absurd hlt (Nat.not_lt.2 (nilS hx)))) (fun hx=>Or.elim hx (fun hx=>(absurd hlt (Nat.not_lt.2 (nilM hx)))) (fun hx=>(.inr (.inr (.inr (.inr (hx))))))))))),hM11,(qgA hw10_16 hd14 (qbv (h_a0_l).wf.1)),hL10_u2,(fun g hg=>((ho10_u2 g hg).elim (fun hz=>(.inl hz)) (fun hz=> .inr (Nat.le_trans (Nat.le_refl _) hz)))),hL10_u3,(fun g hg=>((ho10_u3 g hg).elim (fun hz=>(.inl hz)) (fun hz=> .inr (Nat.le_trans (Nat.le_refl _) hz)))),hL10_z7_0_0,(fun g hg=> .inr ((ho10_z7_0_0 g hg).elim (fun hz=>(nilS hz)) (fun hz=>(Nat.le_trans (Nat.le_refl _) hz)))),hL10_z7_0_1,(fun g hg=> .inr ((ho10_z7_0_1 g hg).elim (fun hz=>(nilM hz)) (fun hz=>(Nat.le_trans (Nat.le_refl _) hz)))),hL10_7,hs10_u2_u3⟩
  ·have hd20:((ix a0_l i10).isNone)=false:=hc20
   have h:=h.2 hd20
   obtain ⟨y20,b20,o20,hy20,hv20,hP20⟩:=qhG hV18 (by rw [hd20];decide)
   have h:=h y20 hy20
   subst hv20
   refine qaO ?_
   refine qaf ?_
   refine qac ?_
   refine qaa (.pointer (some ⟨b20,o20,none⟩)) (R_mv rfl) rfl rfl ?_
   refine qaa (.pointer (some ⟨b20,o20,none⟩)) (qaL rfl) rfl rfl ?_
   have hP22:=Kd.Pt.foc (Foc.fst qb6 (Kd.int .i64)) hP20
   refine qaa (.pointer (some ⟨b20,o20+0,none⟩)) (R_fa rfl Try.underlying41 rfl rfl qvb rfl) rfl rfl ?_
   have hP24:=Kd.Pt.foc (Foc.fst qau Kd.anm) hP22
   refine qaa (.pointer (some ⟨b20,o20+0+0,none⟩)) (R_fa rfl Try.underlying39 rfl rfl ty36 rfl) rfl rfl ?_
   refine WL_L hM11 (S_ld rfl ty36 hP24) rfl rfl ?_
   rintro v26 (hV26:qau.V _ y20.1.1 _)
   refine qaa (.int .i64 (y20.1.1.length:Int)) (qdZ rfl hV26 Try.underlying36) rfl rfl ?_
   refine qaa (.int .i64 0) (R_mv rfl) rfl rfl ?_
   refine qak ?_
   refine qbi ?_
   obtain ⟨I28,μ28,h0,h⟩:=h
   refine qdi (ι:=(List UInt8)×(List UInt8)×Bool×Int×(List ((List UInt8)×(List UInt8)))×(List ((List UInt8)×Int))) [2,3,4,9,10,11,28,29,30,31,32,33,34,35,36,37,38,39,40,41,42,43,44,45,46,47,48,49,50,51,52,53,54,55,56,57,58,59,60,61,62,63,64,65,66,67,68,69,70,71,72,73,74,75,76,77,78,79,80] (fun s l w=> ∃K u2 u3 z7_0_0 z7_0_1,I28 s.1 s.2.1 s.2.2.1 s.2.2.2.1 s.2.2.2.2.1 s.2.2.2.2.2∧l=[(2,u2),(3,u3),(4,(.bool s.2.2.1)),(28,(.int .i64 s.2.2.2.1))]∧Ext (fun c=>ob u2_10=some c∨ob u3_10=some c∨ob z7_0_0_10=some c∨mb z7_0_1_10=some c∨c=b6) w11 K11 w K∧Models w K∧(Kd.int .i64).wf s.2.2.2.1∧Own Kd.byte 5 w K s.1 u2∧(∀g,ob u2=some g→ob u2_10=some g∨w11.heap.size≤g)∧Own Kd.byte 5 w K s.2.1 u3∧(∀g,ob u3=some g→ob u3_10=some g∨w11.heap.size≤g)∧Own qae 146 w K s.2.2.2.2.1 z7_0_0∧(∀g,ob z7_0_0=some g→ob z7_0_0_10=some g∨w11.heap.size≤g)∧Mp qab (Kd.int .i64) w K s.2.2.2.2.2 z7_0_1∧(∀g,mb z7_0_1=some g→mb z7_0_1_10=some g∨w11.heap.size≤g)∧Bx qao w K b6 [] [] ((z7_0_0,z7_0_1),0)∧(∀g,ob u2=some g→¬(ob u3=some g))) (fun s=>μ28 s.1 s.2.1 s.2.2.1 s.2.2.2.1 s.2.2.2.2.1 s.2.2.2.2.2) (a10,b10,found10,0,y10,y10') [(2,u2_10),(3,u3_10),(4,(.bool found10)),(28,(.int .i64 0))]
    ⟨K11,u2_10,u3_10,z7_0_0_10,z7_0_1_10,h0,rfl,Ext.refl _ _ _,hM11,(show (Kd.int .i64).wf 0 from by constructor<;>decide),hL10_u2,(fun g hg=>(.inl hg)),hL10_u3,(fun g hg=>(.inl hg)),hL10_z7_0_0,(fun g hg=>(.inl hg)),hL10_z7_0_1,(fun g hg=>(.inl hg)),hL10_7,hs10_u2_u3⟩ (by repeat (first | exact trivial | refine ⟨rfl,?_⟩)) ?_
   rintro ⟨a28,b28,found28,i28,y28,y28'⟩ l σ28 w29 ⟨K29,u2_28,u3_28,z7_0_0_28,z7_0_1_28,hI,rfl,hX29,hM29,hw28_28,hL28_u2,ho28_u2,hL28_u3,ho28_u3,hL28_z7_0_0,ho28_z7_0_0,hL28_z7_0_1,ho28_z7_0_1,hL28_7,hs28_u2_u3⟩
   dsimp only at hI hw28_28 hL28_u2 ho28_u2 hL28_u3 ho28_u3 hL28_z7_0_0 ho28_z7_0_0 hL28_z7_0_1 ho28_z7_0_1 hL28_7
   have hE29:=hE11.comp hX29 (fun c hx hlt=>Or.elim hx (fun hx=>(fun g hg hlt=>absurd hlt (Nat.not_lt.2 ((fun g hg=>(ho10_u2 g hg).elim (fun hx=>(fun g hg=>nilS hg) g hx) (fun hx=>Nat.le_trans hE6.size hx)) g hg))) c hx hlt) (fun hx=>Or.elim hx (fun hx=>(fun g hg hlt=>absurd hlt (Nat.not_lt.2 ((fun g hg=>(ho10_u3 g hg).elim (fun hx=>(fun g hg=>nilS hg) g hx) (fun hx=>Nat.le_trans hE6.size hx)) g hg))) c hx hlt) (fun hx=>Or.elim hx (fun hx=>(fun g hg hlt=>absurd hlt (Nat.not_lt.2 ((fun g hg=>(ho10_z7_0_0 g hg).elim (fun hx=>(fun g hg=>nilS hg) g hx) (fun hx=>Nat.le_trans hE6.size hx)) g hg))) c hx hlt) (fun hx=>Or.elim hx (fun hx=>(fun g hg hlt=>absurd hlt (Nat.not_lt.2 ((fun g hg=>(ho10_z7_0_1 g hg).elim (fun hx=>(fun g hg=>nilM hg) g hx) (fun hx=>Nat.le_trans hE6.size hx)) g hg))) c hx hlt) (fun hx=>(by subst hx;exact (fun hlt=>absurd hlt (Nat.not_lt.2 (Nat.le_trans hE0.size hge6))) hlt))))))
   have h:=h a28 b28 found28 i28 y28 y28' hI hL28_u2.wf hL28_u3.wf hw28_28 hL28_z7_0_0.wf
   refine qaf ?_
   refine qac ?_
   refine qaa (.bool (decide (i28<(y20.1.1.length:Int)))) (qg2 rfl rfl) rfl rfl ?_
   refine qak ?_
   refine qaf ?_
   refine qay (decide (i28<(y20.1.1.length:Int))) rfl (fun hc30=>?_) (fun hc30=>?_)
   ·have hd30:i28<(y20.1.1.length:Int):=qeX hc30
    have h:=h.1 hd30
    refine qaO ?_
    refine qaf ?_
    refine qbi ?_
    refine qaf ?_
    refine qac ?_
    obtain ⟨hp32,h⟩:=h
    refine WL_P (qeV rfl (hV26.mono hX29.le) rfl Try.underlying36 qdb hp32.1 hp32.2) rfl rfl ?_
    rintro b31 o31 hP31
    refine WL_L hM29 (S_ld rfl qdb hP31) rfl rfl ?_
    rintro v34 (hV34:qae.V _ (ix y20.1.1 i28) _)
    refine qaz rfl rfl (St_B (qcW hM29 qdb) ?_)
    rintro b36 w36 (hB36:Bx qae _ _ _ _ _ ((List.replicate 32 0),([]:List UInt8))) hS36 hM36 hge36
    have hE36:=hE29.andN hS36
    refine qaz rfl rfl (qg5 (qg3 (Foc.id _) hM36 rfl rfl (hV34.mono hS36.le) qdb hB36 (by first | rfl | simp | omega)) ?_)
    rintro w38 (hB38:Bx qae _ _ b36 [] [] (ix y20.1.1 i28)) hS38 hM38
    have hE38:=hE36.comp hS38 (fun c hx hlt=>(by subst hx;exact (fun hlt=>absurd hlt (Nat.not_lt.2 (Nat.le_trans hE29.size hge36))) hlt))
    refine qak ?_
    refine qaf ?_
    refine qaf ?_
    refine qbS (K:=K29) NX [.o 0 2,.o 1 2,.o 2 2,.o 3 2,.o 4 2,.o 5 2,.o 6 2,.o 7 2,.o 8 2,.o 9 2,.o 10 2,.o 11 2,.o 12 2] (by kernel_rfl) (by kernel_rfl) hM38 ?_
    rintro w39 hS39 hM39
    have hE39:=hE38.andN hS39
    refine qag (.pointer (some ⟨b6,0,none⟩)) rfl l0 hM39 (fun _=>R_mv rfl) rfl (gN rfl) rfl ?_
    refine qag (.pointer (some ⟨b6,0,none⟩)) rfl l0 hM39 (fun _=>qaL rfl) rfl (gN rfl) rfl ?_
    refine qag (.pointer (some ⟨b6,0+0,none⟩)) rfl l0 hM39 (fun _=>R_fa rfl Try.underlying41 rfl rfl ty39 rfl) rfl (gN rfl) rfl ?_
    refine qag (.pointer (some ⟨b6,0+0+1,none⟩)) rfl l0 hM39 (fun _=>R_fa rfl Try.underlying39 rfl rfl qeg rfl) rfl (gN rfl) rfl ?_
    have hR41:=(hL28_7.extN hS36)
    have hR42:=((hR41.ext hS38 (fun hx=>(fun he=>(qcs hge36 hL28_7.lt) he.symm) hx)).extN hS39)
    refine qbG hM39 (qa9 (Foc.trans (Foc.fst qal (Kd.int .i64)) (Foc.snd Kd.rsl Kd.rmp)) rfl qeg hR42 (by first | rfl | simp | omega) (fun h=>h)) rfl (gN rfl) rfl ?_
    rintro v40 (hV40:Kd.rmp.V _ z7_0_1_28 _)
    obtain rfl:=qbL hV40
    refine qag (.pointer (some ⟨b36,0+0,none⟩)) rfl l0 hM39 (fun _=>R_fa rfl Try.underlying146 rfl rfl ty24 rfl) rfl (gN rfl) rfl ?_
    have hR44:=(hB38.extN hS39)
    refine qbG hM39 (qa9 (Foc.fst qab qai) rfl ty24 hR44 (by first | rfl | simp | omega) (fun h=>h)) rfl (gN rfl) rfl ?_
    rintro v43 (hV43:qab.V _ ((ix y20.1.1 i28).1) _)
    have hR47:=(hL28_z7_0_1.extN hS36)
    have hR48:=((hR47.ext hS38 (fun g hg hx=>(fun g hg hx=>hR47.box hB36 (hg.trans (congrArg some hx))) g hg hx)).extN hS39)
    refine qj0 hM39 (qml (kv:=(Kd.int .i64)) rfl rfl hR48 hV43 Try.underlying37 (qcq Try.underlying24 Try.underlying5 ty5b) ty3 (fun _ _ h=>h)) rfl (gN rfl) rfl ?_
    rintro v46 (hV46:(Kd.int .i64).V _ ((mfind ((ix y20.1.1 i28).1) y28').getD 0) _)
    obtain rfl:=qbk hV46
    refine qag (.tuple #[(.int .i64 ((mfind ((ix y20.1.1 i28).1) y28').getD 0)),(.bool ((mfind ((ix y20.1.1 i28).1) y28').isSome))]) rfl l0 hM39 (fun _=>R_mv rfl) rfl (gN rfl) rfl ?_
    refine qag (.int .i64 ((mfind ((ix y20.1.1 i28).1) y28').getD 0)) rfl l0 hM39 (fun _=>qg1 rfl rfl) rfl (gN rfl) rfl ?_
    refine qag (.bool ((mfind ((ix y20.1.1 i28).1) y28').isSome)) rfl l0 hM39 (fun _=>qg1 rfl rfl) rfl (gN rfl) rfl ?_
    refine qag (.int .i64 ((mfind ((ix y20.1.1 i28).1) y28').getD 0)) rfl l0 hM39 (fun _=>R_as rfl) rfl (gN rfl) rfl ?_
    refine qag (.bool ((mfind ((ix y20.1.1 i28).1) y28').isSome)) rfl l0 hM39 (fun _=>R_as rfl) rfl (gN rfl) rfl ?_
    refine qcQ ?_
    refine qaf ?_
    refine qbS (K:=K29) NX [.o 0 2,.o 1 2,.o 2 2,.o 3 2,.o 4 2,.o 5 2,.o 6 2,.o 7 2,.o 8 2,.o 9 2,.o 10 2,.o 11 2,.o 12 2,.o 13 0,.o 14 2,.o 15 2] (by kernel_rfl) (by kernel_rfl) hM39 ?_
    rintro w49 hS49 hM49
    have hE49:=hE39.andN hS49
    refine qag (.bool ((mfind ((ix y20.1.1 i28).1) y28').isSome)) rfl l0 hM49 (fun _=>R_mv rfl) rfl (gN rfl) rfl ?_
    refine qag (.bool ((mfind ((ix y20.1.1 i28).1) y28').isSome)) rfl l0 hM49 (fun _=>R_mv rfl) rfl (gN rfl) rfl ?_
    obtain ⟨hq50,h⟩:=h
    refine qmp (al:=true) (l1:=[.o 2 2,.o 3 2,.o 4 2,.o 5 2,.o 6 2,.o 7 2,.o 8 2,.o 9 2,.o 10 2,.o 11 2,.o 12 2,.o 13 0,.o 14 2,.o 15 2]) [45,46,47,48,49,50,51,52,53,54,55,56,57,58] NX (fun l w K=>l=[(58,(.bool (decide ((((mfind ((ix y20.1.1 i28).1) y28').isSome)=true)∧(¬(((ix y28 ((mfind ((ix y20.1.1 i28).1) y28').getD 0)).2)=((ix y20.1.1 i28).2)))))))]∧Ext NX w49 K29 w K∧Models w K) ?_ ?_
    ·rcases Classical.em (((mfind ((ix y20.1.1 i28).1) y28').isSome)=true) with hp50 | hp50
     ·skip
      have h:=hq50 hp50
      refine qag (.pointer (some ⟨b6,0,none⟩)) rfl l0 hM49 (fun _=>R_mv rfl) rfl (gY rfl rfl rfl hp50) rfl ?_
      refine qag (.pointer (some ⟨b6,0,none⟩)) rfl l0 hM49 (fun _=>qaL rfl) rfl (gY rfl rfl rfl hp50) rfl ?_
      refine qag (.pointer (some ⟨b6,0+0,none⟩)) rfl l0 hM49 (fun _=>R_fa rfl Try.underlying41 rfl rfl ty39 rfl) rfl (gY rfl rfl rfl hp50) rfl ?_
      refine qag (.pointer (some ⟨b6,0+0+0,none⟩)) rfl l0 hM49 (fun _=>R_fa rfl Try.underlying39 rfl rfl qdC rfl) rfl (gY rfl rfl rfl hp50) rfl ?_
      have hR52:=(hR42.extN hS49)
      refine qbG hM49 (qa9 (Foc.trans (Foc.fst qal (Kd.int .i64)) (Foc.fst Kd.rsl Kd.rmp)) rfl qdC hR52 (by first | rfl | simp | omega) (fun h=>h)) rfl (gY rfl rfl rfl hp50) rfl ?_
      rintro v51 (hV51:Kd.rsl.V _ z7_0_0_28 _)
      obtain rfl:=qbL hV51
      refine qag (.int .i64 ((mfind ((ix y20.1.1 i28).1) y28').getD 0)) rfl l0 hM49 (fun _=>R_mv rfl) rfl (gY rfl rfl rfl hp50) rfl ?_
      obtain ⟨hp54,h⟩:=h
      refine WO_P rfl l0 hM49 (qeV rfl (hL28_z7_0_0.V.mono (hS36.le.trans (hS38.le.trans (hS39.le.trans hS49.le)))) rfl Try.underlying36 qdb hp54.1 hp54.2) rfl (gY rfl rfl rfl hp50) rfl ?_
      rintro b53 o53 hP53
      have hP56:=Kd.Pt.foc (Foc.snd qab qai) hP53
      refine qag (.pointer (some ⟨b53,o53+32,none⟩)) rfl l0 hM49 (fun _=>R_fa rfl Try.underlying146 rfl rfl ty32 rfl) rfl (gY rfl rfl rfl hp50) rfl ?_
      refine qbG hM49 (S_ld rfl ty32 hP56) rfl (gY rfl rfl rfl hp50) rfl ?_
      rintro v58 (hV58:qai.V _ ((ix y28 ((mfind ((ix y20.1.1 i28).1) y28').getD 0)).2) _)
      refine qag (.pointer (some ⟨b36,0+32,none⟩)) rfl l0 hM49 (fun _=>R_fa rfl Try.underlying146 rfl rfl ty32 rfl) rfl (gY rfl rfl rfl hp50) rfl ?_
      have hR61:=(hR44.extN hS49)
      refine qbG hM49 (qa9 (Foc.snd qab qai) rfl ty32 hR61 (by first | rfl | simp | omega) (fun h=>h)) rfl (gY rfl rfl rfl hp50) rfl ?_
      rintro v60 (hV60:qai.V _ ((ix y20.1.1 i28).2) _)
      refine qeo rfl (gY rfl rfl rfl hp50) rfl (qa0 (qbE Try.call85 rfl) ((qlM hM49 hV58 hV60).mono ?_))
      rintro _ w63 ⟨K63,v63_0,rfl,hS63,hM63,hV63_0⟩
      refine ⟨v63_0,rfl,?_⟩
      refine ⟨K63,hS63,hM63,?_⟩
      have hE63:=hE49.andN hS63
      obtain rfl:=qbP hV63_0
      refine qag (.bool (decide (¬(((ix y28 ((mfind ((ix y20.1.1 i28).1) y28').getD 0)).2)=((ix y20.1.1 i28).2))))) rfl l0 hM63 (fun _=>qsI rfl) rfl (gY rfl rfl rfl hp50) rfl ?_
      refine qag (.bool (decide ((((mfind ((ix y20.1.1 i28).1) y28').isSome)=true)∧(¬(((ix y28 ((mfind ((ix y20.1.1 i28).1) y28').getD 0)).2)=((ix y20.1.1 i28).2)))))) rfl l0 hM63 (fun _=>qme rfl hp50 rfl (qtf hp50)) rfl (gN rfl) rfl ?_
      exact qj2 [(58,(.bool (decide ((((mfind ((ix y20.1.1 i28).1) y28').isSome)=true)∧(¬(((ix y28 ((mfind ((ix y20.1.1 i28).1) y28').getD 0)).2)=((ix y20.1.1 i28).2)))))))] K63 rfl ⟨rfl,((Ext.refl _ _ _).andN hS63),hM63⟩ (by repeat (first | exact Off.refl _ _ | refine Off.updO ?_ rfl _ | refine Off.updN ?_ _ | refine Off.lay ?_ rfl)) ⟨rfl,trivial⟩
     ·skip
      refine qba _ hM49 l0 rfl (gF rfl rfl rfl (eq_false_of_ne_true hp50)) rfl ?_
      refine qba _ hM49 l0 rfl (gF rfl rfl rfl (eq_false_of_ne_true hp50)) rfl ?_
      refine qba _ hM49 l0 rfl (gF rfl rfl rfl (eq_false_of_ne_true hp50)) rfl ?_
      refine qba _ hM49 l0 rfl (gF rfl rfl rfl (eq_false_of_ne_true hp50)) rfl ?_
      refine qba _ hM49 l0 rfl (gF rfl rfl rfl (eq_false_of_ne_true hp50)) rfl ?_
      refine qba _ hM49 l0 rfl (gF rfl rfl rfl (eq_false_of_ne_true hp50)) rfl ?_
      refine qba _ hM49 l0 rfl (gF rfl rfl rfl (eq_false_of_ne_true hp50)) rfl ?_
      refine qba _ hM49 l0 rfl (gF rfl rfl rfl (eq_false_of_ne_true hp50)) rfl ?_
      refine qba _ hM49 l0 rfl (gF rfl rfl rfl (eq_false_of_ne_true hp50)) rfl ?_
      refine qba _ hM49 l0 rfl (gF rfl rfl rfl (eq_false_of_ne_true hp50)) rfl ?_
      refine qba _ hM49 l0 rfl (gF rfl rfl rfl (eq_false_of_ne_true hp50)) rfl ?_
      refine qba _ hM49 l0 rfl (gF rfl rfl rfl (eq_false_of_ne_true hp50)) rfl ?_
      refine qba _ hM49 l0 rfl (gF rfl rfl rfl (eq_false_of_ne_true hp50)) rfl ?_
      refine qag (.bool (decide ((((mfind ((ix y20.1.1 i28).1) y28').isSome)=true)∧(¬(((ix y28 ((mfind ((ix y20.1.1 i28).1) y28').getD 0)).2)=((ix y20.1.1 i28).2)))))) rfl l0 hM49 (fun _=>qmf rfl (eq_false_of_ne_true hp50) rfl (qte hp50)) rfl (gN rfl) rfl ?_
      exact qj2 [(58,(.bool (decide ((((mfind ((ix y20.1.1 i28).1) y28').isSome)=true)∧(¬(((ix y28 ((mfind ((ix y20.1.1 i28).1) y28').getD 0)).2)=((ix y20.1.1 i28).2)))))))] K29 rfl ⟨rfl,(Ext.refl _ _ _),hM49⟩ (by repeat (first | exact Off.refl _ _ | refine Off.updO ?_ rfl _ | refine Off.updN ?_ _ | refine Off.lay ?_ rfl)) ⟨rfl,trivial⟩
    rintro l σ64 w64 K64 ⟨rfl,hS64,hM64⟩
    have hE64:=hE49.andN hS64
    refine qcQ ?_
    refine qay (decide ((((mfind ((ix y20.1.1 i28).1) y28').isSome)=true)∧(¬(((ix y28 ((mfind ((ix y20.1.1 i28).1) y28').getD 0)).2)=((ix y20.1.1 i28).2))))) rfl (fun hc65=>?_) (fun hc65=>?_)
    ·have hd65:(((mfind ((ix y20.1.1 i28).1) y28').isSome)=true)∧(¬(((ix y28 ((mfind ((ix y20.1.1 i28).1) y28').getD 0)).2)=((ix y20.1.1 i28).2))):=qeX hc65
     have h:=h.1 hd65
     refine qaf ?_
     refine qbS (K:=K64) NX [.o 0 2,.o 1 2,.o 2 2,.o 3 2,.o 4 2,.o 5 2,.o 6 2,.o 7 2,.o 8 2,.o 10 2,.o 11 2,.o 9 0,.o 12 0,.o 13 2,.o 14 2,.o 15 2] (by kernel_rfl) (by kernel_rfl) hM64 ?_
     rintro w66 hS66 hM66
     have hE66:=hE64.andN hS66
     refine qag (.pointer (some ⟨b6,0,none⟩)) rfl l0 hM66 (fun _=>R_mv rfl) rfl (gN rfl) rfl ?_
     refine qag (.pointer (some ⟨b6,0,none⟩)) rfl l0 hM66 (fun _=>qaL rfl) rfl (gN rfl) rfl ?_
     refine qag (.pointer (some ⟨b6,0+0,none⟩)) rfl l0 hM66 (fun _=>R_fa rfl Try.underlying41 rfl rfl ty39 rfl) rfl (gN rfl) rfl ?_
     refine qag (.pointer (some ⟨b6,0+0+0,none⟩)) rfl l0 hM66 (fun _=>R_fa rfl Try.underlying39 rfl rfl qdC rfl) rfl (gN rfl) rfl ?_
     have hR68:=(((hR42.extN hS49).extN hS64).extN hS66)
     refine qbG hM66 (qa9 (Foc.trans (Foc.fst qal (Kd.int .i64)) (Foc.fst Kd.rsl Kd.rmp)) rfl qdC hR68 (by first | rfl | simp | omega) (fun h=>h)) rfl (gN rfl) rfl ?_
     rintro v67 (hV67:Kd.rsl.V _ z7_0_0_28 _)
     obtain rfl:=qbL hV67
     refine qag (.int .i64 ((mfind ((ix y20.1.1 i28).1) y28').getD 0)) rfl l0 hM66 (fun _=>R_mv rfl) rfl (gN rfl) rfl ?_
     obtain ⟨hp70,h⟩:=h
     refine WO_P rfl l0 hM66 (qeV rfl (hL28_z7_0_0.V.mono (hS36.le.trans (hS38.le.trans (hS39.le.trans (hS49.le.trans (hS64.le.trans hS66.le)))))) rfl Try.underlying36 qdb hp70.1 hp70.2) rfl (gN rfl) rfl ?_
     rintro b69 o69 hP69
     have hP72:=Kd.Pt.foc (Foc.snd qab qai) hP69
     refine qag (.pointer (some ⟨b69,o69+32,none⟩)) rfl l0 hM66 (fun _=>R_fa rfl Try.underlying146 rfl rfl ty32 rfl) rfl (gN rfl) rfl ?_
     refine qbG hM66 (S_ld rfl ty32 hP72) rfl (gN rfl) rfl ?_
     rintro v74 (hV74:qai.V _ ((ix y28 ((mfind ((ix y20.1.1 i28).1) y28').getD 0)).2) _)
     refine qag (.pointer (some ⟨b36,0+32,none⟩)) rfl l0 hM66 (fun _=>R_fa rfl Try.underlying146 rfl rfl ty32 rfl) rfl (gN rfl) rfl ?_
     have hR77:=(((hR44.extN hS49).extN hS64).extN hS66)
     refine qbG hM66 (qa9 (Foc.snd qab qai) rfl ty32 hR77 (by first | rfl | simp | omega) (fun h=>h)) rfl (gN rfl) rfl ?_
     rintro v76 (hV76:qai.V _ ((ix y20.1.1 i28).2) _)
     have hR79:=(hL28_u2.extN hS36)
     have hR80:=(((((hR79.ext hS38 (fun g hg hx=>(fun g hg hx=>hR79.box hB36 (hg.trans (congrArg some hx))) g hg hx)).extN hS39).extN hS49).extN hS64).extN hS66)
     have hR81:=(hL28_u3.extN hS36)
     have hR82:=(((((hR81.ext hS38 (fun g hg hx=>(fun g hg hx=>hR81.box hB36 (hg.trans (congrArg some hx))) g hg hx)).extN hS39).extN hS49).extN hS64).extN hS66)
     have hR83:=(hL28_z7_0_0.extN hS36)
     have hR84:=(((((hR83.ext hS38 (fun g hg hx=>(fun g hg hx=>hR83.box hB36 (hg.trans (congrArg some hx))) g hg hx)).extN hS39).extN hS49).extN hS64).extN hS66)
     have hR85:=(((hR48.extN hS49).extN hS64).extN hS66)
     obtain ⟨hp87,h⟩:=h
     refine qeo rfl (gN rfl) rfl (qa0 (qbE Try.call69 rfl) ((qfn hM66 hV74 hp87).mono ?_))
     rintro _ w86 ⟨K86,v86_0,rfl,hS86,hM86,hO86_0,hg86_0⟩
     refine ⟨v86_0,rfl,?_⟩
     refine ⟨K86,hS86,hM86,?_⟩
     have hE86:=hE66.andN hS86
     have h:=h hO86_0.wf
     have hR89:=(hR80.extN hS86)
     have hR90:=(hR82.extN hS86)
     have hR91:=(hR68.extN hS86)
     have hR92:=(hR84.extN hS86)
     have hR93:=(hR85.extN hS86)
     have hR94:=(hR77.extN hS86)
     obtain ⟨hp96,h⟩:=h
     refine qeo rfl (gN rfl) rfl (qa0 (qbE Try.call69 rfl) ((qfn hM86 (hV76.mono hS86.le) hp96).mono ?_))
     rintro _ w95 ⟨K95,v95_0,rfl,hS95,hM95,hO95_0,hg95_0⟩
     refine ⟨v95_0,rfl,?_⟩
     refine ⟨K95,hS95,hM95,?_⟩
     have hE95:=hE86.andN hS95
     have h:=h hO95_0.wf
     refine qag v86_0 rfl l0 hM95 (fun _=>R_as rfl) rfl (gN rfl) rfl ?_
     refine qag v95_0 rfl l0 hM95 (fun _=>R_as rfl) rfl (gN rfl) rfl ?_
     refine qag (.bool true) rfl l0 hM95 (fun _=>R_as rfl) rfl (gN rfl) rfl ?_
     refine qcQ ?_
     refine qbm ?_
     have hR98:=(hO86_0.extN hS95)
     exact qaN hR (v:=(.tuple #[v86_0,v95_0,(.bool true)])) (qql rfl rfl rfl rfl) ⟨K95,v86_0,v95_0,(.bool true),((ix y28 ((mfind ((ix y20.1.1 i28).1) y28').getD 0)).2),((ix y20.1.1 i28).2),true,rfl,h,hE95,hM95,hR98,(fun g hg=>Nat.le_trans hE66.size (hg86_0 g hg)),hO95_0,(fun g hg=>Nat.le_trans hE86.size (hg95_0 g hg)),qcp,(fun g hg hx=>(fun g hg hx=>absurd (hO86_0.lt _ hx) (Nat.not_lt.2 (hg95_0 g hg))) g hx hg)⟩
    ·have hd65: ¬((((mfind ((ix y20.1.1 i28).1) y28').isSome)=true)∧(¬(((ix y28 ((mfind ((ix y20.1.1 i28).1) y28').getD 0)).2)=((ix y20.1.1 i28).2)))):=qeW hc65
     have h:=h.2 hd65
     refine qaO ?_
     have hR99:=(hL28_z7_0_0.extN hS36)
     have hR100:=((((hR99.ext hS38 (fun g hg hx=>(fun g hg hx=>hR99.box hB36 (hg.trans (congrArg some hx))) g hg hx)).extN hS39).extN hS49).extN hS64)
     have hR101:=((hR48.extN hS49).extN hS64)
     have hR102:=((hR44.extN hS49).extN hS64)
     have hR103:=((hR42.extN hS49).extN hS64)
     refine qbS (K:=K64) (fun c=>c=b6∨ob z7_0_0_28=some c∨mb z7_0_1_28=some c∨w64.heap.size≤c) [.o 0 2,.o 1 2,.o 2 2,.o 3 2,.o 4 2,.o 5 2,.o 6 2,.o 7 1] (by kernel_rfl) (by kernel_rfl) hM64 ?_
     rintro w104 hS104 hM104
     have hE104:=hE64.andN hS104
     refine qag (.pointer (some ⟨b6,0,none⟩)) rfl l0 hM104 (fun _=>R_mv rfl) rfl (gN rfl) rfl ?_
     refine qag (.pointer (some ⟨b6,0,none⟩)) rfl l0 hM104 (fun _=>qaL rfl) rfl (gN rfl) rfl ?_
     refine qag (.pointer (some ⟨b6,0+0,none⟩)) rfl l0 hM104 (fun _=>R_fa rfl Try.underlying41 rfl rfl ty39 rfl) rfl (gN rfl) rfl ?_
     refine qag (.pointer (some ⟨b36,0+0,none⟩)) rfl l0 hM104 (fun _=>R_fa rfl Try.underlying146 rfl rfl ty24 rfl) rfl (gN rfl) rfl ?_
     have hR106:=(hR102.extN hS104)
     refine qbG hM104 (qa9 (Foc.fst qab qai) rfl ty24 hR106 (by first | rfl | simp | omega) (fun h=>h)) rfl (gN rfl) rfl ?_
     rintro v105 (hV105:qab.V _ ((ix y20.1.1 i28).1) _)
     refine qag (.pointer (some ⟨b36,0+32,none⟩)) rfl l0 hM104 (fun _=>R_fa rfl Try.underlying146 rfl rfl ty32 rfl) rfl (gN rfl) rfl ?_
     refine qbG hM104 (qa9 (Foc.snd qab qai) rfl ty32 hR106 (by first | rfl | simp | omega) (fun h=>h)) rfl (gN rfl) rfl ?_
     rintro v108 (hV108:qai.V _ ((ix y20.1.1 i28).2) _)
     have hR110:=(hL28_u2.extN hS36)
     have hR111:=(((((hR110.ext hS38 (fun g hg hx=>(fun g hg hx=>hR110.box hB36 (hg.trans (congrArg some hx))) g hg hx)).extN hS39).extN hS49).extN hS64).extN hS104)
     have hR112:=(hL28_u3.extN hS36)
     have hR113:=(((((hR112.ext hS38 (fun g hg hx=>(fun g hg hx=>hR112.box hB36 (hg.trans (congrArg some hx))) g hg hx)).extN hS39).extN hS49).extN hS64).extN hS104)
     have hR114:=(hR103.extN hS104)
     have hR115:=(hR100.extN hS104)
     have hR116:=(hR101.extN hS104)
     obtain ⟨p118,q118,hl118,hB118,hback118⟩:=Bx.sub (Foc.fst qal (Kd.int .i64)) hR114
     obtain ⟨hp119,h⟩:=h
     refine qgq rfl (gN rfl) rfl (qa0 (qbE Try.call86 (mapC (show (Value.pointer (some ⟨b6,0+0,none⟩))= .pointer (some ⟨b6,(([]:List Value)++p118).length,none⟩) from by rw [List.length_append,hl118];first | done | simp) (mapC rfl (mapC rfl mapN)))) ((qrc hM104 hB118 hR115 hR116 hV105 (Rd.ofV hM104 hV108) (fun _ _ h=>h) hp119).mono ?_))
     rintro _ w117 ⟨K117,u117_0_0,u117_0_1,rfl,hS117,hM117,hB117_m0,hu117_0_0,hxu117_0_0,hu117_0_1,hxu117_0_1⟩
     refine ⟨(.tuple #[]),rfl,?_⟩
     refine ⟨K117,(hS117.weak (fun c hlt hx=>Or.elim hx (fun hx=>(.inl (hx))) (fun hx=>Or.elim hx (fun hx=>(.inr (.inl (hx)))) (fun hx=>(.inr (.inr (.inl (hx)))))))),hM117,?_⟩
     have hE117:=hE104.comp hS117 (fun c hx hlt=>Or.elim hx (fun hx=>(by subst hx;exact (fun hlt=>absurd hlt (Nat.not_lt.2 (Nat.le_trans hE0.size hge6))) hlt)) (fun hx=>Or.elim hx (fun hx=>(fun g hg hlt=>absurd hlt (Nat.not_lt.2 ((fun g hg=>(ho28_z7_0_0 g hg).elim (fun hx=>(fun g hg=>(ho10_z7_0_0 g hg).elim (fun hx=>(fun g hg=>nilS hg) g hx) (fun hx=>Nat.le_trans hE6.size hx)) g hx) (fun hx=>Nat.le_trans hE11.size hx)) g hg))) c hx hlt) (fun hx=>(fun g hg hlt=>absurd hlt (Nat.not_lt.2 ((fun g hg=>(ho28_z7_0_1 g hg).elim (fun hx=>(fun g hg=>(ho10_z7_0_1 g hg).elim (fun hx=>(fun g hg=>nilM hg) g hx) (fun hx=>Nat.le_trans hE6.size hx)) g hx) (fun hx=>Nat.le_trans hE11.size hx)) g hg))) c hx hlt)))
     have hB117_w:Bx qao w117 K117 b6 [] [] ((u117_0_0,u117_0_1),0):=hback118 hS117.le hB117_m0
     refine qcQ ?_
     refine qac ?_
     refine qaa (.int .i64 (i28+1)) (qk2 rfl rfl hw28_28 hd30 (qbv (hV26).wf.1)) rfl rfl ?_
     refine qaa (.int .i64 (i28+1)) (R_mv rfl) rfl rfl ?_
     refine qak ?_
     have hR120:=(hR111.ext hS117 (fun g hg hx=>Or.elim hx (fun hx=>(fun g hg hx=>hR111.box hR114 (hg.trans (congrArg some hx))) g hg hx) (fun hx=>Or.elim hx (fun hx=>(Own.ne_type hR111 hR115 (by decide)) g hg hx) (fun hx=>(fun g hg=>hR116.own hR111 g hg) g hg hx))))
     have hR121:=(hR113.ext hS117 (fun g hg hx=>Or.elim hx (fun hx=>(fun g hg hx=>hR113.box hR114 (hg.trans (congrArg some hx))) g hg hx) (fun hx=>Or.elim hx (fun hx=>(Own.ne_type hR113 hR115 (by decide)) g hg hx) (fun hx=>(fun g hg=>hR116.own hR113 g hg) g hg hx))))
     refine qfj.mk (a28,b28,found28,(i28+1),(addL y28 ((ix y20.1.1 i28).1) ((ix y20.1.1 i28).2)),(addM y28 y28' ((ix y20.1.1 i28).1) ((ix y20.1.1 i28).2))) [(2,u2_28),(3,u3_28),(4,(.bool found28)),(28,(.int .i64 (i28+1)))] ?_ ?_ ?_ ?_
     rotate_left
     ·exact h.2
     ·repeat (first | exact Off.lay0 rfl | refine Off.updO ?_ rfl _ | refine Off.updN ?_ _ | refine Off.lay ?_ rfl)
     ·repeat (first | exact trivial | refine ⟨rfl,?_⟩)
     exact ⟨K117,u2_28,u3_28,u117_0_0,u117_0_1,h.1,rfl,(((((((((Ext.refl _ _ _).comp hX29 (fun c hx hlt=>Or.elim hx (fun hx=>(.inl (hx))) (fun hx=>Or.elim hx (fun hx=>(.inr (.inl (hx)))) (fun hx=>Or.elim hx (fun hx=>(.inr (.inr (.inl (hx))))) (fun hx=>Or.elim hx (fun hx=>(.inr (.inr (.inr (.inl (hx)))))) (fun hx=>(.inr (.inr (.inr (.inr (hx))))))))))).andN hS36).comp hS38 (fun c hx hlt=>(by subst hx;exact absurd hlt (Nat.not_lt.2 (Nat.le_trans hX29.size hge36))))).andN hS39).andN hS49).andN hS64).andN hS104).comp hS117 (fun c hx hlt=>Or.elim hx (fun hx=>(.inr (.inr (.inr (.inr (hx)))))) (fun hx=>Or.elim hx (fun hx=>((((ho28_z7_0_0 c hx).elim (fun hz=>(.inl hz)) (fun hz=> .inr (Nat.le_trans (Nat.le_refl _) hz))):ob z7_0_0_10=some c∨w11.heap.size≤c).elim (fun hx=>(.inr (.inr (.inl (hx))))) (fun hz=>absurd hlt (Nat.not_lt.2 hz)))) (fun hx=>((((ho28_z7_0_1 c hx).elim (fun hz=>(.inl hz)) (fun hz=> .inr (Nat.le_trans (Nat.le_refl _) hz))):mb z7_0_1_10=some c∨w11.heap.size≤c).elim (fun hx=>(.inr (.inr (.inr (.inl (hx)))))) (fun hz=>absurd hlt (Nat.not_lt.2 hz))))))),hM117,(qgA hw28_28 hd30 (qbv (hV26).wf.1)),hR120,(fun g hg=>((ho28_u2 g hg).elim (fun hz=>(.inl hz)) (fun hz=> .inr (Nat.le_trans (Nat.le_refl _) hz)))),hR121,(fun g hg=>((ho28_u3 g hg).elim (fun hz=>(.inl hz)) (fun hz=> .inr (Nat.le_trans (Nat.le_refl _) hz)))),hu117_0_0,(fun g hg=>((hxu117_0_0 g hg).elim (fun hz=>((ho28_z7_0_0 g hz).elim (fun hz=>(.inl hz)) (fun hz=> .inr (Nat.le_trans (Nat.le_refl _) hz)))) (fun hz=> .inr (Nat.le_trans (Nat.le_trans hX29.size (Nat.le_trans hS36.size (Nat.le_trans hS38.size (Nat.le_trans hS39.size (Nat.le_trans hS49.size (Nat.le_trans hS64.size hS104.size)))))) hz)))),hu117_0_1,(fun g hg=>((hxu117_0_1 g hg).elim (fun hz=>((ho28_z7_0_1 g hz).elim (fun hz=>(.inl hz)) (fun hz=> .inr (Nat.le_trans (Nat.le_refl _) hz)))) (fun hz=> .inr (Nat.le_trans (Nat.le_trans hX29.size (Nat.le_trans hS36.size (Nat.le_trans hS38.size (Nat.le_trans hS39.size (Nat.le_trans hS49.size (Nat.le_trans hS64.size hS104.size)))))) hz)))),hB117_w,hs28_u2_u3⟩
   ·have hd30: ¬(i28<(y20.1.1.length:Int)):=qeW hc30
    have h:=h.2 hd30
    refine qcX ?_
    refine qac ?_
    refine qaa (.int .i64 (IntKind.i64.wrap (i10+1))) (qk1 rfl rfl) rfl rfl ?_
    refine qaa (.int .i64 (IntKind.i64.wrap (i10+1))) (R_mv rfl) rfl rfl ?_
    refine qak ?_
    refine qfj.mk (a28,b28,found28,(IntKind.i64.wrap (i10+1)),y28,y28') [(2,u2_28),(3,u3_28),(4,(.bool found28)),(16,(.int .i64 (IntKind.i64.wrap (i10+1))))] ?_ ?_ ?_ ?_
    rotate_left
    ·exact h.2
    ·repeat (first | exact Off.lay0 rfl | refine Off.updO ?_ rfl _ | refine Off.updN ?_ _ | refine Off.lay ?_ rfl)
    ·repeat (first | exact trivial | refine ⟨rfl,?_⟩)
    exact ⟨K29,u2_28,u3_28,z7_0_0_28,z7_0_1_28,h.1,rfl,(((Ext.refl _ _ _).comp hX11 (fun c hx hlt=>Or.elim hx (fun hx=>(.inl (hx))) (fun hx=>Or.elim hx (fun hx=>(.inl (hx))) (fun hx=>Or.elim hx (fun hx=>(absurd hlt (Nat.not_lt.2 (nilS hx)))) (fun hx=>Or.elim hx (fun hx=>(absurd hlt (Nat.not_lt.2 (nilM hx)))) (fun hx=>(.inr (.inr (.inr (.inr (hx))))))))))).comp hX29 (fun c hx hlt=>Or.elim hx (fun hx=>((((ho10_u2 c hx).elim (fun hz=>(.inl hz)) (fun hz=> .inr (Nat.le_trans (Nat.le_refl _) hz))):ob (.slice none 0 0)=some c∨w6.heap.size≤c).elim (fun hx=>(.inl (hx))) (fun hz=>absurd hlt (Nat.not_lt.2 hz)))) (fun hx=>Or.elim hx (fun hx=>((((ho10_u3 c hx).elim (fun hz=>(.inl hz)) (fun hz=> .inr (Nat.le_trans (Nat.le_refl _) hz))):ob (.slice none 0 0)=some c∨w6.heap.size≤c).elim (fun hx=>(.inl (hx))) (fun hz=>absurd hlt (Nat.not_lt.2 hz)))) (fun hx=>Or.elim hx (fun hx=>(absurd hlt (Nat.not_lt.2 ((ho10_z7_0_0 c hx).elim (fun hz=>(nilS hz)) (fun hz=>(Nat.le_trans (Nat.le_refl _) hz)))))) (fun hx=>Or.elim hx (fun hx=>(absurd hlt (Nat.not_lt.2 ((ho10_z7_0_1 c hx).elim (fun hz=>(nilM hz)) (fun hz=>(Nat.le_trans (Nat.le_refl _) hz)))))) (fun hx=>(.inr (.inr (.inr (.inr (hx))))))))))),hM29,(qcm _ _),hL28_u2,(fun g hg=>((ho28_u2 g hg).elim (fun hz=>((ho10_u2 g hz).elim (fun hz=>(.inl hz)) (fun hz=> .inr (Nat.le_trans (Nat.le_refl _) hz)))) (fun hz=> .inr (Nat.le_trans hX11.size hz)))),hL28_u3,(fun g hg=>((ho28_u3 g hg).elim (fun hz=>((ho10_u3 g hz).elim (fun hz=>(.inl hz)) (fun hz=> .inr (Nat.le_trans (Nat.le_refl _) hz)))) (fun hz=> .inr (Nat.le_trans hX11.size hz)))),hL28_z7_0_0,(fun g hg=> .inr ((ho28_z7_0_0 g hg).elim (fun hz=>((ho10_z7_0_0 g hz).elim (fun hz=>(nilS hz)) (fun hz=>(Nat.le_trans (Nat.le_refl _) hz)))) (fun hz=>(Nat.le_trans hX11.size hz)))),hL28_z7_0_1,(fun g hg=> .inr ((ho28_z7_0_1 g hg).elim (fun hz=>((ho10_z7_0_1 g hz).elim (fun hz=>(nilM hz)) (fun hz=>(Nat.le_trans (Nat.le_refl _) hz)))) (fun hz=>(Nat.le_trans hX11.size hz)))),hL28_7,hs28_u2_u3⟩
 ·have hd14: ¬(i10<(a0_l.length:Int)):=qeW hc14
  have h:=h.2 hd14
  refine qcX ?_
  refine qaf ?_
  refine qac ?_
  have hR122:Own Kd.byte 5 w11 K11 ([]:List UInt8) (.slice none 0 0):=Own.nil
  refine qaa (.slice none 0 0) (R_as rfl) rfl rfl ?_
  have hR123:Own Kd.byte 5 w11 K11 ([]:List UInt8) (.slice none 0 0):=Own.nil
  refine qaa (.slice none 0 0) (R_as rfl) rfl rfl ?_
  refine qaa (.bool false) (R_as rfl) rfl rfl ?_
  refine qak ?_
  refine qbm ?_
  exact qaN hR (v:=(.tuple #[(.slice none 0 0),(.slice none 0 0),(.bool false)])) (qql rfl rfl rfl rfl) ⟨K11,(.slice none 0 0),(.slice none 0 0),(.bool false),([]:List UInt8),([]:List UInt8),false,rfl,h,hE11,hM11,hR122,(fun g hg=>nilS hg),hR123,(fun g hg=>nilS hg),qcp,(fun g hg hx=>(fun g hg _=>nilS hg) g hx hg)⟩
theorem qlE {w0:World} {K0:Ghost} {a0_l_v:Value} {a0_l:(List (Option (((List ((List UInt8)×(List UInt8)))×Unit)×Int)))} (hM0:Models w0 K0) (h_a0_l:qbz.V K0 a0_l a0_l_v) (hp:qcF a0_l):Calls Try.prog 36 #[a0_l_v] w0 (fun e w'=> ∃(K':Ghost) (r0:Value) (r1:Value) (r2:Value),e= .returned (.tuple #[r0,r1,r2])∧Ext NX w0 K0 w' K'∧Models w' K'∧Own Kd.byte 5 w' K' ((qaK a0_l).1) r0∧(∀g,ob r0=some g→w0.heap.size≤g)∧Own Kd.byte 5 w' K' ((qaK a0_l).2.1) r1∧(∀g,ob r1=some g→w0.heap.size≤g)∧Kd.bool.V K' ((qaK a0_l).2.2) r2∧(∀g,ob r0=some g→¬(ob r1=some g))):=by
 refine (qkP hM0 h_a0_l (qon h_a0_l.wf hp)).mono ?_
 rintro _ w' ⟨K',r0,r1,r2,o0,o1,o2,rfl,⟨rfl,rfl,rfl⟩,hF⟩
 exact ⟨K',r0,r1,r2,rfl,hF⟩
end Go.Proofs.Ytmjjkpiglbpkhaa

set_option linter.unusedVariables false
set_option maxRecDepth 100000
set_option maxHeartbeats 2000000
namespace Go.Proofs.Ytmjjkpiglbpkhaa
open Go Go.RowKit Go.Inc
noncomputable def Of_C:Ctr:=⟨[.bk 146 true,.v (.int .i64),.v (.sl (.sl .byte))],[.v (.arr 32 .byte)],some (fun a=>(fun (a0_k:qav) (a1_kind:Int) (a2_parts:List (List UInt8))=>(1+qah a2_parts≤140737488355328∧qaZ a0_k:Prop)) a.1 a.2.1 a.2.2.1),fun a=>(fun (a0_k:qav) (a1_kind:Int) (a2_parts:List (List UInt8))=>(((qaj a1_kind a2_parts),()),((qaH a0_k a1_kind a2_parts),()))) a.1 a.2.1 a.2.2.1⟩
theorem Of_k:Of_C.valid Try.prog 67:=qti (fun _=>rfl) (fun _=>rfl) fun a hp θ v F vs w K hM hB hv=>by
 obtain ⟨v1,vs,rfl,h1,v2,vs,rfl,h2,hnil⟩:=hv
 have hnil':vs=[]:=hnil
 subst hnil'
 refine (Of_c hM hB (qc7 (t:= .int .i64) h1 rfl) (Rd.ofV hM (qc7 (t:= .sl (.sl .byte)) h2 rfl)) hp).mono ?_
 rintro ed w' ⟨K',r0,F0,rfl,hE,hM',hr,hB',hg⟩
 exact ⟨K',[r0],F0,rfl,hE,hM',fun θ'=>qio (SVal.of_rel (t:= .arr 32 .byte) hr),hB',hg⟩
noncomputable def qiP:Ctr:=⟨[.bk 146 true,.v (.arr 32 .byte),.v (.sl .byte)],[],some (fun a=>(fun (a0_k:qav) (a1_s:List UInt8) (a2_b:List UInt8)=>(a2_b.length≤140737488355328∧qaZ a0_k:Prop)) a.1 a.2.1 a.2.2.1),fun a=>(fun (a0_k:qav) (a1_s:List UInt8) (a2_b:List UInt8)=>((()),((qam a0_k a1_s a2_b),()))) a.1 a.2.1 a.2.2.1⟩
theorem ql0:qiP.valid Try.prog 56:=qti (fun _=>rfl) (fun _=>rfl) fun a hp θ v F vs w K hM hB hv=>by
 obtain ⟨v1,vs,rfl,h1,v2,vs,rfl,h2,hnil⟩:=hv
 have hnil':vs=[]:=hnil
 subst hnil'
 refine (qlZ hM hB (qc7 (t:= .arr 32 .byte) h1 rfl) (Rd.ofV hM (qc7 (t:= .sl .byte) h2 rfl)) (fun _ _ h=>h) hp).mono ?_
 rintro ed w' ⟨K',F0,rfl,hE,hM',hB',hg⟩
 exact ⟨K',[],F0,rfl,hE,hM',fun θ'=>rfl,hB',hg⟩
noncomputable def qgR:Ctr:=⟨[.bk 146 false],[.v (.int .i64)],none,fun a=>(fun (a0_k:qav)=>(((qbr a0_k),()),(()))) a.1⟩
theorem qjJ:qgR.valid Try.prog 99:=qmI (fun _=>rfl) (fun _=>rfl) fun a hp θ v F vs w K hM hB hv=>by
 have hnil':vs=[]:=hv
 subst hnil'
 refine (qok hM hB).mono ?_
 rintro ed w' ⟨K',r0,rfl,hE,hM',hr⟩
 exact ⟨K',[r0],rfl,hE,hM',fun θ'=>qio (SVal.of_rel (t:= .int .i64) hr)⟩
noncomputable def qlD:Ctr:=⟨[.v (.sl (.ptr (.pr (.pr (.sl (.pr (.arr 32 .byte) (.sl .byte))) .anm) (.int .i64))))],[.v (.sl .byte),.v (.sl .byte),.v .bool],some (fun a=>(fun (a0_l:List (Option (((List ((List UInt8)×(List UInt8)))×Unit)×Int)))=>(qcF a0_l:Prop)) a.1),fun a=>(fun (a0_l:List (Option (((List ((List UInt8)×(List UInt8)))×Unit)×Int)))=>(((qaK a0_l).1,(qaK a0_l).2.1,(qaK a0_l).2.2,()),(()))) a.1⟩
theorem qqE:qlD.valid Try.prog 36:=br_v (fun _=>rfl) (fun _=>rfl) fun a hp θ vs w K hM hv=>by
 obtain ⟨v1,vs,rfl,h1,hnil⟩:=hv
 have hnil':vs=[]:=hnil
 subst hnil'
 refine (qlE hM (qc7 (t:= .sl (.ptr (.pr (.pr (.sl (.pr (.arr 32 .byte) (.sl .byte))) .anm) (.int .i64)))) h1 rfl) hp).mono ?_
 rintro ed w' ⟨K',r0,r1,r2,rfl,hE,hM',hr0,_,hr1,_,hr2,_⟩
 exact ⟨K',[r0,r1,r2],rfl,hE,hM',⟨r0,_,rfl,SVal.of_rel (t:= .sl .byte) hr0.V,r1,_,rfl,SVal.of_rel (t:= .sl .byte) hr1.V,qio (SVal.of_rel (t:= .bool) hr2)⟩⟩
end Go.Proofs.Ytmjjkpiglbpkhaa

set_option linter.unusedVariables false
set_option maxRecDepth 100000
set_option maxHeartbeats 2000000
namespace Go.Proofs.Ytmjjkpiglbpkhaa
open Go Go.RowKit Go.Inc
noncomputable def qlN:Ctr:=⟨[.bk 146 false,.v (.arr 32 .byte)],[.v (.sl .byte),.v .bool],some (fun a=>(fun (a0_k:qav) (a1_s:List UInt8)=>(qaU a0_k:Prop)) a.1 a.2.1),fun a=>(fun (a0_k:qav) (a1_s:List UInt8)=>(((qby a0_k a1_s),(qcE a0_k a1_s),()),(()))) a.1 a.2.1⟩
theorem qqH:qlN.valid Try.prog 52:=qmI (fun _=>rfl) (fun _=>rfl) fun a hp θ v F vs w K hM hB hv=>by
 obtain ⟨v1,vs,rfl,h1,hnil⟩:=hv
 have hnil':vs=[]:=hnil
 subst hnil'
 refine (qlO hM hB (qc7 (t:= .arr 32 .byte) h1 rfl) hp).mono ?_
 rintro ed w' ⟨K',r0,r1,rfl,hE,hM',hO,hg,hb⟩
 exact ⟨K',[r0,r1],rfl,hE,hM',fun θ'=>⟨r0,[r1],rfl,SVal.of_rel (t:= .sl .byte) hO.V,r1,[],rfl,SVal.of_rel (t:= .bool) hb,rfl⟩⟩
noncomputable def qpV:Ctr:=⟨[.bk 146 false],[.v (.sl (.sl .byte))],some (fun a=>(fun (a0_k:qav)=>(qaU a0_k:Prop)) a.1),fun a=>(fun (a0_k:qav)=>(((qeq a0_k),()),(()))) a.1⟩
theorem qr9:qpV.valid Try.prog 100:=qmI (fun _=>rfl) (fun _=>rfl) fun a hp θ v F vs w K hM hB hv=>by
 have hnil':vs=[]:=hv
 subst hnil'
 refine (qr8 hM hB hp).mono ?_
 rintro ed w' ⟨K',r0,rfl,hE,hM',hO,hg⟩
 exact ⟨K',[r0],rfl,hE,hM',fun θ'=>qio (SVal.of_rel (t:= .sl (.sl .byte)) hO.V)⟩
end Go.Proofs.Ytmjjkpiglbpkhaa

set_option linter.unusedVariables false
namespace Go.Inc
open Go Go.RowKit
section
variable {P:Program} {f:FuncId} {e e2:Nat} {t t2 q:Ty}
theorem RwX.rd {w:World} {K:Ghost} {x:List q.den} {u:List Value×List Value} {v:Value} {F:Nat→Prop} (h:RwX e q w K x u v F) (hM:Models w K): ∃D,Rd (Kd.sl q.kd) D w K x v∧∀g,D g→F g:=by
 obtain ⟨K1,hE,hM1,hV,hx⟩:=h.freeze hM
 have hlt: ∀b,K1 b≠none→b<w.heap.size:=fun b hb=>by
  cases hk:K1 b with
  | none=>exact absurd hk hb
  | some p=>exact hM1.lt (t:=p.1) (l:=p.2) hk
 refine ⟨fun b=>K b=none∧K1 b≠none,⟨K1,hM1,hx,fun b h1 h2=>⟨h2,h1⟩,fun b hb=>⟨hlt b hb.2,hb.1⟩,hV⟩,fun g hg=>?_⟩
 exact Classical.byContradiction fun hF=>hg.2 (by rw [hE.ghost g (hlt g hg.2) hF];exact hg.1)
theorem qqd {rm:List RM} {pr:Option (PM.denL [.bk e true,.v t,.rw e2 q false]→Prop)} {out:PM.denL [.bk e true,.v t,.rw e2 q false]→RM.denL rm×PM.MD [.bk e true,.v t,.rw e2 q false]} (h1: ∀x,RM.resL rm x=[])
 (old: ∀a,Ctr.pre ⟨[.bk e true,.v t,.rw e2 q false],rm,pr,out⟩ a→∀(v:Value) (F:Nat→Prop) (v1 v2:Value) (D:Nat→Prop) (w:World) (K:Ghost),Models w K→qaE e w K v F a.1→t.kd.V K a.2.1 v1→Rd (Kd.sl q.kd) D w K a.2.2.1 v2→(∀g,F g→¬D g)→
   Calls P f #[v,v1,v2] w fun ed w'=> ∃K' rs F0,ed= .returned (tupV rs)∧Ext F w K w' K'∧Models w' K'∧(∀θ n,SVal.relL θ n K' (RM.svL rm (out a).1 2) rs)∧qaE e w' K' v F0 (out a).2.1∧∀g,F0 g→F g∨w.heap.size≤g):
 Ctr.valid P f ⟨[.bk e true,.v t,.rw e2 q false],rm,pr,out⟩:=by
 intro a hp θ vs w K hM hA
 have hres:PM.resL [.bk e true,.v t,.rw e2 q false] a=[(.bk e a.1,true),(.rw e2 q a.2.2.1,false)]:=rfl
 obtain ⟨v,vs,rfl,hv0,v1,vs,rfl,hv1,v2,vs,rfl,hv2,hnil⟩:=hA.vals
 have hnil':vs=[]:=hnil
 subst hnil'
 have k0:θ.key 0=v:=hv0.2
 have k1:θ.key 1=v2:=hv2.2
 have s0:qaE e w K (θ.key 0) (θ.fp 0) a.1:=hA.sat 0 (.bk e a.1) true rfl
 have s1:RwX e2 q w K a.2.2.1 (θ.sur 1) (θ.key 1) (θ.fp 1):=hA.sat 1 (.rw e2 q a.2.2.1) false rfl
 have hap: ∀g,θ.fp 0 g→¬θ.fp 1 g:=hA.apart 0 1 (show 0<2 by decide) (show 1<2 by decide) (by decide)
 obtain ⟨D,hR,hD⟩:=s1.rd hM
 rw [k0] at s0
 rw [k1] at hR
 refine (old a hp v _ v1 v2 D w K hM s0 (qd9 hv1) hR (fun g hg hd=>hap g hg (hD g hd))).mono ?_
 rintro ed w' ⟨K',rs,F0,rfl,hE,hM',hr,hB',hg⟩
 have hends:Ctr.ends ⟨[.bk e true,.v t,.rw e2 q false],rm,pr,out⟩ a=[.bk e (out a).2.1,.rw e2 q a.2.2.1]:=by
  unfold Ctr.ends
  rw [h1]
  rfl
 have f1:(θ.set 0 v F0 (θ.sur 0)).fp 1=θ.fp 1:=Th.set_fp_ne (by decide)
 have f0:(θ.set 0 v F0 (θ.sur 0)).fp 0=F0:=Th.set_fp
 have e1:RwX e2 q w' K' a.2.2.1 (θ.sur 1) (θ.key 1) (θ.fp 1):=s1.ext hE fun g hg hq=>hap g hq hg
 have hlt1: ∀g,θ.fp 1 g→g<w.heap.size:=s1.lt
 have two: ∀r,r<2→r=0∨r=1:=fun r hr=>by omega
 refine ⟨_,K',θ.set 0 v F0 (θ.sur 0),rfl,hE.weak fun g _ hg=>⟨0,.bk e a.1,rfl,hg⟩,hM',?_,⟨rs,rfl,?_⟩,fun r R hR=>?_,fun r hr g hg'=>?_,fun r h1 h2=>?_,fun r r' h1 h2 h3 g hg1 hg2=>?_⟩
 ·intro r hr
  rcases two r hr with rfl | rfl
  ·exact ⟨by rw [Th.set_key,k0],Th.set_sur⟩
  ·exact ⟨Th.set_key_ne (by decide),Th.set_sur_ne (by decide)⟩
 ·exact hr _ _
 ·rw [hends] at hR
  match r,hR with
  | 0,hR=>
    cases hR
    show qaE e w' K' ((θ.set 0 v F0 (θ.sur 0)).key 0) ((θ.set 0 v F0 (θ.sur 0)).fp 0) _
    rw [Th.set_key,f0]
    exact hB'
  | 1,hR=>
    cases hR
    show RwX e2 q w' K' a.2.2.1 ((θ.set 0 v F0 (θ.sur 0)).sur 1) ((θ.set 0 v F0 (θ.sur 0)).key 1) ((θ.set 0 v F0 (θ.sur 0)).fp 1)
    rw [f1,Th.set_key_ne (by decide),Th.set_sur_ne (by decide)]
    exact e1
  | r+2,hR=>simp at hR
 ·rcases two r hr with rfl | rfl
  ·rw [f0] at hg';exact hg g hg'
  ·rw [f1] at hg';exact .inl hg'
 ·rw [hends] at h2
  have h1':2≤r:=h1
  have h2':r<2:=h2
  omega
 ·rw [hends] at h1 h2
  have key: ∀g,F0 g→¬θ.fp 1 g:=fun g h0 hh=>(hg g h0).elim (fun h=>hap g h hh) (fun h=>absurd (hlt1 g hh) (Nat.not_lt.2 h))
  rcases two r h1 with rfl | rfl<;>rcases two r' h2 with rfl | rfl
  ·exact h3 rfl
  ·rw [f0] at hg1;rw [f1] at hg2;exact key g hg1 hg2
  ·rw [f1] at hg1;rw [f0] at hg2;exact key g hg2 hg1
  ·exact h3 rfl
theorem qmJ {pr:Option (PM.denL [.bk e false,.v t]→Prop)} {out:PM.denL [.bk e false,.v t]→RM.denL [.rw e2 q,.v t2]×PM.MD [.bk e false,.v t]} (hb:Nat.blt e2 DPB=true)
 (old: ∀a,Ctr.pre ⟨[.bk e false,.v t],[.rw e2 q,.v t2],pr,out⟩ a→∀(v:Value) (F:Nat→Prop) (v1:Value) (w:World) (K:Ghost),Models w K→qaE e w K v F a.1→t.kd.V K a.2.1 v1→
   Calls P f #[v,v1] w fun ed w'=> ∃K' r0 r1,ed= .returned (tupV [r0,r1])∧Ext NX w K w' K'∧Models w' K'∧Own q.kd e2 w' K' (out a).1.1 r0∧(∀g,ob r0=some g→w.heap.size≤g)∧t2.kd.V K' (out a).1.2.1 r1) (hq:t2.flatB=true):
 Ctr.valid P f ⟨[.bk e false,.v t],[.rw e2 q,.v t2],pr,out⟩:=by
 intro a hp θ vs w K hM hA
 obtain ⟨v,vs,rfl,hv0,v1,vs,rfl,hv1,hnil⟩:=hA.vals
 have hnil':vs=[]:=hnil
 subst hnil'
 have k0:θ.key 0=v:=hv0.2
 have s0:qaE e w K (θ.key 0) (θ.fp 0) a.1:=hA.sat 0 (.bk e a.1) false rfl
 rw [k0] at s0
 refine (old a hp v _ v1 w K hM s0 (qd9 hv1)).mono ?_
 rintro ed w' ⟨K1,r0,r1,rfl,hE1,hM1,hO,hg,hV⟩
 obtain ⟨K',hR0,hE,hM'⟩:=hO.unkN hE1 hM1 hM hg
 have hV':t2.kd.V K' (out a).1.2.1 r1:=by
  obtain ⟨cs,h1,h2⟩:=hV
  exact ⟨cs,Ty.flat_ok hq _ _ _ _ h1,h2⟩
 have s0':qaE e w' K' v (θ.fp 0) a.1:=qaE.extN s0 hE
 have hends:Ctr.ends ⟨[.bk e false,.v t],[.rw e2 q,.v t2],pr,out⟩ a=[.bk e a.1,.rw e2 q (out a).1.1]:=rfl
 have two: ∀r,r<2→r=0∨r=1:=fun r hr=>by omega
 have f0:(θ.set 1 r0 (fun g=>ob r0=some g) ([],[])).fp 0=θ.fp 0:=Th.set_fp_ne (by decide)
 have f1:(θ.set 1 r0 (fun g=>ob r0=some g) ([],[])).fp 1=fun g=>ob r0=some g:=Th.set_fp
 have hlt0: ∀g,θ.fp 0 g→g<w.heap.size:=fun g h=>qaE.lt s0 g h
 refine ⟨_,K',θ.set 1 r0 (fun g=>ob r0=some g) ([],[]),rfl,hE.weak fun g _ hg=>hg.elim,hM',Th.set_upto (Nat.le_refl 1),⟨[r0,r1],rfl,r0,[r1],rfl,⟨by rw [hends];exact Nat.lt_succ_self _,Th.set_key⟩,r1,[],rfl,SVal.of_rel hV',rfl⟩,fun r R hR=>?_,fun r hr g hg'=>?_,fun r h1 h2 g hg'=>?_,fun r r' h1 h2 h3 g hg1 hg2=>?_⟩
 ·rw [hends] at hR
  match r,hR with
  | 0,hR=>
    cases hR
    show qaE e w' K' ((θ.set 1 r0 _ ([],[])).key 0) ((θ.set 1 r0 _ ([],[])).fp 0) _
    rw [f0,Th.set_key_ne (by decide),k0]
    exact s0'
  | 1,hR=>
    cases hR
    refine (RwX.flat hb).2 ⟨?_,?_⟩
    ·rw [Th.set_key];exact hR0
    ·rw [f1,Th.set_key];exact fun g=>Iff.rfl
  | r+2,hR=>simp at hR
 ·have:r=0:=by
   have hr':r<1:=hr
   omega
  subst this
  rw [f0] at hg'
  exact .inl hg'
 ·rw [hends] at h2
  rcases two r h2 with rfl | rfl
  ·exact absurd (show 1≤0 from h1) (by decide)
  ·rw [f1] at hg';exact hg g hg'
 ·rw [hends] at h1 h2
  have key: ∀g,θ.fp 0 g→¬ob r0=some g:=fun g h0 hh=>absurd (hlt0 g h0) (Nat.not_lt.2 (hg g hh))
  rcases two r h1 with rfl | rfl<;>rcases two r' h2 with rfl | rfl
  ·exact h3 rfl
  ·rw [f0] at hg1;rw [f1] at hg2;exact key g hg1 hg2
  ·rw [f1] at hg1;rw [f0] at hg2;exact key g hg2 hg1
  ·exact h3 rfl
end
end Go.Inc

set_option linter.unusedVariables false
set_option maxRecDepth 100000
set_option maxHeartbeats 2000000
namespace Go.Proofs.Ytmjjkpiglbpkhaa
open Go Go.RowKit Go.Inc
noncomputable def qsp:Ctr:=⟨[.bk 146 true,.v (.int .i64),.rw 1000032 (.sl .byte) false],[.v (.arr 32 .byte)],some (fun a=>(fun (a0_k:qav) (a1_kind:Int) (a2_parts:List (List UInt8))=>(1+qah a2_parts≤140737488355328∧qaZ a0_k:Prop)) a.1 a.2.1 a.2.2.1),fun a=>(fun (a0_k:qav) (a1_kind:Int) (a2_parts:List (List UInt8))=>(((qaj a1_kind a2_parts),()),((qaH a0_k a1_kind a2_parts),()))) a.1 a.2.1 a.2.2.1⟩
theorem qtT:qsp.valid Try.prog 67:=qqd (fun _=>rfl) fun a hp v F v1 v2 D w K hM hB h1 h2 hd=>by
 refine (Of_c hM hB h1 h2 hp).mono ?_
 rintro ed w' ⟨K',r0,F0,rfl,hE,hM',hr,hB',hg⟩
 exact ⟨K',[r0],F0,rfl,hE,hM',fun θ' n=>qio (SVal.of_rel (t:= .arr 32 .byte) hr),hB',hg⟩
noncomputable def ql1:Ctr:=⟨[.bk 146 true,.v (.arr 32 .byte),.rw 5 .byte false],[],some (fun a=>(fun (a0_k:qav) (a1_s:List UInt8) (a2_b:List UInt8)=>(a2_b.length≤140737488355328∧qaZ a0_k:Prop)) a.1 a.2.1 a.2.2.1),fun a=>(fun (a0_k:qav) (a1_s:List UInt8) (a2_b:List UInt8)=>((()),((qam a0_k a1_s a2_b),()))) a.1 a.2.1 a.2.2.1⟩
theorem qqT:ql1.valid Try.prog 56:=qqd (fun _=>rfl) fun a hp v F v1 v2 D w K hM hB h1 h2 hd=>by
 refine (qlZ hM hB h1 h2 hd hp).mono ?_
 rintro ed w' ⟨K',F0,rfl,hE,hM',hB',hg⟩
 exact ⟨K',[],F0,rfl,hE,hM',fun θ' n=>rfl,hB',hg⟩
noncomputable def qlP:Ctr:=⟨[.bk 146 false,.v (.arr 32 .byte)],[.rw 5 .byte,.v .bool],some (fun a=>(fun (a0_k:qav) (a1_s:List UInt8)=>(qaU a0_k:Prop)) a.1 a.2.1),fun a=>(fun (a0_k:qav) (a1_s:List UInt8)=>(((qby a0_k a1_s),(qcE a0_k a1_s),()),(()))) a.1 a.2.1⟩
theorem qqI:qlP.valid Try.prog 52:=qmJ rfl (fun a hp v F v1 w K hM hB h1=>by
 refine (qlO hM hB h1 hp).mono ?_
 rintro ed w' ⟨K',r0,r1,rfl,hE,hM',hO,hg,hb⟩
 exact ⟨K',r0,r1,rfl,hE,hM',hO,hg,hb⟩) rfl
end Go.Proofs.Ytmjjkpiglbpkhaa

set_option linter.unusedVariables false
namespace Go.Inc
open Go Go.RowKit
section
variable {α:Type} {k:Kd α} {e:TypeId} {w w':World} {K:Ghost} {X:Nat→Prop} {x:List α} {v:Value}
theorem Own.unkE {K2:Ghost} (hO:Own k e w' K2 x v) (hE:Ext NX w K w' K2) (hM:Models w' K2) (hM0:Models w K) (hg: ∀g,ob v=some g→w.heap.size≤g):
 ∃K',Rw k e w' K' x v∧Ext NX w K w' K'∧Models w' K'∧∀b,ob v≠some b→K' b=K2 b:=by
 have key: ∃l,kset (fun b=>if ob v=some b then none else K2 b) v e l=K2:=by
  cases hob:ob v with
  | none=>exact ⟨[],by funext b;simp [kset,hob]⟩
  | some g=>
    obtain ⟨l,hl⟩:=hO.known g hob
    refine ⟨l,?_⟩
    funext b
    by_cases hb:b=g
    ·subst hb;simp [kset,hob,hl]
    ·have hne: ¬g=b:=fun h=>hb h.symm
     simp [kset,hob,hne]
 obtain ⟨l,hl⟩:=key
 refine ⟨fun b=>if ob v=some b then none else K2 b,⟨fun g hg=>by simp [hg],l,by rw [hl];exact hO⟩,⟨fun b t l' hb=>?_,hE.heap,fun b hb hX=>?_,hE.size,hE.os,hE.tape,hE.output⟩,fun b t l' hb=>?_,fun b hb=>if_neg hb⟩
 ·have hne:ob v≠some b:=fun h=>by rw [hM0.none_of_ge (hg b h)] at hb;cases hb
  simp only [if_neg hne]
  exact hE.le b t l' hb
 ·by_cases h:ob v=some b
  ·exact absurd hb (Nat.not_lt.2 (hg b h))
  ·simp only [if_neg h];exact hE.ghost b hb hX
 ·by_cases h:ob v=some b
  ·simp [h] at hb
  ·simp only [if_neg h] at hb;exact hM b t l' hb
end
section
variable {P:Program} {f:FuncId} {e2:Nat} {t t2 q:Ty}
theorem qoZ {pr:Option (PM.denL [.v t]→Prop)} {out:PM.denL [.v t]→RM.denL [.rw e2 q,.rw e2 q,.v t2]×PM.MD [.v t]} (hb:Nat.blt e2 DPB=true)
 (old: ∀a,Ctr.pre ⟨[.v t],[.rw e2 q,.rw e2 q,.v t2],pr,out⟩ a→∀(v1:Value) (w:World) (K:Ghost),Models w K→t.kd.V K a.1 v1→
   Calls P f #[v1] w fun ed w'=> ∃K' r0 r1 r2,ed= .returned (tupV [r0,r1,r2])∧Ext NX w K w' K'∧Models w' K'∧Own q.kd e2 w' K' (out a).1.1 r0∧(∀g,ob r0=some g→w.heap.size≤g)∧Own q.kd e2 w' K' (out a).1.2.1 r1∧(∀g,ob r1=some g→w.heap.size≤g)∧t2.kd.V K' (out a).1.2.2.1 r2∧∀g,ob r0=some g→¬ob r1=some g) (hq:t2.flatB=true) (hf:q.flatB=true):
 Ctr.valid P f ⟨[.v t],[.rw e2 q,.rw e2 q,.v t2],pr,out⟩:=by
 intro a hp θ vs w K hM hA
 obtain ⟨v1,vs,rfl,hv1,hnil⟩:=hA.vals
 have hnil':vs=[]:=hnil
 subst hnil'
 refine (old a hp v1 w K hM (qd9 hv1)).mono ?_
 rintro ed w' ⟨K1,r0,r1,r2,rfl,hE1,hM1,hO0,hg0,hO1,hg1,hV,hap⟩
 obtain ⟨K2,hR0,hE2,hM2,hk2⟩:=hO0.unkE hE1 hM1 hM hg0
 have hO1':Own q.kd e2 w' K2 (out a).1.2.1 r1:=hO1.drop (Ty.flat_ok hf) fun g hg=>hk2 g fun h=>hap g h hg
 obtain ⟨K',hR1,hE,hM',hk'⟩:=hO1'.unkE hE2 hM2 hM hg1
 have hR0':Rw q.kd e2 w' K' (out a).1.1 r0:=hR0.drop (D:=fun b=>ob r1=some b) ⟨fun b hb=>hR1.1 b hb,fun b hb=>hk' b hb⟩ (Ty.flat_ok hf)
 have hV':t2.kd.V K' (out a).1.2.2.1 r2:=by
  obtain ⟨cs,h1,h2⟩:=hV
  exact ⟨cs,Ty.flat_ok hq _ _ _ _ h1,h2⟩
 have hends:Ctr.ends ⟨[.v t],[.rw e2 q,.rw e2 q,.v t2],pr,out⟩ a=[.rw e2 q (out a).1.1,.rw e2 q (out a).1.2.1]:=rfl
 have two: ∀r,r<2→r=0∨r=1:=fun r hr=>by omega
 have f0:((θ.set 0 r0 (fun g=>ob r0=some g) ([],[])).set 1 r1 (fun g=>ob r1=some g) ([],[])).fp 0=fun g=>ob r0=some g:=(Th.set_fp_ne (by decide)).trans Th.set_fp
 have f1:((θ.set 0 r0 (fun g=>ob r0=some g) ([],[])).set 1 r1 (fun g=>ob r1=some g) ([],[])).fp 1=fun g=>ob r1=some g:=Th.set_fp
 have k0:((θ.set 0 r0 (fun g=>ob r0=some g) ([],[])).set 1 r1 (fun g=>ob r1=some g) ([],[])).key 0=r0:=(Th.set_key_ne (by decide)).trans Th.set_key
 have k1:((θ.set 0 r0 (fun g=>ob r0=some g) ([],[])).set 1 r1 (fun g=>ob r1=some g) ([],[])).key 1=r1:=Th.set_key
 refine ⟨_,K',_,rfl,hE.weak fun g _ hg=>hg.elim,hM',(fun r hr=>absurd hr (Nat.not_lt_zero r)),⟨[r0,r1,r2],rfl,r0,[r1,r2],rfl,⟨by rw [hends];exact Nat.zero_lt_succ _,k0⟩,r1,[r2],rfl,⟨by rw [hends];exact Nat.lt_succ_self _,k1⟩,r2,[],rfl,SVal.of_rel hV',rfl⟩,fun r R hR=>?_,fun r hr g hg'=>absurd hr (Nat.not_lt_zero r),fun r h1 h2 g hg'=>?_,fun r r' h1 h2 h3 g hg1' hg2'=>?_⟩
 ·rw [hends] at hR
  match r,hR with
  | 0,hR=>
    cases hR
    refine (RwX.flat hb).2 ⟨?_,?_⟩
    ·rw [k0];exact hR0'
    ·rw [f0,k0];exact fun g=>Iff.rfl
  | 1,hR=>
    cases hR
    refine (RwX.flat hb).2 ⟨?_,?_⟩
    ·rw [k1];exact hR1
    ·rw [f1,k1];exact fun g=>Iff.rfl
  | r+2,hR=>simp at hR
 ·rw [hends] at h2
  rcases two r h2 with rfl | rfl
  ·rw [f0] at hg';exact hg0 g hg'
  ·rw [f1] at hg';exact hg1 g hg'
 ·rw [hends] at h1 h2
  rcases two r h1 with rfl | rfl<;>rcases two r' h2 with rfl | rfl
  ·exact h3 rfl
  ·rw [f0] at hg1';rw [f1] at hg2';exact hap g hg1' hg2'
  ·rw [f1] at hg1';rw [f0] at hg2';exact hap g hg2' hg1'
  ·exact h3 rfl
end
end Go.Inc

set_option linter.unusedVariables false
set_option maxRecDepth 100000
set_option maxHeartbeats 2000000
namespace Go.Proofs.Ytmjjkpiglbpkhaa
open Go Go.RowKit Go.Inc
noncomputable def qjK:Ctr:=⟨[.v (.sl (.ptr (.pr (.pr (.sl (.pr (.arr 32 .byte) (.sl .byte))) .anm) (.int .i64))))],[.rw 5 .byte,.rw 5 .byte,.v .bool],some (fun a=>(fun (a0_l:List (Option (((List ((List UInt8)×(List UInt8)))×Unit)×Int)))=>(qcF a0_l:Prop)) a.1),fun a=>(fun (a0_l:List (Option (((List ((List UInt8)×(List UInt8)))×Unit)×Int)))=>(((qaK a0_l).1,(qaK a0_l).2.1,(qaK a0_l).2.2,()),(()))) a.1⟩
theorem qom:qjK.valid Try.prog 36:=qoZ rfl (fun a hp v1 w K hM h1=>by
 refine (qlE hM h1 hp).mono ?_
 rintro ed w' ⟨K',r0,r1,r2,rfl,hE,hM',hr0,hg0,hr1,hg1,hr2,hap⟩
 exact ⟨K',r0,r1,r2,rfl,hE,hM',hr0,hg0,hr1,hg1,hr2,hap⟩) rfl rfl
end Go.Proofs.Ytmjjkpiglbpkhaa

set_option linter.unusedVariables false
set_option maxRecDepth 100000
set_option maxHeartbeats 20000000
namespace Go.Proofs.Ytmjjkpiglbpkhaa
open Go Go.RowKit Go.Inc
noncomputable def qeA:Ctr:=⟨[.v (.sl (.pr (.int .i64) (.pr (.int .i64) (.pr (.sl (.sl .byte)) (.pr (.arr 32 .byte) (.sl .byte))))))],[.v .bool],none,fun a=>(fun (a0_l:List (Int×Int×(List (List UInt8))×(List UInt8)×List UInt8))=>((decide (¬light a0_l),()),(()))) a.1⟩
noncomputable def qnj:Fx:=⟨seat,some bkT,fns,[],[],[],[]⟩
def qhv (a0_l:List (Int×Int×(List (List UInt8))×(List UInt8)×List UInt8)) (Q:Bool→Prop):Prop:=
 ((200:Int)<(a0_l.length:Int)→Q true)∧(¬(200:Int)<(a0_l.length:Int)→∃(x0:Bool→Int→Int→Prop),∃(x1:Bool→Int→Int→Nat),x0 false (60000:Int) (0:Int)∧∀(x2:Bool) (x3 x4:Int),x0 x2 x3 x4→(Kd.int IntKind.i64).wf x3→(Kd.int IntKind.i64).wf x4→(x4<(a0_l.length:Int)→((0:Int)≤x4∧x4<(a0_l.length:Int))∧((500:Int)<((ix a0_l x4).snd.snd.fst.length:Int)→Q true)∧(¬(500:Int)<((ix a0_l x4).snd.snd.fst.length:Int)→((0:Int)≤x4∧x4<(a0_l.length:Int))∧∃(x10:Int→Int→Prop),∃(x11:Int→Int→Nat),x10 (IntKind.i64.wrap (x3 - ((ix a0_l x4).snd.snd.snd.snd.length:Int))) (0:Int)∧∀(x12 x13:Int),x10 x12 x13→(Kd.int IntKind.i64).wf x12→(Kd.int IntKind.i64).wf x13→((0:Int)≤x4∧x4<(a0_l.length:Int))∧(x13<((ix a0_l x4).snd.snd.fst.length:Int)→((0:Int)≤x12→((0:Int)≤x4∧x4<(a0_l.length:Int))∧((0:Int)≤x13∧x13<((ix a0_l x4).snd.snd.fst.length:Int))∧x13<(9223372036854775807:Int)∧x10 (IntKind.i64.wrap (x12 - ((ix (ix a0_l x4).snd.snd.fst x13).length:Int))) (x13+(1:Int))∧x11 (IntKind.i64.wrap (x12 - ((ix (ix a0_l x4).snd.snd.fst x13).length:Int))) (x13+(1:Int))<x11 x12 x13)∧(¬(0:Int)≤x12→(x12<(0:Int)→Q true)∧(¬x12<(0:Int)→x4<(9223372036854775807:Int)∧x0 x2 x12 (x4+(1:Int))∧x1 x2 x12 (x4+(1:Int))<x1 x2 x3 x4)))∧(¬x13<((ix a0_l x4).snd.snd.fst.length:Int)→(x12<(0:Int)→Q true)∧(¬x12<(0:Int)→x4<(9223372036854775807:Int)∧x0 x2 x12 (x4+(1:Int))∧x1 x2 x12 (x4+(1:Int))<x1 x2 x3 x4))))∧(¬x4<(a0_l.length:Int)→Q false))
theorem qpk {a0_l:List (Int×Int×(List (List UInt8))×(List UInt8)×List UInt8)} (w_0:(Ty.kd (.sl (.pr (.int .i64) (.pr (.int .i64) (.pr (.sl (.sl .byte)) (.pr (.arr 32 .byte) (.sl .byte))))))).wf a0_l):qhv a0_l (fun o0=>o0=decide (¬light a0_l)):=by
 unfold qhv
 refine ⟨fun h=>by rw [decide_eq_true];exact fun hl=>by have:=hl.1;omega,fun h200=>?_⟩
 refine ⟨fun _ left i=> ∃j:Nat,i=(j:Int)∧j≤a0_l.length∧0≤left∧left=60000 - (qbH (a0_l.take j):Int)∧∀a∈a0_l.take j,a.2.2.1.length≤500,fun _ _ i=>a0_l.length - i.toNat,⟨0,rfl,by omega,by omega,by simp [qbH],by simp⟩,?_⟩
 rintro _ left i ⟨j,rfl,hj,hl0,hl,hp⟩ _ _
 refine ⟨fun hlt=>⟨⟨by omega,hlt⟩,fun h500=>?_,fun h500=>⟨⟨by omega,hlt⟩,?_⟩⟩,fun hge=>?_⟩
 ·rw [decide_eq_true]
  intro hq
  have:=hq.2.1 _ (qce (l:=a0_l) (by omega) hlt)
  omega
 ·have hm:=qce (l:=a0_l) (i:=(j:Int)) (by omega) hlt
  have hwf:=w_0.2 _ hm
  have hst:=qhX hlt
  have htk:=qhY a0_l (j+1)
  generalize hx:ix a0_l (j:Int)=x at hm hwf hst h500⊢
  have hb:x.2.2.2.2.length≤LM:=hwf.2.2.2.2.1
  have hpl: ∀y∈x.2.2.1,y.length≤LM:=fun y hy=>(hwf.2.2.1.2 y hy).1
  unfold LM at hb hpl
  have e0:IntKind.i64.wrap (left - (x.2.2.2.2.length:Int))=left - (x.2.2.2.2.length:Int):=qaw (wf64 (by omega) (by omega))
  rw [e0]
  refine ⟨fun lf k=> ∃m:Nat,k=(m:Int)∧m≤x.2.2.1.length∧ -281474976710656≤lf∧lf=left - (x.2.2.2.2.length:Int) - (qbl (x.2.2.1.take m):Int),fun _ k=>x.2.2.1.length - k.toNat,⟨0,rfl,by omega,by omega,by simp [qbl]⟩,?_⟩
  rintro lf k ⟨m,rfl,hm2,hlo,hlf⟩ _ _
  have hptk:=qhD x.2.2.1 m
  have neg:lf<0→true=decide (¬light a0_l):=fun hneg=>by
   rw [decide_eq_true]
   intro hq
   have:=hq.2.2
   omega
  refine ⟨⟨by omega,hlt⟩,fun hc=>⟨fun h0=>⟨⟨by omega,hlt⟩,⟨by omega,hc⟩,by omega,?_,?_⟩,fun h0=>⟨neg,fun hnn=>absurd (by omega:(0:Int)≤lf) h0⟩⟩,fun hc=>⟨neg,fun hnn=>?_⟩⟩
  ·have h1:=hpl _ (qce (l:=x.2.2.1) (i:=(m:Int)) (by omega) hc)
   have h2:=qhC hc
   rw [qaw (wf64 (by omega) (by omega))]
   exact ⟨m+1,rfl,by omega,by omega,by omega⟩
  ·show x.2.2.1.length - ((m:Int)+1).toNat<x.2.2.1.length - (m:Int).toNat
   omega
  ·have hme:m=x.2.2.1.length:=by omega
   subst hme
   rw [List.take_length] at hlf
   refine ⟨by omega,⟨j+1,rfl,by omega,by omega,by omega,?_⟩,?_⟩
   ·intro a ha
    rw [qbh hlt] at ha
    rcases List.mem_append.1 ha with ha | ha
    ·exact hp a ha
    ·rw [List.mem_singleton,hx] at ha
     subst ha
     omega
   ·show a0_l.length - ((j:Int)+1).toNat<a0_l.length - (j:Int).toNat
    omega
 ·have:j=a0_l.length:=by omega
  subst this
  rw [List.take_length] at hl hp
  show false=decide (¬light a0_l)
  rw [eq_comm,decide_eq_false_iff_not,Decidable.not_not]
  exact ⟨by omega,hp,by omega⟩
theorem qpj:(∀a,qeA.pre a→PM.wfP qeA.pm a (fvc qnj 200 49 qeA a (eqO qeA a)))=(∀a:(List (Int×Int×(List (List UInt8))×(List UInt8)×List UInt8))×Unit,True→(Ty.kd (.sl (.pr (.int .i64) (.pr (.int .i64) (.pr (.sl (.sl .byte)) (.pr (.arr 32 .byte) (.sl .byte))))))).wf a.1→qhv a.1 (fun o0=>o0=decide (¬light (a.1)))):=by kernel_rfl
theorem qrs:qeA.valid Try.prog 49:=qaB (X:=qnj) (qaY qas (fun b hb=>by cases hb;exact qaA) qaC trivial) 200 (qpj.mpr fun a hp w_0=> @qpk a.1 w_0)
def qkE:List UInt8:=[98]
def qfg:List UInt8:=[97]
def qgK:List UInt8:=[2,0,1,2,97,98]
noncomputable def qdj:Ctr:=⟨[],[.v .bool],none,fun _=>((true,()),(()))⟩
noncomputable def qj6:Fx:=⟨seat,some bkT,fns,[(67,Of_C),(56,qiP),(52,qlN),(36,qlD),(98,qbF),(99,qgR),(100,qpV)],[],[],[]⟩
def qfA (Q:Bool→Prop):Prop:=
 toB (97:Int)::([]:List UInt8)≠([]:List UInt8)∧((1:Nat)+qah ((toB (97:Int)::([]:List UInt8))::([]:List (List UInt8)))≤(140737488355328:Nat)∧qaZ (some (([]:List Nt),(0:Int))))∧((Ty.arr (32:Nat) Ty.byte).kd.wf (qaj (1:Int) ((toB (97:Int)::([]:List UInt8))::([]:List (List UInt8))))→toB (97:Int)::([]:List UInt8)≠([]:List UInt8)∧((1:Nat)+qah ((toB (97:Int)::([]:List UInt8))::([]:List (List UInt8)))≤(140737488355328:Nat)∧qaZ (qaH (some (([]:List Nt),(0:Int))) (1:Int) ((toB (97:Int)::([]:List UInt8))::([]:List (List UInt8)))))∧((Ty.arr (32:Nat) Ty.byte).kd.wf (qaj (1:Int) ((toB (97:Int)::([]:List UInt8))::([]:List (List UInt8))))→toB (97:Int)::([]:List UInt8)≠([]:List UInt8)∧((toB (97:Int)::([]:List UInt8)).length≤(140737488355328:Nat)∧qaZ (some (([]:List Nt),(0:Int))))∧toB (98:Int)::([]:List UInt8)≠([]:List UInt8)∧((toB (98:Int)::([]:List UInt8)).length≤(140737488355328:Nat)∧qaZ (qam (some (([]:List Nt),(0:Int))) (qaj (1:Int) ((toB (97:Int)::([]:List UInt8))::([]:List (List UInt8)))) (toB (97:Int)::([]:List UInt8))))∧toB (97:Int)::([]:List UInt8)≠([]:List UInt8)∧((toB (97:Int)::([]:List UInt8)).length≤(140737488355328:Nat)∧qaZ (qam (qam (some (([]:List Nt),(0:Int))) (qaj (1:Int) ((toB (97:Int)::([]:List UInt8))::([]:List (List UInt8)))) (toB (97:Int)::([]:List UInt8))) (qaj (1:Int) ((toB (97:Int)::([]:List UInt8))::([]:List (List UInt8)))) (toB (98:Int)::([]:List UInt8))))∧qaU (qam (qam (qam (some (([]:List Nt),(0:Int))) (qaj (1:Int) ((toB (97:Int)::([]:List UInt8))::([]:List (List UInt8)))) (toB (97:Int)::([]:List UInt8))) (qaj (1:Int) ((toB (97:Int)::([]:List UInt8))::([]:List (List UInt8)))) (toB (98:Int)::([]:List UInt8))) (qaj (1:Int) ((toB (97:Int)::([]:List UInt8))::([]:List (List UInt8)))) (toB (97:Int)::([]:List UInt8)))∧(Ty.byte.sl.kd.wf (qby (qam (qam (qam (some (([]:List Nt),(0:Int))) (qaj (1:Int) ((toB (97:Int)::([]:List UInt8))::([]:List (List UInt8)))) (toB (97:Int)::([]:List UInt8))) (qaj (1:Int) ((toB (97:Int)::([]:List UInt8))::([]:List (List UInt8)))) (toB (98:Int)::([]:List UInt8))) (qaj (1:Int) ((toB (97:Int)::([]:List UInt8))::([]:List (List UInt8)))) (toB (97:Int)::([]:List UInt8))) (qaj (1:Int) ((toB (97:Int)::([]:List UInt8))::([]:List (List UInt8)))))→qcF (Option.map (fun (x0:List Nt×Int)=>((x0.fst,()),x0.snd)) (qam (qam (qam (some (([]:List Nt),(0:Int))) (qaj (1:Int) ((toB (97:Int)::([]:List UInt8))::([]:List (List UInt8)))) (toB (97:Int)::([]:List UInt8))) (qaj (1:Int) ((toB (97:Int)::([]:List UInt8))::([]:List (List UInt8)))) (toB (98:Int)::([]:List UInt8))) (qaj (1:Int) ((toB (97:Int)::([]:List UInt8))::([]:List (List UInt8)))) (toB (97:Int)::([]:List UInt8)))::([]:List (Option ((List (List UInt8×List UInt8)×Unit)×Int))))∧(Ty.byte.sl.kd.wf (qaK (Option.map (fun (x0:List Nt×Int)=>((x0.fst,()),x0.snd)) (qam (qam (qam (some (([]:List Nt),(0:Int))) (qaj (1:Int) ((toB (97:Int)::([]:List UInt8))::([]:List (List UInt8)))) (toB (97:Int)::([]:List UInt8))) (qaj (1:Int) ((toB (97:Int)::([]:List UInt8))::([]:List (List UInt8)))) (toB (98:Int)::([]:List UInt8))) (qaj (1:Int) ((toB (97:Int)::([]:List UInt8))::([]:List (List UInt8)))) (toB (97:Int)::([]:List UInt8)))::([]:List (Option ((List (List UInt8×List UInt8)×Unit)×Int))))).fst→Ty.byte.sl.kd.wf (qaK (Option.map (fun (x0:List Nt×Int)=>((x0.fst,()),x0.snd)) (qam (qam (qam (some (([]:List Nt),(0:Int))) (qaj (1:Int) ((toB (97:Int)::([]:List UInt8))::([]:List (List UInt8)))) (toB (97:Int)::([]:List UInt8))) (qaj (1:Int) ((toB (97:Int)::([]:List UInt8))::([]:List (List UInt8)))) (toB (98:Int)::([]:List UInt8))) (qaj (1:Int) ((toB (97:Int)::([]:List UInt8))::([]:List (List UInt8)))) (toB (97:Int)::([]:List UInt8)))::([]:List (Option ((List (List UInt8×List UInt8)×Unit)×Int))))).snd.fst→toB (97:Int)::toB (98:Int)::([]:List UInt8)≠([]:List UInt8)∧(1:Nat)+qah (([]:List UInt8)::(toB (97:Int)::toB (98:Int)::([]:List UInt8))::([]:List (List UInt8)))≤(140737488355328:Nat)∧(Ty.byte.kd.sl.wf (preimage (2:Int) (([]:List UInt8)::(toB (97:Int)::toB (98:Int)::([]:List UInt8))::([]:List (List UInt8))))→(preimage (2:Int) (([]:List UInt8)::(toB (97:Int)::toB (98:Int)::([]:List UInt8))::([]:List (List UInt8)))=qgK→(qaj (1:Int) ((toB (97:Int)::([]:List UInt8))::([]:List (List UInt8)))=qaj (1:Int) ((toB (97:Int)::([]:List UInt8))::([]:List (List UInt8)))→(Ty.int IntKind.i64).kd.wf (qbr (qaH (qaH (some (([]:List Nt),(0:Int))) (1:Int) ((toB (97:Int)::([]:List UInt8))::([]:List (List UInt8)))) (1:Int) ((toB (97:Int)::([]:List UInt8))::([]:List (List UInt8)))))→(qbr (qaH (qaH (some (([]:List Nt),(0:Int))) (1:Int) ((toB (97:Int)::([]:List UInt8))::([]:List (List UInt8)))) (1:Int) ((toB (97:Int)::([]:List UInt8))::([]:List (List UInt8))))=(2:Int)→qaU (qaH (qaH (some (([]:List Nt),(0:Int))) (1:Int) ((toB (97:Int)::([]:List UInt8))::([]:List (List UInt8)))) (1:Int) ((toB (97:Int)::([]:List UInt8))::([]:List (List UInt8))))∧(Ty.byte.sl.sl.kd.wf (qeq (qaH (qaH (some (([]:List Nt),(0:Int))) (1:Int) ((toB (97:Int)::([]:List UInt8))::([]:List (List UInt8)))) (1:Int) ((toB (97:Int)::([]:List UInt8))::([]:List (List UInt8)))))→(((qeq (qaH (qaH (some (([]:List Nt),(0:Int))) (1:Int) ((toB (97:Int)::([]:List UInt8))::([]:List (List UInt8)))) (1:Int) ((toB (97:Int)::([]:List UInt8))::([]:List (List UInt8))))).length:Int)=(1:Int)→(qby (qam (qam (qam (some (([]:List Nt),(0:Int))) (qaj (1:Int) ((toB (97:Int)::([]:List UInt8))::([]:List (List UInt8)))) (toB (97:Int)::([]:List UInt8))) (qaj (1:Int) ((toB (97:Int)::([]:List UInt8))::([]:List (List UInt8)))) (toB (98:Int)::([]:List UInt8))) (qaj (1:Int) ((toB (97:Int)::([]:List UInt8))::([]:List (List UInt8)))) (toB (97:Int)::([]:List UInt8))) (qaj (1:Int) ((toB (97:Int)::([]:List UInt8))::([]:List (List UInt8))))=qfg→(qcE (qam (qam (qam (some (([]:List Nt),(0:Int))) (qaj (1:Int) ((toB (97:Int)::([]:List UInt8))::([]:List (List UInt8)))) (toB (97:Int)::([]:List UInt8))) (qaj (1:Int) ((toB (97:Int)::([]:List UInt8))::([]:List (List UInt8)))) (toB (98:Int)::([]:List UInt8))) (qaj (1:Int) ((toB (97:Int)::([]:List UInt8))::([]:List (List UInt8)))) (toB (97:Int)::([]:List UInt8))) (qaj (1:Int) ((toB (97:Int)::([]:List UInt8))::([]:List (List UInt8))))=true→((qaK (Option.map (fun (x0:List Nt×Int)=>((x0.fst,()),x0.snd)) (qam (qam (qam (some (([]:List Nt),(0:Int))) (qaj (1:Int) ((toB (97:Int)::([]:List UInt8))::([]:List (List UInt8)))) (toB (97:Int)::([]:List UInt8))) (qaj (1:Int) ((toB (97:Int)::([]:List UInt8))::([]:List (List UInt8)))) (toB (98:Int)::([]:List UInt8))) (qaj (1:Int) ((toB (97:Int)::([]:List UInt8))::([]:List (List UInt8)))) (toB (97:Int)::([]:List UInt8)))::([]:List (Option ((List (List UInt8×List UInt8)×Unit)×Int))))).fst=qfg→((qaK (Option.map (fun (x0:List Nt×Int)=>((x0.fst,()),x0.snd)) (qam (qam (qam (some (([]:List Nt),(0:Int))) (qaj (1:Int) ((toB (97:Int)::([]:List UInt8))::([]:List (List UInt8)))) (toB (97:Int)::([]:List UInt8))) (qaj (1:Int) ((toB (97:Int)::([]:List UInt8))::([]:List (List UInt8)))) (toB (98:Int)::([]:List UInt8))) (qaj (1:Int) ((toB (97:Int)::([]:List UInt8))::([]:List (List UInt8)))) (toB (97:Int)::([]:List UInt8)))::([]:List (Option ((List (List UInt8×List UInt8)×Unit)×Int))))).snd.fst=qkE→Q (qaK (Option.map (fun (x0:List Nt×Int)=>((x0.fst,()),x0.snd)) (qam (qam (qam (some (([]:List Nt),(0:Int))) (qaj (1:Int) ((toB (97:Int)::([]:List UInt8))::([]:List (List UInt8)))) (toB (97:Int)::([]:List UInt8))) (qaj (1:Int) ((toB (97:Int)::([]:List UInt8))::([]:List (List UInt8)))) (toB (98:Int)::([]:List UInt8))) (qaj (1:Int) ((toB (97:Int)::([]:List UInt8))::([]:List (List UInt8)))) (toB (97:Int)::([]:List UInt8)))::([]:List (Option ((List (List UInt8×List UInt8)×Unit)×Int))))).snd.snd)∧(¬(qaK (Option.map (fun (x0:List Nt×Int)=>((x0.fst,()),x0.snd)) (qam (qam (qam (some (([]:List Nt),(0:Int))) (qaj (1:Int) ((toB (97:Int)::([]:List UInt8))::([]:List (List UInt8)))) (toB (97:Int)::([]:List UInt8))) (qaj (1:Int) ((toB (97:Int)::([]:List UInt8))::([]:List (List UInt8)))) (toB (98:Int)::([]:List UInt8))) (qaj (1:Int) ((toB (97:Int)::([]:List UInt8))::([]:List (List UInt8)))) (toB (97:Int)::([]:List UInt8)))::([]:List (Option ((List (List UInt8×List UInt8)×Unit)×Int))))).snd.fst=qkE→Q false))∧(¬(qaK (Option.map (fun (x0:List Nt×Int)=>((x0.fst,()),x0.snd)) (qam (qam (qam (some (([]:List Nt),(0:Int))) (qaj (1:Int) ((toB (97:Int)::([]:List UInt8))::([]:List (List UInt8)))) (toB (97:Int)::([]:List UInt8))) (qaj (1:Int) ((toB (97:Int)::([]:List UInt8))::([]:List (List UInt8)))) (toB (98:Int)::([]:List UInt8))) (qaj (1:Int) ((toB (97:Int)::([]:List UInt8))::([]:List (List UInt8)))) (toB (97:Int)::([]:List UInt8)))::([]:List (Option ((List (List UInt8×List UInt8)×Unit)×Int))))).fst=qfg→Q false))∧(qcE (qam (qam (qam (some (([]:List Nt),(0:Int))) (qaj (1:Int) ((toB (97:Int)::([]:List UInt8))::([]:List (List UInt8)))) (toB (97:Int)::([]:List UInt8))) (qaj (1:Int) ((toB (97:Int)::([]:List UInt8))::([]:List (List UInt8)))) (toB (98:Int)::([]:List UInt8))) (qaj (1:Int) ((toB (97:Int)::([]:List UInt8))::([]:List (List UInt8)))) (toB (97:Int)::([]:List UInt8))) (qaj (1:Int) ((toB (97:Int)::([]:List UInt8))::([]:List (List UInt8))))=false→Q false))∧(¬qby (qam (qam (qam (some (([]:List Nt),(0:Int))) (qaj (1:Int) ((toB (97:Int)::([]:List UInt8))::([]:List (List UInt8)))) (toB (97:Int)::([]:List UInt8))) (qaj (1:Int) ((toB (97:Int)::([]:List UInt8))::([]:List (List UInt8)))) (toB (98:Int)::([]:List UInt8))) (qaj (1:Int) ((toB (97:Int)::([]:List UInt8))::([]:List (List UInt8)))) (toB (97:Int)::([]:List UInt8))) (qaj (1:Int) ((toB (97:Int)::([]:List UInt8))::([]:List (List UInt8))))=qfg→Q false))∧(¬((qeq (qaH (qaH (some (([]:List Nt),(0:Int))) (1:Int) ((toB (97:Int)::([]:List UInt8))::([]:List (List UInt8)))) (1:Int) ((toB (97:Int)::([]:List UInt8))::([]:List (List UInt8))))).length:Int)=(1:Int)→Q false)))∧(¬qbr (qaH (qaH (some (([]:List Nt),(0:Int))) (1:Int) ((toB (97:Int)::([]:List UInt8))::([]:List (List UInt8)))) (1:Int) ((toB (97:Int)::([]:List UInt8))::([]:List (List UInt8))))=(2:Int)→Q false))∧(¬qaj (1:Int) ((toB (97:Int)::([]:List UInt8))::([]:List (List UInt8)))=qaj (1:Int) ((toB (97:Int)::([]:List UInt8))::([]:List (List UInt8)))→Q false))∧(¬preimage (2:Int) (([]:List UInt8)::(toB (97:Int)::toB (98:Int)::([]:List UInt8))::([]:List (List UInt8)))=qgK→Q false))))))
theorem qmz  :qfA  (fun o0=>o0=true):=by
 have e1:preimage 2 [([]:List UInt8),[toB 97,toB 98]]=[2,0,1,2,97,98]:=by rw [qeR _ (by decide)];decide
 have e2:(preimage 1 [[toB 97]]).length≤10:=by rw [qeR _ (by decide)];decide
 have t97:toB 97=97:=by decide
 have t98:toB 98=98:=by decide
 unfold qfA
 rw [e1]
 simp only [t97,t98] at e2⊢
 generalize hS:qaj 1 [[97]]=S
 generalize hP:preimage 1 [[97]]=P at e2
 have b1:qam (some ([],0)) S [97]=some ([(S,[97])],0):=rfl
 have b2:qam (some ([(S,[97])],0)) S [98]=some ([(S,[97]),(S,[98])],0):=by simp [qam,addL]
 have b3:qam (some ([(S,[97]),(S,[98])],0)) S [97]=some ([(S,[97]),(S,[98])],0):=by simp [qam,addL]
 have b4:qaH (some ([],0)) 1 [[97]]=some ([(S,P)],1):=by simp only [qaH,hS,hP];rfl
 have b5:qaH (some ([(S,P)],1)) 1 [[97]]=some ([(S,P)],2):=by simp only [qaH,hS,hP];simp [addL];decide
 simp only [b1,b2,b3,b4,b5]
 have r1: ∀l:List Nt,∀c:Int,l.length≤5→qaZ (some (l,c)):=fun l c hl y h=>by cases h;simp;omega
 have cl:qaK [Option.map (fun x0=>((x0.1,()),x0.2)) (some ([(S,[97]),(S,[98])],(0:Int)))]=([97],[98],true):=by simp [qaK,qaX,qaM,addL,qan,ix]
 have cp:qcF [Option.map (fun x0=>((x0.1,()),x0.2)) (some ([(S,[97]),(S,[98])],(0:Int)))]:=⟨by simp [qaX],by simp [qaX]⟩
 have f1:qaU (some ([(S,[97]),(S,[98])],(0:Int))):=by rintro y h;cases h;exact ⟨by simp,by simp⟩
 have f2:qaU (some ([(S,P)],(2:Int))):=by rintro y h;cases h;exact ⟨by simp,by simp;omega⟩
 have c2:qbr (some ([(S,P)],(2:Int)))=2:=rfl
 have a2:(qeq (some ([(S,P)],(2:Int)))).length=1:=rfl
 have d1:qby (some ([(S,[97]),(S,[98])],(0:Int))) S=[97]:=by simp [qby,qa3,qan,ix]
 have d2:qcE (some ([(S,[97]),(S,[98])],(0:Int))) S=true:=by simp [qcE,qan]
 simp only [cl,c2,a2,d1,d2]
 repeat' (first | (with_reducible exact cp) | (with_reducible exact f1) | (with_reducible exact f2) | (with_reducible apply r1) | (with_reducible apply And.intro) | (intro _))
 all_goals first
  | decide
  | (rename_i h;cases h;done)
  | (rename_i h;exact absurd rfl h)
  | (rename_i h;exact absurd (by decide) h)
  | (simp;done)
theorem qmy:(∀a,qdj.pre a→PM.wfP qdj.pm a (fvc qj6 200 50 qdj a (eqO qdj a)))=(∀a:Unit,True→qfA  (fun o0=>o0=true)):=by kernel_rfl
theorem qoR:qdj.valid Try.prog 50:=qaB (X:=qj6) (qaY qas (fun b hb=>by cases hb;exact qaA) qaC ⟨Of_k,ql0,qqH,qqE,qem,qjJ,qr9,trivial⟩) 200 (qmy.mpr fun a hp  => @qmz )
end Go.Proofs.Ytmjjkpiglbpkhaa

set_option linter.unusedVariables false
namespace Go.Inc
open Go
def nb (l:List Act) (r:Nat):Nat→List Nt
 | 0=> []
 | j+1=>if j%3=r then addL (nb l r j) (ix l (j:Int)).2.2.2.1 (ix l (j:Int)).2.2.2.2 else nb l r j
end Go.Inc

set_option linter.unusedVariables false
namespace Go.Inc
open Go
def allF (x:Option ((List Nt×Unit)×Int)):List (List UInt8):=match x with | some y=>y.1.1.map Prod.snd | none=> []
def qnc (x:Option ((List Nt×Unit)×Int)):Prop:=∀y,x=some y→y.1.1.length *24≤140737488355328∧∀z∈y.1.1,z.2.length≤140737488355328
theorem qnd {x:qav} (h:qaU x):qnc (x.map fun y=>((y.1,()),y.2)):=by
 cases x with
 | none=>intro y hy;cases hy
 | some x=>intro y hy;cases hy;exact h x rfl
def actB (x:Act) (y:List Nt×Int):List Nt×Int:=if band .i64 x.1 1=1 then (addL y.1 x.2.2.2.1 x.2.2.2.2,y.2) else (addL y.1 (qaj x.2.1 x.2.2.1) (preimage x.2.1 x.2.2.1),IntKind.i64.wrap (y.2+1))
end Go.Inc

set_option linter.unusedVariables false
namespace Go.Inc
open Go
def qeN:List Nt→List Nt→List UInt8×List UInt8×Bool
 | _,[]=>([],[],false)
 | p,x::l=>if (qan x.1 p 0).isSome=true∧¬qa3 p x.1=x.2 then (qa3 p x.1,x.2,true) else qeN (p++ [x]) l
theorem qcK (l l':List Nt) (s:List UInt8):qa3 (l++l') s=if (qan s l 0).isSome=true then qa3 l s else (match qan s l' (l.length:Int) with | some a=>(ix (l++l') a).2 | none=> []):=by
 unfold qa3
 rw [qa7]
 cases h:qan s l 0 with
 | none=>
   simp
   cases qan s l' (l.length:Int)<;>rfl
 | some a=>
   have hb:=qex h
   obtain ⟨n,rfl⟩:=Int.eq_ofNat_of_zero_le hb.1
   have hn:n<l.length:=by omega
   simp only [Option.some_or,Option.isSome_some,if_pos]
   rw [ixN hn,ixN (by rw [List.length_append];omega),List.getElem_append_left hn]
theorem qbK (s:List UInt8) (x:Nt) (i:Int):qan s [x] i=if s=x.1 then some i else none:=rfl
def Alike (a p:List Nt):Prop:=∀s,(qan s a 0).isSome=(qan s p 0).isSome∧qa3 a s=qa3 p s
theorem Alike.snoc {a p:List Nt} (h:Alike a p) (x:Nt):Alike (a++ [x]) (p++ [x]):=fun s=>by
 obtain ⟨h1,h2⟩:=h s
 rw [qcK,qcK,qa7,qa7,qbK,qbK,qbK,qbK,h2,Option.isSome_or,Option.isSome_or,h1]
 by_cases hs:s=x.1
 ·simp only [if_pos hs,Option.isSome_some,Bool.or_true,true_and]
  split
  ·rfl
  ·rw [ixN (by simp),ixN (by simp)]
   simp
 ·simp [if_neg hs]
theorem Alike.old {a p:List Nt} (h:Alike a p) (x:Nt) (hx:(qan x.1 p 0).isSome=true):Alike a (p++ [x]):=fun s=>by
 obtain ⟨h1,h2⟩:=h s
 rw [qcK,qa7,qbK,qbK,h2,Option.isSome_or,h1]
 by_cases hs:s=x.1
 ·subst hs
  rw [hx]
  simp
 ·simp only [if_neg hs,Option.isSome_none,Bool.or_false,true_and]
  cases hf:qan s p 0 with
  | none=>simp [qa3,hf]
  | some a=>simp
theorem qfE: ∀ {l a p:List Nt},Alike a p→qeN p l=qaM a l
 | [],a,p,h=>rfl
 | x::l,a,p,h=>by
   obtain ⟨h1,h2⟩:=h x.1
   rw [qdJ,qeN,←h1]
   have e: ∀hs:(qan x.1 a 0).isSome=true,(ix a ((qan x.1 a 0).getD 0)).2=qa3 p x.1:=fun hs=>by
    rw [←h2,qa3]
    obtain ⟨b,hb⟩:=Option.isSome_iff_exists.1 hs
    rw [hb]
    rfl
   by_cases hs:(qan x.1 a 0).isSome=true
   ·rw [e hs]
    by_cases hne:qa3 p x.1=x.2
    ·rw [if_neg (fun h=>h.2 hne),if_neg (fun h=>h.2 hne)]
     refine qfE ?_
     unfold addL
     split
     ·exact h.old x (by rw [←h1];exact hs)
     ·exact h.snoc x
    ·rw [if_pos ⟨hs,hne⟩,if_pos ⟨hs,hne⟩]
   ·rw [if_neg (fun h=>hs h.1),if_neg (fun h=>hs h.1)]
    refine qfE ?_
    unfold addL
    split
    ·rename_i hm
     exfalso
     cases hf:qan x.1 a 0 with
     | none=>exact qc1 hf _ hm
     | some b=>rw [hf] at hs;exact hs rfl
    ·exact h.snoc x
theorem qk6 (l:List Nt):qeN [] l=qaM [] l:=qfE fun _=>⟨rfl,rfl⟩
theorem qoN (x:Act) (y:List Nt×Int):(actB x y).1.length≤y.1.length+1:=by
 rw [actB]
 split<;>exact qg9 _ _ _
end Go.Inc
