/- E21, S6, P7. -/
import Derived.Test.YtfbhiilolpamaaaM3
import Derived.Test.YtfbhiilolpamaaaM5
import Derived.Test.YtfbhiilolpamaaaChecked
import Derived.Test.YtfbhiilolpamaaaRows
import Derived.WalkKit
import Derived.ProofKit
import Derived.OpenShut
import Derived.JoinedCond
import Derived.Carry
/-
  ENGINE 21: a call with a nil book, out of the call with any.
-/
set_option linter.unusedVariables false
namespace Go.Inc
open Go Go.RowKit

section
variable {P : Program} {f : FuncId} {pm : List PM} {e : Nat}
theorem nil_v {u : Bool} {t : Ty} {pr : Option (PM.denL (.bk e u :: pm) → Prop)} {out : PM.denL (.bk e u :: pm) → RM.denL [.v t] × PM.MD (.bk e u :: pm)} {pr' : Option (PM.denL (.nil :: pm) → Prop)} {out' : PM.denL (.nil :: pm) → RM.denL [.v t] × PM.MD (.nil :: pm)}
    (h : Ctr.valid P f ⟨.bk e u :: pm, [.v t], pr, out⟩) (h0 : ∀ a, PM.resL pm a = []) (hs : ∀ (a : PM.denL pm) (θ θ' : Th) (n n' : Nat) (K : Ghost) (vs : List Value), SVal.relL θ n K (PM.svL pm a n) vs → SVal.relL θ' n' K (PM.svL pm a n') vs) (ho : ∀ x : t.den, (SVal.of t x).to t = some x)
    (hp : ∀ a, Ctr.pre ⟨.nil :: pm, [.v t], pr', out'⟩ a → Ctr.pre ⟨.bk e u :: pm, [.v t], pr, out⟩ (none, a.2)) (hout : ∀ a, Ctr.pre ⟨.nil :: pm, [.v t], pr', out'⟩ a → (out' a).1.1 = (out (none, a.2)).1.1) : Ctr.valid P f ⟨.nil :: pm, [.v t], pr', out'⟩ := by
  refine br_v (C := ⟨.nil :: pm, [.v t], pr', out'⟩) (fun a => ?_) (fun _ => rfl) fun a hpre θ vs w K hM hv => ?_
  · show PM.res .nil a.1 ++ PM.resL pm a.2 = []
    rw [h0]
    rfl
  obtain ⟨v, vs, rfl, h1, h2⟩ := hv
  have h1' : v = .pointer none := h1
  subst h1'
  have hres : PM.resL (.bk e u :: pm) (none, a.2) = [(.bk e none, u)] := by
    show PM.res (.bk e u) none ++ PM.resL pm a.2 = _
    rw [h0]
    rfl
  have h3 := h (none, a.2) (hp a hpre) ⟨fun _ => .pointer none, fun _ => NX, fun _ => ([], [])⟩ (.pointer none :: vs) w K hM ⟨by
      rw [hres]
      exact ⟨_, vs, rfl, ⟨Nat.zero_lt_one, rfl⟩, hs _ _ _ _ _ _ _ h2⟩, fun r R m hr => by
      rw [hres] at hr
      cases r with
      | succ r => simp at hr
      | zero =>
        simp at hr
        obtain ⟨rfl, rfl⟩ := hr
        exact (BookE.nil : BookE e w K (.pointer none) NX none), fun r r' h1 h2 hne => by
      rw [hres] at h1 h2
      simp at h1 h2
      omega⟩
  refine h3.mono ?_
  rintro ed w' ⟨v, K', θ', rfl, hO⟩
  obtain ⟨us, rfl, hus⟩ := hO.val
  obtain ⟨r0, us, rfl, hr, hnil⟩ := hus
  have hnil' : us = [] := hnil
  subst hnil'
  refine ⟨K', [r0], rfl, hO.ext.weak ?_, hO.mod, ?_⟩
  · rintro g _ ⟨r, R, hr, hf⟩
    exact hf
  · refine ⟨r0, [], rfl, ?_, rfl⟩
    have hV := rel_out hr (ho _)
    have := SVal.of_rel (θ := θ) (n := 0) hV
    rw [← hout a hpre] at this
    exact this
end
end Go.Inc

/- Each function that stands here: what it is asked and leaves (_C), its condition (_VC), that it holds (_ok), its contract (_c). -/
set_option linter.unusedVariables false
set_option maxRecDepth 100000
set_option maxHeartbeats 20000000
namespace Go.Proofs.Ytfbhiilolpamaaa
open Go Go.RowKit Go.Inc
noncomputable def CDigestN_C : Ctr := ⟨[.nil, .v (.pr (.int .u64) (.pr (.arr 32 .byte) (.pr (.arr 32 .byte) (.pr (.arr 32 .byte) (.pr (.arr 32 .byte) (.arr 32 .byte))))))], [.v (.arr 32 .byte)], none, fun a => (fun (a1_h : Int × (List UInt8) × (List UInt8) × (List UInt8) × (List UInt8) × List UInt8) => (((digO a1_h), ()), (()))) a.2.1⟩
theorem CDigestN_k : CDigestN_C.valid Try.prog 34 :=
  nil_v CDigest_k (fun _ => rfl) (fun a θ θ' n n' K vs h => by
    obtain ⟨v0, vs, rfl, h0, h⟩ := h
    exact ⟨v0, _, rfl, SVal.of_rel (t := .pr (.int .u64) (.pr (.arr 32 .byte) (.pr (.arr 32 .byte) (.pr (.arr 32 .byte) (.pr (.arr 32 .byte) (.arr 32 .byte)))))) (rel_out (t := .pr (.int .u64) (.pr (.arr 32 .byte) (.pr (.arr 32 .byte) (.pr (.arr 32 .byte) (.pr (.arr 32 .byte) (.arr 32 .byte)))))) h0 rfl), h⟩) (fun _ => rfl) (fun a _ => by rintro y h; cases h) (fun a _ => digO_eq _)
noncomputable def CNextN_C : Ctr := ⟨[.nil, .v (.pr (.int .u64) (.pr (.arr 32 .byte) (.pr (.arr 32 .byte) (.pr (.arr 32 .byte) (.pr (.arr 32 .byte) (.arr 32 .byte)))))), .v (.arr 32 .byte), .v (.arr 32 .byte), .v (.arr 32 .byte)], [.v (.pr (.int .u64) (.pr (.arr 32 .byte) (.pr (.arr 32 .byte) (.pr (.arr 32 .byte) (.pr (.arr 32 .byte) (.arr 32 .byte))))))], none, fun a => (fun (a1_h : Int × (List UInt8) × (List UInt8) × (List UInt8) × (List UInt8) × List UInt8) (a2_tables : List UInt8) (a3_index : List UInt8) (a4_history : List UInt8) => (((nextO a1_h a2_tables a3_index a4_history), ()), (()))) a.2.1 a.2.2.1 a.2.2.2.1 a.2.2.2.2.1⟩
theorem CNextN_k : CNextN_C.valid Try.prog 36 :=
  nil_v CNext_k (fun _ => rfl) (fun a θ θ' n n' K vs h => by
    obtain ⟨v0, vs, rfl, h0, ⟨v1, vs, rfl, h1, ⟨v2, vs, rfl, h2, ⟨v3, vs, rfl, h3, h⟩⟩⟩⟩ := h
    exact ⟨v0, _, rfl, SVal.of_rel (t := .pr (.int .u64) (.pr (.arr 32 .byte) (.pr (.arr 32 .byte) (.pr (.arr 32 .byte) (.pr (.arr 32 .byte) (.arr 32 .byte)))))) (rel_out (t := .pr (.int .u64) (.pr (.arr 32 .byte) (.pr (.arr 32 .byte) (.pr (.arr 32 .byte) (.pr (.arr 32 .byte) (.arr 32 .byte)))))) h0 rfl), ⟨v1, _, rfl, SVal.of_rel (t := .arr 32 .byte) (rel_out (t := .arr 32 .byte) h1 rfl), ⟨v2, _, rfl, SVal.of_rel (t := .arr 32 .byte) (rel_out (t := .arr 32 .byte) h2 rfl), ⟨v3, _, rfl, SVal.of_rel (t := .arr 32 .byte) (rel_out (t := .arr 32 .byte) h3 rfl), h⟩⟩⟩⟩) (fun _ => rfl) (fun a _ => by rintro y h; cases h) (fun a _ => congrFun (congrFun (congrFun (congrFun nextO_eq _) _) _) _)
noncomputable def CFirstN_C : Ctr := ⟨[.nil, .v (.sl .str)], [.v (.pr (.int .u64) (.pr (.arr 32 .byte) (.pr (.arr 32 .byte) (.pr (.arr 32 .byte) (.pr (.arr 32 .byte) (.arr 32 .byte))))))], some (fun a => (fun (a1_stops : List (List UInt8)) => (a1_stops = [] : Prop)) a.2.1), fun a => (fun (a1_stops : List (List UInt8)) => ((firstO, ()), (()))) a.2.1⟩
theorem CFirstN_k : CFirstN_C.valid Try.prog 30 :=
  nil_v CFirst_k (fun _ => rfl) (fun a θ θ' n n' K vs h => by
    obtain ⟨v0, vs, rfl, h0, h⟩ := h
    exact ⟨v0, _, rfl, SVal.of_rel (t := .sl .str) (rel_out (t := .sl .str) h0 rfl), h⟩) (fun _ => rfl) (fun a hp => ⟨rfl, by rw [show a.2.1 = [] from hp]; simp, by rw [show a.2.1 = [] from hp]; simp [blobRoom]⟩) (fun a hp => by have h : a.2.1 = [] := hp; show firstO = firstH a.2.1; rw [h]; exact firstO_eq)
noncomputable def awake15_C : Ctr := ⟨[], [.v .bool], none, fun _ => ((true, ()), (()))⟩
noncomputable def awake15_X : Fx := ⟨seat, some bkT, fns, [(30, CFirstN_C), (30, CFirst_C), (36, CNextN_C), (36, CNext_C), (34, CDigestN_C), (34, CDigest_C), (32, CBytes_C)], [], [], [(3, [], [.o 0 2, .o 1 2, .o 2 2, .o 3 2, .o 4 2, .o 5 2, .o 6 2, .o 7 2, .o 8 2, .o 9 2, .o 10 2, .o 11 2, .o 12 2, .o 13 2, .o 14 2, .o 15 2, .o 16 2, .o 17 2, .o 18 0, .o 19 2, .o 20 2, .o 21 2, .o 22 2, .o 23 2, .o 24 2, .o 25 2, .o 26 2, .o 27 2, .o 28 2, .o 29 0, .o 30 2, .o 31 2, .o 32 2, .o 33 2, .o 34 2, .o 35 0, .o 36 2, .o 37 2, .o 38 2, .o 39 2])]⟩
def awake15_VC (Q : Bool → Prop) : Prop :=
  ([] : List (List UInt8)) = ([] : List (List UInt8)) ∧ (((Ty.int IntKind.u64).pr ((Ty.arr (32 : Nat) Ty.byte).pr ((Ty.arr (32 : Nat) Ty.byte).pr ((Ty.arr (32 : Nat) Ty.byte).pr ((Ty.arr (32 : Nat) Ty.byte).pr (Ty.arr (32 : Nat) Ty.byte)))))).kd.wf firstO → ((Ty.int IntKind.u64).pr ((Ty.arr (32 : Nat) Ty.byte).pr ((Ty.arr (32 : Nat) Ty.byte).pr ((Ty.arr (32 : Nat) Ty.byte).pr ((Ty.arr (32 : Nat) Ty.byte).pr (Ty.arr (32 : Nat) Ty.byte)))))).kd.wf (nextO firstO firstO.snd.snd.fst firstO.snd.snd.snd.fst firstO.snd.snd.snd.snd.fst) → (firstO.fst = (0 : Int) → (firstO.snd.fst = List.replicate (32 : Nat) Ty.byte.kd.z → ((nextO firstO firstO.snd.snd.fst firstO.snd.snd.snd.fst firstO.snd.snd.snd.snd.fst).fst = (1 : Int) → (Ty.arr (32 : Nat) Ty.byte).kd.wf (digO firstO) → ((nextO firstO firstO.snd.snd.fst firstO.snd.snd.snd.fst firstO.snd.snd.snd.snd.fst).snd.fst = digO firstO → ((nextO firstO firstO.snd.snd.fst firstO.snd.snd.snd.fst firstO.snd.snd.snd.snd.fst).snd.fst ≠ List.replicate (32 : Nat) Ty.byte.kd.z → Ty.byte.kd.sl.wf (hdBytes firstO) → (((hdBytes firstO).length : Int) = (161 : Int) → Ty.byte.kd.sl.wf (hdBytes (nextO firstO firstO.snd.snd.fst firstO.snd.snd.snd.fst firstO.snd.snd.snd.snd.fst)) → Q (decide (((hdBytes (nextO firstO firstO.snd.snd.fst firstO.snd.snd.snd.fst firstO.snd.snd.snd.snd.fst)).length : Int) = (162 : Int)))) ∧ (¬((hdBytes firstO).length : Int) = (161 : Int) → Q false)) ∧ (¬(nextO firstO firstO.snd.snd.fst firstO.snd.snd.snd.fst firstO.snd.snd.snd.snd.fst).snd.fst ≠ List.replicate (32 : Nat) Ty.byte.kd.z → Q false)) ∧ (¬(nextO firstO firstO.snd.snd.fst firstO.snd.snd.snd.fst firstO.snd.snd.snd.snd.fst).snd.fst = digO firstO → Q false)) ∧ (¬(nextO firstO firstO.snd.snd.fst firstO.snd.snd.snd.fst firstO.snd.snd.snd.snd.fst).fst = (1 : Int) → Q false)) ∧ (¬firstO.snd.fst = List.replicate (32 : Nat) Ty.byte.kd.z → Q false)) ∧ (¬firstO.fst = (0 : Int) → Q false))
theorem awake15_ok  : awake15_VC  (fun o0 => o0 = true) := by
  have f6 := first6
  have e1 : (nextH (firstH []) (firstH []).2.2.1 (firstH []).2.2.2.1 (firstH []).2.2.2.2.1).1 = 1 := by simp [nextH, firstH]
  have e2 : (nextH (firstH []) (firstH []).2.2.1 (firstH []).2.2.2.1 (firstH []).2.2.2.2.1).2.1 = sealOf 6 [hdBytes (firstH [])] := rfl
  have hl : ∀ x : List UInt8, x = noneR → x.length = 32 := fun x h => by rw [h]; exact sealOf_len _ _
  have e4 : (hdBytes (firstH [])).length = 161 := by
    simp only [hdBytes, firstH, List.length_append, sealOf_len, hl _ rfl, List.length_replicate]
    rw [show ((0 : Int)).toNat = 0 from rfl, numB0]
    rfl
  have e5 : (hdBytes (nextH (firstH []) (firstH []).2.2.1 (firstH []).2.2.2.1 (firstH []).2.2.2.2.1)).length = 162 := by
    have e : hdBytes (nextH (firstH []) (firstH []).2.2.1 (firstH []).2.2.2.1 (firstH []).2.2.2.2.1) = numB 1 ++ (sealOf 6 [hdBytes (firstH [])] ++ (noneR ++ (noneR ++ (sealOf 2 [] ++ sealOf 8 [])))) := by
      unfold hdBytes
      rw [e1, e2]
      rfl
    rw [e]
    simp only [List.length_append, sealOf_len, hl _ rfl, numB1]
    rfl
  have e6 : sealOf 6 [hdBytes (firstH [])] ≠ List.replicate 32 0 := by rw [f6]; decide
  unfold awake15_VC
  simp only [firstO_eq, nextO_eq, digO_eq]
  have e7 : (firstH ([] : List (List UInt8))).1 = 0 := rfl
  have e8 : (firstH ([] : List (List UInt8))).2.1 = List.replicate 32 0 := rfl
  have e9 : ((hdBytes (firstH [])).length : Int) = 161 := by rw [e4]; rfl
  have e10 : (nextH (firstH []) (firstH []).2.2.1 (firstH []).2.2.2.1 (firstH []).2.2.2.2.1).2.1 ≠ List.replicate 32 0 := by rw [e2]; exact e6
  refine ⟨by first | rfl | trivial, fun _ _ => ⟨fun _ => ⟨fun _ => ⟨fun _ _ => ⟨fun _ => ⟨fun _ _ => ⟨fun _ _ => ?_, fun h => absurd e9 h⟩, fun h => absurd e10 h⟩, fun h => absurd e2 h⟩, fun h => absurd e1 h⟩, fun h => absurd e8 h⟩, fun h => absurd e7 h⟩⟩
  rw [e5]
  rfl
theorem awake15_eq : (∀ a, awake15_C.pre a → PM.wfP awake15_C.pm a (fvc awake15_X 200 29 awake15_C a (eqO awake15_C a))) = (∀ a : Unit, True → awake15_VC  (fun o0 => o0 = true)) := by kernel_rfl
theorem awake15_k : awake15_C.valid Try.prog 29 := ctr_of (X := awake15_X) (ok_of seat_ok (fun b hb => by cases hb; exact bkT_ok) fns_ok ⟨CFirstN_k, CFirst_k, CNextN_k, CNext_k, CDigestN_k, CDigest_k, CBytes_k, trivial⟩) 200 (awake15_eq.mpr fun a hp  => @awake15_ok )
noncomputable def ChainBound_C : Ctr := ⟨[.v (.pr (.int .u64) (.pr (.arr 32 .byte) (.pr (.arr 32 .byte) (.pr (.arr 32 .byte) (.pr (.arr 32 .byte) (.arr 32 .byte)))))), .v (.pr (.int .u64) (.pr (.arr 32 .byte) (.pr (.arr 32 .byte) (.pr (.arr 32 .byte) (.pr (.arr 32 .byte) (.arr 32 .byte))))))], [.v .bool], none, fun a => (fun (a0_h : Int × (List UInt8) × (List UInt8) × (List UInt8) × (List UInt8) × List UInt8) (a1_g : Int × (List UInt8) × (List UInt8) × (List UInt8) × (List UInt8) × List UInt8) => ((true, ()), (()))) a.1 a.2.1⟩
noncomputable def ChainBound_X : Fx := ⟨seat, some bkT, fns, [(34, CDigestN_C), (34, CDigest_C), (20, Clash_C), (29, awake15_C)], [], [], [(2, [2, 3], [.o 0 3, .o 1 3, .o 3 3, .o 4 3, .o 2 1, .o 5 1, .o 6 3, .o 7 3])]⟩
def ChainBound_VC (a0_h : Int × (List UInt8) × (List UInt8) × (List UInt8) × (List UInt8) × List UInt8) (a1_g : Int × (List UInt8) × (List UInt8) × (List UInt8) × (List UInt8) × List UInt8) (Q : Bool → Prop) : Prop :=
  bookRoom (some (([] : List Nt), (0 : Int))) ∧ ((Ty.arr (32 : Nat) Ty.byte).kd.wf (sealOf (6 : Int) (hdBytes a0_h :: ([] : List (List UInt8)))) → bookRoom (some (([] : List Nt), (0 : Int))) ∧ ((Ty.arr (32 : Nat) Ty.byte).kd.wf (sealOf (6 : Int) (hdBytes a1_g :: ([] : List (List UInt8)))) → clashPre (Option.map (fun (x0 : List Nt × Int) => ((x0.fst, ()), x0.snd)) (bookOf (some (([] : List Nt), (0 : Int))) (6 : Int) (hdBytes a0_h :: ([] : List (List UInt8)))) :: Option.map (fun (x1 : List Nt × Int) => ((x1.fst, ()), x1.snd)) (bookOf (some (([] : List Nt), (0 : Int))) (6 : Int) (hdBytes a1_g :: ([] : List (List UInt8)))) :: ([] : List (Option ((List (List UInt8 × List UInt8) × Unit) × Int)))) ∧ (Ty.byte.sl.kd.wf (clashA (Option.map (fun (x2 : List Nt × Int) => ((x2.fst, ()), x2.snd)) (bookOf (some (([] : List Nt), (0 : Int))) (6 : Int) (hdBytes a0_h :: ([] : List (List UInt8)))) :: Option.map (fun (x3 : List Nt × Int) => ((x3.fst, ()), x3.snd)) (bookOf (some (([] : List Nt), (0 : Int))) (6 : Int) (hdBytes a1_g :: ([] : List (List UInt8)))) :: ([] : List (Option ((List (List UInt8 × List UInt8) × Unit) × Int))))).fst → Ty.byte.sl.kd.wf (clashA (Option.map (fun (x4 : List Nt × Int) => ((x4.fst, ()), x4.snd)) (bookOf (some (([] : List Nt), (0 : Int))) (6 : Int) (hdBytes a0_h :: ([] : List (List UInt8)))) :: Option.map (fun (x5 : List Nt × Int) => ((x5.fst, ()), x5.snd)) (bookOf (some (([] : List Nt), (0 : Int))) (6 : Int) (hdBytes a1_g :: ([] : List (List UInt8)))) :: ([] : List (Option ((List (List UInt8 × List UInt8) × Unit) × Int))))).snd.fst → (decide (sealOf (6 : Int) (hdBytes a0_h :: ([] : List (List UInt8))) = sealOf (6 : Int) (hdBytes a1_g :: ([] : List (List UInt8)))) = decide (a0_h = a1_g) → Q true) ∧ (¬decide (sealOf (6 : Int) (hdBytes a0_h :: ([] : List (List UInt8))) = sealOf (6 : Int) (hdBytes a1_g :: ([] : List (List UInt8)))) = decide (a0_h = a1_g) → (sealOf (6 : Int) (hdBytes a0_h :: ([] : List (List UInt8))) = sealOf (6 : Int) (hdBytes a1_g :: ([] : List (List UInt8))) → ((clashA (Option.map (fun (x6 : List Nt × Int) => ((x6.fst, ()), x6.snd)) (bookOf (some (([] : List Nt), (0 : Int))) (6 : Int) (hdBytes a0_h :: ([] : List (List UInt8)))) :: Option.map (fun (x7 : List Nt × Int) => ((x7.fst, ()), x7.snd)) (bookOf (some (([] : List Nt), (0 : Int))) (6 : Int) (hdBytes a1_g :: ([] : List (List UInt8)))) :: ([] : List (Option ((List (List UInt8 × List UInt8) × Unit) × Int))))).snd.snd = true → ((clashA (Option.map (fun (x8 : List Nt × Int) => ((x8.fst, ()), x8.snd)) (bookOf (some (([] : List Nt), (0 : Int))) (6 : Int) (hdBytes a0_h :: ([] : List (List UInt8)))) :: Option.map (fun (x9 : List Nt × Int) => ((x9.fst, ()), x9.snd)) (bookOf (some (([] : List Nt), (0 : Int))) (6 : Int) (hdBytes a1_g :: ([] : List (List UInt8)))) :: ([] : List (Option ((List (List UInt8 × List UInt8) × Unit) × Int))))).fst ≠ (clashA (Option.map (fun (x10 : List Nt × Int) => ((x10.fst, ()), x10.snd)) (bookOf (some (([] : List Nt), (0 : Int))) (6 : Int) (hdBytes a0_h :: ([] : List (List UInt8)))) :: Option.map (fun (x11 : List Nt × Int) => ((x11.fst, ()), x11.snd)) (bookOf (some (([] : List Nt), (0 : Int))) (6 : Int) (hdBytes a1_g :: ([] : List (List UInt8)))) :: ([] : List (Option ((List (List UInt8 × List UInt8) × Unit) × Int))))).snd.fst → Q true) ∧ (¬(clashA (Option.map (fun (x12 : List Nt × Int) => ((x12.fst, ()), x12.snd)) (bookOf (some (([] : List Nt), (0 : Int))) (6 : Int) (hdBytes a0_h :: ([] : List (List UInt8)))) :: Option.map (fun (x13 : List Nt × Int) => ((x13.fst, ()), x13.snd)) (bookOf (some (([] : List Nt), (0 : Int))) (6 : Int) (hdBytes a1_g :: ([] : List (List UInt8)))) :: ([] : List (Option ((List (List UInt8 × List UInt8) × Unit) × Int))))).fst ≠ (clashA (Option.map (fun (x14 : List Nt × Int) => ((x14.fst, ()), x14.snd)) (bookOf (some (([] : List Nt), (0 : Int))) (6 : Int) (hdBytes a0_h :: ([] : List (List UInt8)))) :: Option.map (fun (x15 : List Nt × Int) => ((x15.fst, ()), x15.snd)) (bookOf (some (([] : List Nt), (0 : Int))) (6 : Int) (hdBytes a1_g :: ([] : List (List UInt8)))) :: ([] : List (Option ((List (List UInt8 × List UInt8) × Unit) × Int))))).snd.fst → Q false)) ∧ ((clashA (Option.map (fun (x16 : List Nt × Int) => ((x16.fst, ()), x16.snd)) (bookOf (some (([] : List Nt), (0 : Int))) (6 : Int) (hdBytes a0_h :: ([] : List (List UInt8)))) :: Option.map (fun (x17 : List Nt × Int) => ((x17.fst, ()), x17.snd)) (bookOf (some (([] : List Nt), (0 : Int))) (6 : Int) (hdBytes a1_g :: ([] : List (List UInt8)))) :: ([] : List (Option ((List (List UInt8 × List UInt8) × Unit) × Int))))).snd.snd = false → Q false)) ∧ (¬sealOf (6 : Int) (hdBytes a0_h :: ([] : List (List UInt8))) = sealOf (6 : Int) (hdBytes a1_g :: ([] : List (List UInt8))) → Q false)))))
theorem ChainBound_ok {a0_h : Int × (List UInt8) × (List UInt8) × (List UInt8) × (List UInt8) × List UInt8} {a1_g : Int × (List UInt8) × (List UInt8) × (List UInt8) × (List UInt8) × List UInt8} (w_0 : (Ty.kd (.pr (.int .u64) (.pr (.arr 32 .byte) (.pr (.arr 32 .byte) (.pr (.arr 32 .byte) (.pr (.arr 32 .byte) (.arr 32 .byte))))))).wf a0_h) (w_1 : (Ty.kd (.pr (.int .u64) (.pr (.arr 32 .byte) (.pr (.arr 32 .byte) (.pr (.arr 32 .byte) (.pr (.arr 32 .byte) (.arr 32 .byte))))))).wf a1_g) : ChainBound_VC a0_h a1_g (fun o0 => o0 = true) := by
  have hw : HdWf a0_h := ⟨w_0.1.1, w_0.1.2, w_0.2.1.1, w_0.2.2.1.1, w_0.2.2.2.1.1, w_0.2.2.2.2.1.1, w_0.2.2.2.2.2.1⟩
  have hv : HdWf a1_g := ⟨w_1.1.1, w_1.1.2, w_1.2.1.1, w_1.2.2.1.1, w_1.2.2.2.1.1, w_1.2.2.2.2.1.1, w_1.2.2.2.2.2.1⟩
  have room : bookRoom (some ([], 0)) := by rintro y h; cases h; simp
  have b1 : ∀ z, bookOf (some ([], 0)) 6 [z] = some ([(sealOf 6 [z], preimage 6 [z])], 1) := fun z => rfl
  have hpl : ∀ h : Hd, HdWf h → (preimage 6 [hdBytes h]).length ≤ 200 := fun h w => by
    have h1 := hdBytes_len w
    have h2 : blobRoom [hdBytes h] = (hdBytes h).length + 9 := by simp [blobRoom]
    have := preimage_len 6 (l := [hdBytes h]) (by omega)
    omega
  have l1 := hpl _ hw
  have l2 := hpl _ hv
  have fz : ∀ b : BookA, Option.map (fun x : List Nt × Int => ((x.1, ()), x.2)) b = frzB b := fun _ => rfl
  unfold ChainBound_VC
  rw [b1, b1]
  simp only [fz]
  have hc := clash_two [(sealOf 6 [hdBytes a0_h], preimage 6 [hdBytes a0_h])] [(sealOf 6 [hdBytes a1_g], preimage 6 [hdBytes a1_g])] 1 1
  refine ⟨room, fun _ => ⟨room, fun _ => ⟨⟨by simp [notesF, frzB], ?_⟩, fun _ _ => ?_⟩⟩⟩
  · intro z hz
    simp only [notesF, frzB, List.flatMap_cons, List.flatMap_nil, Option.map_some, List.append_nil, List.cons_append, List.nil_append, List.mem_cons, List.not_mem_nil, or_false] at hz
    rcases hz with rfl | rfl
    · simp only; omega
    · simp only; omega
  · generalize clashA _ = C at hc ⊢
    by_cases he : a0_h = a1_g
    · subst he; simp
    · by_cases hs : sealOf 6 [hdBytes a0_h] = sealOf 6 [hdBytes a1_g]
      · cases hb : C.2.2 with
        | false =>
          exfalso
          have hn := hc.2 hb
          have hp := hn (sealOf 6 [hdBytes a0_h]) (preimage 6 [hdBytes a0_h]) (preimage 6 [hdBytes a1_g]) (by simp) (by rw [hs]; simp)
          have h1 := hdBytes_len hw
          have h2 := hdBytes_len hv
          have hi := (preimage_inj (k := 6) (o := 6) (a := [hdBytes a0_h]) (b := [hdBytes a1_g]) (by simp; omega) (by simp; omega)).1 hp
          exact he (hdBytes_inj hw hv (List.cons.inj hi.2).1)
        | true =>
          have hne := hc.1 hb
          simp [hs, hne]
      · simp [hs, he]
theorem ChainBound_eq : (∀ a, ChainBound_C.pre a → PM.wfP ChainBound_C.pm a (fvc ChainBound_X 200 10 ChainBound_C a (eqO ChainBound_C a))) = (∀ a : (Int × (List UInt8) × (List UInt8) × (List UInt8) × (List UInt8) × List UInt8) × (Int × (List UInt8) × (List UInt8) × (List UInt8) × (List UInt8) × List UInt8) × Unit, True → (Ty.kd (.pr (.int .u64) (.pr (.arr 32 .byte) (.pr (.arr 32 .byte) (.pr (.arr 32 .byte) (.pr (.arr 32 .byte) (.arr 32 .byte))))))).wf a.1 → (Ty.kd (.pr (.int .u64) (.pr (.arr 32 .byte) (.pr (.arr 32 .byte) (.pr (.arr 32 .byte) (.pr (.arr 32 .byte) (.arr 32 .byte))))))).wf a.2.1 → ChainBound_VC a.1 a.2.1 (fun o0 => o0 = true)) := by kernel_rfl
theorem ChainBound_k : ChainBound_C.valid Try.prog 10 := ctr_of (X := ChainBound_X) (ok_of seat_ok (fun b hb => by cases hb; exact bkT_ok) fns_ok ⟨CDigestN_k, CDigest_k, Clash_k, awake15_k, trivial⟩) 200 (ChainBound_eq.mpr fun a hp w_0 w_1 => @ChainBound_ok a.1 a.2.1 w_0 w_1)
noncomputable def ChainLinks_C : Ctr := ⟨[.v (.pr (.int .u64) (.pr (.arr 32 .byte) (.pr (.arr 32 .byte) (.pr (.arr 32 .byte) (.pr (.arr 32 .byte) (.arr 32 .byte)))))), .v (.pr (.int .u64) (.pr (.arr 32 .byte) (.pr (.arr 32 .byte) (.pr (.arr 32 .byte) (.pr (.arr 32 .byte) (.arr 32 .byte)))))), .v (.sl (.pr (.arr 32 .byte) (.pr (.arr 32 .byte) (.arr 32 .byte)))), .v (.sl (.pr (.arr 32 .byte) (.pr (.arr 32 .byte) (.arr 32 .byte))))], [.v .bool], none, fun a => (fun (a0_h : Int × (List UInt8) × (List UInt8) × (List UInt8) × (List UInt8) × List UInt8) (a1_g : Int × (List UInt8) × (List UInt8) × (List UInt8) × (List UInt8) × List UInt8) (a2_l : List ((List UInt8) × (List UInt8) × List UInt8)) (a3_m : List ((List UInt8) × (List UInt8) × List UInt8)) => ((true, ()), (()))) a.1 a.2.1 a.2.2.1 a.2.2.2.1⟩
noncomputable def ChainLinks_X : Fx := ⟨seat, some bkT, fns, [(29, awake15_C), (36, CNextN_C), (36, CNext_C), (34, CDigestN_C), (34, CDigest_C), (20, Clash_C)], [], [(6, [0, 1, 2, 3], [])], [(8, [0, 2], [.o 0 2, .o 1 2, .o 2 2, .o 3 2, .o 4 2, .o 5 2, .o 6 2, .o 7 2, .o 8 2, .o 9 2, .o 10 2, .o 11 2, .o 12 2, .o 13 2, .o 14 2, .o 15 2, .o 16 2, .o 17 1, .o 18 1]), (9, [1, 3], [.o 0 2, .o 1 2, .o 2 2, .o 3 2, .o 4 2, .o 5 2, .o 6 2, .o 7 2, .o 8 2, .o 9 2, .o 10 2, .o 11 2, .o 12 2, .o 13 2, .o 14 2, .o 15 2, .o 16 2, .o 17 1, .o 18 1]), (11, [2, 3], [.o 0 3, .o 1 3, .o 3 3, .o 4 3, .o 2 1, .o 5 1, .o 6 3, .o 7 3])]⟩
def ChainLinks_VC (a0_h : Int × (List UInt8) × (List UInt8) × (List UInt8) × (List UInt8) × List UInt8) (a1_g : Int × (List UInt8) × (List UInt8) × (List UInt8) × (List UInt8) × List UInt8) (a2_l : List ((List UInt8) × (List UInt8) × List UInt8)) (a3_m : List ((List UInt8) × (List UInt8) × List UInt8)) (Q : Bool → Prop) : Prop :=
  ((200 : Int) < (a2_l.length : Int) → Q true) ∧ (¬(200 : Int) < (a2_l.length : Int) → ((a3_m.length : Int) < (a2_l.length : Int) → Q true) ∧ (¬(a3_m.length : Int) < (a2_l.length : Int) → ∃ (x0 : Bool → Int → Int × List UInt8 × List UInt8 × List UInt8 × List UInt8 × List UInt8 → Int × List UInt8 × List UInt8 × List UInt8 × List UInt8 × List UInt8 → BookA → BookA → Prop), ∃ (x1 : Bool → Int → Int × List UInt8 × List UInt8 × List UInt8 × List UInt8 × List UInt8 → Int × List UInt8 × List UInt8 × List UInt8 × List UInt8 × List UInt8 → BookA → BookA → Nat), x0 (decide (a0_h = a1_g)) (0 : Int) a0_h a1_g (some (([] : List Nt), (0 : Int))) (some (([] : List Nt), (0 : Int))) ∧ ∀ (x2 : Bool) (x3 : Int) (x4 x5 : Int × List UInt8 × List UInt8 × List UInt8 × List UInt8 × List UInt8) (x6 x7 : BookA), x0 x2 x3 x4 x5 x6 x7 → (Kd.int IntKind.i64).wf x3 → ((Ty.int IntKind.u64).pr ((Ty.arr (32 : Nat) Ty.byte).pr ((Ty.arr (32 : Nat) Ty.byte).pr ((Ty.arr (32 : Nat) Ty.byte).pr ((Ty.arr (32 : Nat) Ty.byte).pr (Ty.arr (32 : Nat) Ty.byte)))))).kd.wf x4 → ((Ty.int IntKind.u64).pr ((Ty.arr (32 : Nat) Ty.byte).pr ((Ty.arr (32 : Nat) Ty.byte).pr ((Ty.arr (32 : Nat) Ty.byte).pr ((Ty.arr (32 : Nat) Ty.byte).pr (Ty.arr (32 : Nat) Ty.byte)))))).kd.wf x5 → (x3 < (a2_l.length : Int) → ((0 : Int) ≤ x3 ∧ x3 < (a2_l.length : Int)) ∧ ((0 : Int) ≤ x3 ∧ x3 < (a2_l.length : Int)) ∧ ((0 : Int) ≤ x3 ∧ x3 < (a2_l.length : Int)) ∧ bookRoom x6 ∧ (((Ty.int IntKind.u64).pr ((Ty.arr (32 : Nat) Ty.byte).pr ((Ty.arr (32 : Nat) Ty.byte).pr ((Ty.arr (32 : Nat) Ty.byte).pr ((Ty.arr (32 : Nat) Ty.byte).pr (Ty.arr (32 : Nat) Ty.byte)))))).kd.wf (nextH x4 (ix a2_l x3).fst (ix a2_l x3).snd.fst (ix a2_l x3).snd.snd) → ((0 : Int) ≤ x3 ∧ x3 < (a3_m.length : Int)) ∧ ((0 : Int) ≤ x3 ∧ x3 < (a3_m.length : Int)) ∧ ((0 : Int) ≤ x3 ∧ x3 < (a3_m.length : Int)) ∧ bookRoom x7 ∧ (((Ty.int IntKind.u64).pr ((Ty.arr (32 : Nat) Ty.byte).pr ((Ty.arr (32 : Nat) Ty.byte).pr ((Ty.arr (32 : Nat) Ty.byte).pr ((Ty.arr (32 : Nat) Ty.byte).pr (Ty.arr (32 : Nat) Ty.byte)))))).kd.wf (nextH x5 (ix a3_m x3).fst (ix a3_m x3).snd.fst (ix a3_m x3).snd.snd) → (x2 = true → x3 < (9223372036854775807 : Int) ∧ x0 (decide (nextH x4 (ix a2_l x3).fst (ix a2_l x3).snd.fst (ix a2_l x3).snd.snd = nextH x5 (ix a3_m x3).fst (ix a3_m x3).snd.fst (ix a3_m x3).snd.snd)) (x3 + (1 : Int)) (nextH x4 (ix a2_l x3).fst (ix a2_l x3).snd.fst (ix a2_l x3).snd.snd) (nextH x5 (ix a3_m x3).fst (ix a3_m x3).snd.fst (ix a3_m x3).snd.snd) (bookOf x6 (6 : Int) (hdBytes x4 :: ([] : List (List UInt8)))) (bookOf x7 (6 : Int) (hdBytes x5 :: ([] : List (List UInt8)))) ∧ x1 (decide (nextH x4 (ix a2_l x3).fst (ix a2_l x3).snd.fst (ix a2_l x3).snd.snd = nextH x5 (ix a3_m x3).fst (ix a3_m x3).snd.fst (ix a3_m x3).snd.snd)) (x3 + (1 : Int)) (nextH x4 (ix a2_l x3).fst (ix a2_l x3).snd.fst (ix a2_l x3).snd.snd) (nextH x5 (ix a3_m x3).fst (ix a3_m x3).snd.fst (ix a3_m x3).snd.snd) (bookOf x6 (6 : Int) (hdBytes x4 :: ([] : List (List UInt8)))) (bookOf x7 (6 : Int) (hdBytes x5 :: ([] : List (List UInt8)))) < x1 x2 x3 x4 x5 x6 x7) ∧ (x2 = false → x3 < (9223372036854775807 : Int) ∧ x0 false (x3 + (1 : Int)) (nextH x4 (ix a2_l x3).fst (ix a2_l x3).snd.fst (ix a2_l x3).snd.snd) (nextH x5 (ix a3_m x3).fst (ix a3_m x3).snd.fst (ix a3_m x3).snd.snd) (bookOf x6 (6 : Int) (hdBytes x4 :: ([] : List (List UInt8)))) (bookOf x7 (6 : Int) (hdBytes x5 :: ([] : List (List UInt8)))) ∧ x1 false (x3 + (1 : Int)) (nextH x4 (ix a2_l x3).fst (ix a2_l x3).snd.fst (ix a2_l x3).snd.snd) (nextH x5 (ix a3_m x3).fst (ix a3_m x3).snd.fst (ix a3_m x3).snd.snd) (bookOf x6 (6 : Int) (hdBytes x4 :: ([] : List (List UInt8)))) (bookOf x7 (6 : Int) (hdBytes x5 :: ([] : List (List UInt8)))) < x1 x2 x3 x4 x5 x6 x7)))) ∧ (¬x3 < (a2_l.length : Int) → bookRoom x6 ∧ ((Ty.arr (32 : Nat) Ty.byte).kd.wf (sealOf (6 : Int) (hdBytes x4 :: ([] : List (List UInt8)))) → bookRoom x7 ∧ ((Ty.arr (32 : Nat) Ty.byte).kd.wf (sealOf (6 : Int) (hdBytes x5 :: ([] : List (List UInt8)))) → clashPre (Option.map (fun (x20 : List Nt × Int) => ((x20.fst, ()), x20.snd)) (bookOf x6 (6 : Int) (hdBytes x4 :: ([] : List (List UInt8)))) :: Option.map (fun (x21 : List Nt × Int) => ((x21.fst, ()), x21.snd)) (bookOf x7 (6 : Int) (hdBytes x5 :: ([] : List (List UInt8)))) :: ([] : List (Option ((List (List UInt8 × List UInt8) × Unit) × Int)))) ∧ (Ty.byte.sl.kd.wf (clashA (Option.map (fun (x22 : List Nt × Int) => ((x22.fst, ()), x22.snd)) (bookOf x6 (6 : Int) (hdBytes x4 :: ([] : List (List UInt8)))) :: Option.map (fun (x23 : List Nt × Int) => ((x23.fst, ()), x23.snd)) (bookOf x7 (6 : Int) (hdBytes x5 :: ([] : List (List UInt8)))) :: ([] : List (Option ((List (List UInt8 × List UInt8) × Unit) × Int))))).fst → Ty.byte.sl.kd.wf (clashA (Option.map (fun (x25 : List Nt × Int) => ((x25.fst, ()), x25.snd)) (bookOf x6 (6 : Int) (hdBytes x4 :: ([] : List (List UInt8)))) :: Option.map (fun (x26 : List Nt × Int) => ((x26.fst, ()), x26.snd)) (bookOf x7 (6 : Int) (hdBytes x5 :: ([] : List (List UInt8)))) :: ([] : List (Option ((List (List UInt8 × List UInt8) × Unit) × Int))))).snd.fst → (sealOf (6 : Int) (hdBytes x4 :: ([] : List (List UInt8))) = sealOf (6 : Int) (hdBytes x5 :: ([] : List (List UInt8))) → (¬sealOf (6 : Int) (hdBytes x4 :: ([] : List (List UInt8))) = sealOf (6 : Int) (hdBytes x5 :: ([] : List (List UInt8))) → Q true) ∧ (sealOf (6 : Int) (hdBytes x4 :: ([] : List (List UInt8))) = sealOf (6 : Int) (hdBytes x5 :: ([] : List (List UInt8))) → (x2 = true → Q true) ∧ (x2 = false → ((clashA (Option.map (fun (x31 : List Nt × Int) => ((x31.fst, ()), x31.snd)) (bookOf x6 (6 : Int) (hdBytes x4 :: ([] : List (List UInt8)))) :: Option.map (fun (x32 : List Nt × Int) => ((x32.fst, ()), x32.snd)) (bookOf x7 (6 : Int) (hdBytes x5 :: ([] : List (List UInt8)))) :: ([] : List (Option ((List (List UInt8 × List UInt8) × Unit) × Int))))).snd.snd = true → ((clashA (Option.map (fun (x34 : List Nt × Int) => ((x34.fst, ()), x34.snd)) (bookOf x6 (6 : Int) (hdBytes x4 :: ([] : List (List UInt8)))) :: Option.map (fun (x35 : List Nt × Int) => ((x35.fst, ()), x35.snd)) (bookOf x7 (6 : Int) (hdBytes x5 :: ([] : List (List UInt8)))) :: ([] : List (Option ((List (List UInt8 × List UInt8) × Unit) × Int))))).fst ≠ (clashA (Option.map (fun (x36 : List Nt × Int) => ((x36.fst, ()), x36.snd)) (bookOf x6 (6 : Int) (hdBytes x4 :: ([] : List (List UInt8)))) :: Option.map (fun (x37 : List Nt × Int) => ((x37.fst, ()), x37.snd)) (bookOf x7 (6 : Int) (hdBytes x5 :: ([] : List (List UInt8)))) :: ([] : List (Option ((List (List UInt8 × List UInt8) × Unit) × Int))))).snd.fst → Q true) ∧ (¬(clashA (Option.map (fun (x38 : List Nt × Int) => ((x38.fst, ()), x38.snd)) (bookOf x6 (6 : Int) (hdBytes x4 :: ([] : List (List UInt8)))) :: Option.map (fun (x39 : List Nt × Int) => ((x39.fst, ()), x39.snd)) (bookOf x7 (6 : Int) (hdBytes x5 :: ([] : List (List UInt8)))) :: ([] : List (Option ((List (List UInt8 × List UInt8) × Unit) × Int))))).fst ≠ (clashA (Option.map (fun (x40 : List Nt × Int) => ((x40.fst, ()), x40.snd)) (bookOf x6 (6 : Int) (hdBytes x4 :: ([] : List (List UInt8)))) :: Option.map (fun (x41 : List Nt × Int) => ((x41.fst, ()), x41.snd)) (bookOf x7 (6 : Int) (hdBytes x5 :: ([] : List (List UInt8)))) :: ([] : List (Option ((List (List UInt8 × List UInt8) × Unit) × Int))))).snd.fst → Q false)) ∧ ((clashA (Option.map (fun (x42 : List Nt × Int) => ((x42.fst, ()), x42.snd)) (bookOf x6 (6 : Int) (hdBytes x4 :: ([] : List (List UInt8)))) :: Option.map (fun (x43 : List Nt × Int) => ((x43.fst, ()), x43.snd)) (bookOf x7 (6 : Int) (hdBytes x5 :: ([] : List (List UInt8)))) :: ([] : List (Option ((List (List UInt8 × List UInt8) × Unit) × Int))))).snd.snd = false → Q false)))) ∧ (¬sealOf (6 : Int) (hdBytes x4 :: ([] : List (List UInt8))) = sealOf (6 : Int) (hdBytes x5 :: ([] : List (List UInt8))) → (¬x2 = true → (¬sealOf (6 : Int) (hdBytes x4 :: ([] : List (List UInt8))) = sealOf (6 : Int) (hdBytes x5 :: ([] : List (List UInt8))) → Q true) ∧ (sealOf (6 : Int) (hdBytes x4 :: ([] : List (List UInt8))) = sealOf (6 : Int) (hdBytes x5 :: ([] : List (List UInt8))) → (x2 = true → Q true) ∧ (x2 = false → ((clashA (Option.map (fun (x48 : List Nt × Int) => ((x48.fst, ()), x48.snd)) (bookOf x6 (6 : Int) (hdBytes x4 :: ([] : List (List UInt8)))) :: Option.map (fun (x49 : List Nt × Int) => ((x49.fst, ()), x49.snd)) (bookOf x7 (6 : Int) (hdBytes x5 :: ([] : List (List UInt8)))) :: ([] : List (Option ((List (List UInt8 × List UInt8) × Unit) × Int))))).snd.snd = true → ((clashA (Option.map (fun (x51 : List Nt × Int) => ((x51.fst, ()), x51.snd)) (bookOf x6 (6 : Int) (hdBytes x4 :: ([] : List (List UInt8)))) :: Option.map (fun (x52 : List Nt × Int) => ((x52.fst, ()), x52.snd)) (bookOf x7 (6 : Int) (hdBytes x5 :: ([] : List (List UInt8)))) :: ([] : List (Option ((List (List UInt8 × List UInt8) × Unit) × Int))))).fst ≠ (clashA (Option.map (fun (x53 : List Nt × Int) => ((x53.fst, ()), x53.snd)) (bookOf x6 (6 : Int) (hdBytes x4 :: ([] : List (List UInt8)))) :: Option.map (fun (x54 : List Nt × Int) => ((x54.fst, ()), x54.snd)) (bookOf x7 (6 : Int) (hdBytes x5 :: ([] : List (List UInt8)))) :: ([] : List (Option ((List (List UInt8 × List UInt8) × Unit) × Int))))).snd.fst → Q true) ∧ (¬(clashA (Option.map (fun (x55 : List Nt × Int) => ((x55.fst, ()), x55.snd)) (bookOf x6 (6 : Int) (hdBytes x4 :: ([] : List (List UInt8)))) :: Option.map (fun (x56 : List Nt × Int) => ((x56.fst, ()), x56.snd)) (bookOf x7 (6 : Int) (hdBytes x5 :: ([] : List (List UInt8)))) :: ([] : List (Option ((List (List UInt8 × List UInt8) × Unit) × Int))))).fst ≠ (clashA (Option.map (fun (x57 : List Nt × Int) => ((x57.fst, ()), x57.snd)) (bookOf x6 (6 : Int) (hdBytes x4 :: ([] : List (List UInt8)))) :: Option.map (fun (x58 : List Nt × Int) => ((x58.fst, ()), x58.snd)) (bookOf x7 (6 : Int) (hdBytes x5 :: ([] : List (List UInt8)))) :: ([] : List (Option ((List (List UInt8 × List UInt8) × Unit) × Int))))).snd.fst → Q false)) ∧ ((clashA (Option.map (fun (x59 : List Nt × Int) => ((x59.fst, ()), x59.snd)) (bookOf x6 (6 : Int) (hdBytes x4 :: ([] : List (List UInt8)))) :: Option.map (fun (x60 : List Nt × Int) => ((x60.fst, ()), x60.snd)) (bookOf x7 (6 : Int) (hdBytes x5 :: ([] : List (List UInt8)))) :: ([] : List (Option ((List (List UInt8 × List UInt8) × Unit) × Int))))).snd.snd = false → Q false)))) ∧ (x2 = true → Q false))))))))
theorem ChainLinks_ok {a0_h : Int × (List UInt8) × (List UInt8) × (List UInt8) × (List UInt8) × List UInt8} {a1_g : Int × (List UInt8) × (List UInt8) × (List UInt8) × (List UInt8) × List UInt8} {a2_l : List ((List UInt8) × (List UInt8) × List UInt8)} {a3_m : List ((List UInt8) × (List UInt8) × List UInt8)} (w_0 : (Ty.kd (.pr (.int .u64) (.pr (.arr 32 .byte) (.pr (.arr 32 .byte) (.pr (.arr 32 .byte) (.pr (.arr 32 .byte) (.arr 32 .byte))))))).wf a0_h) (w_1 : (Ty.kd (.pr (.int .u64) (.pr (.arr 32 .byte) (.pr (.arr 32 .byte) (.pr (.arr 32 .byte) (.pr (.arr 32 .byte) (.arr 32 .byte))))))).wf a1_g) (w_2 : (Ty.kd (.sl (.pr (.arr 32 .byte) (.pr (.arr 32 .byte) (.arr 32 .byte))))).wf a2_l) (w_3 : (Ty.kd (.sl (.pr (.arr 32 .byte) (.pr (.arr 32 .byte) (.arr 32 .byte))))).wf a3_m) : ChainLinks_VC a0_h a1_g a2_l a3_m (fun o0 => o0 = true) := by
  have wfH : ∀ h : Hd, (Ty.kd (.pr (.int .u64) (.pr (.arr 32 .byte) (.pr (.arr 32 .byte) (.pr (.arr 32 .byte) (.pr (.arr 32 .byte) (.arr 32 .byte))))))).wf h → HdWf h := fun h w => ⟨w.1.1, w.1.2, w.2.1.1, w.2.2.1.1, w.2.2.2.1.1, w.2.2.2.2.1.1, w.2.2.2.2.2.1⟩
  have hpl : ∀ h : Hd, HdWf h → (preimage 6 [hdBytes h]).length ≤ 200 := fun h w => by
    have h1 := hdBytes_len w
    have h2 : blobRoom [hdBytes h] = (hdBytes h).length + 9 := by simp [blobRoom]
    have := preimage_len 6 (l := [hdBytes h]) (by omega)
    omega
  have hinj : ∀ h g : Hd, HdWf h → HdWf g → preimage 6 [hdBytes h] = preimage 6 [hdBytes g] → h = g := fun h g hw hv hp => by
    have h1 := hdBytes_len hw
    have h2 := hdBytes_len hv
    have hi := (preimage_inj (k := 6) (o := 6) (a := [hdBytes h]) (b := [hdBytes g]) (by simp; omega) (by simp; omega)).1 hp
    exact hdBytes_inj hw hv (List.cons.inj hi.2).1
  have room : ∀ (ls : List Nt) (c : Int), ls.length ≤ 300 → bookRoom (some (ls, c)) := fun ls c h1 => by
    rintro y h
    cases h
    simp only; omega
  have bof : ∀ (ls : List Nt) (c : Int) (z : List UInt8), bookOf (some (ls, c)) 6 [z] = some (addL ls (sealOf 6 [z]) (preimage 6 [z]), IntKind.i64.wrap (c + 1)) := fun ls c z => rfl
  have step : ∀ (h g : Hd) (A B : List Nt), HdWf h → HdWf g → NoClash (addL A (sealOf 6 [hdBytes h]) (preimage 6 [hdBytes h]) ++ addL B (sealOf 6 [hdBytes g]) (preimage 6 [hdBytes g])) → sealOf 6 [hdBytes h] = sealOf 6 [hdBytes g] → NoClash (A ++ B) ∧ h = g := fun h g A B hw hv hn he => by
    refine ⟨hn.sub fun z hz => ?_, hinj h g hw hv (hn (sealOf 6 [hdBytes h]) _ _ (List.mem_append.2 (.inl (addL_in _ _ _))) (List.mem_append.2 (.inr (by rw [he]; exact addL_in _ _ _))))⟩
    rcases List.mem_append.1 hz with hz | hz
    · exact List.mem_append.2 (.inl (addL_sub _ _ _ z hz))
    · exact List.mem_append.2 (.inr (addL_sub _ _ _ z hz))
  have fz : ∀ b : BookA, Option.map (fun x : List Nt × Int => ((x.1, ()), x.2)) b = frzB b := fun _ => rfl
  unfold ChainLinks_VC
  refine ⟨fun _ => rfl, fun hl2 => ⟨fun _ => rfl, fun hlm => ?_⟩⟩
  refine ⟨fun same i h g ka kb => ∃ (A B : List Nt) (c d : Int), ka = some (A, c) ∧ kb = some (B, d) ∧ 0 ≤ i ∧ i ≤ (a2_l.length : Int) ∧ (A.length : Int) ≤ i ∧ (B.length : Int) ≤ i ∧ (∀ z ∈ A, z.2.length ≤ 200) ∧ (∀ z ∈ B, z.2.length ≤ 200) ∧ (same = true → h = g) ∧ (NoClash (A ++ B) → h = g → same = true),
    fun _ i _ _ _ _ => ((a2_l.length : Int) - i).toNat, ⟨[], [], 0, 0, rfl, rfl, by omega, by omega, by simp, by simp, by simp, by simp, fun h => of_decide_eq_true h, fun _ h => decide_eq_true h⟩, ?_⟩
  rintro same i h g ka kb ⟨A, B, c, d, rfl, rfl, h0, h1, hA, hB, hzA, hzB, hs1, hs2⟩ hwi wh wg
  have hw := wfH h wh
  have hv := wfH g wg
  have l1 := hpl _ hw
  have l2 := hpl _ hv
  have hAl := addL_len A (sealOf 6 [hdBytes h]) (preimage 6 [hdBytes h])
  have hBl := addL_len B (sealOf 6 [hdBytes g]) (preimage 6 [hdBytes g])
  have hzA' : ∀ z ∈ addL A (sealOf 6 [hdBytes h]) (preimage 6 [hdBytes h]), z.2.length ≤ 200 := fun z hz => by
    rcases addL_mem hz with hz | hz
    · exact hzA z hz
    · rw [hz]; exact l1
  have hzB' : ∀ z ∈ addL B (sealOf 6 [hdBytes g]) (preimage 6 [hdBytes g]), z.2.length ≤ 200 := fun z hz => by
    rcases addL_mem hz with hz | hz
    · exact hzB z hz
    · rw [hz]; exact l2
  have h200 : (a2_l.length : Int) ≤ 200 ∧ (a2_l.length : Int) ≤ (a3_m.length : Int) := by omega
  rw [bof, bof]
  refine ⟨fun hlt => ?_, fun hge => ?_⟩
  · refine ⟨⟨h0, hlt⟩, ⟨h0, hlt⟩, ⟨h0, hlt⟩, room _ _ (by omega), fun _ => ⟨⟨h0, by omega⟩, ⟨h0, by omega⟩, ⟨h0, by omega⟩, room _ _ (by omega), fun _ => ⟨fun hsame => ⟨by omega, ?_, by show ((a2_l.length : Int) - (i + 1)).toNat < ((a2_l.length : Int) - i).toNat; omega⟩, fun hsame => ⟨by omega, ?_, by show ((a2_l.length : Int) - (i + 1)).toNat < ((a2_l.length : Int) - i).toNat; omega⟩⟩⟩⟩
    · exact ⟨_, _, _, _, rfl, rfl, by omega, by omega, by omega, by omega, hzA', hzB', fun h => of_decide_eq_true h, fun hn he => decide_eq_true he⟩
    · refine ⟨_, _, _, _, rfl, rfl, by omega, by omega, by omega, by omega, hzA', hzB', (by simp), fun hn he => ?_⟩
      have hp : sealOf 6 [hdBytes h] = sealOf 6 [hdBytes g] := congrArg (fun z : Hd => z.2.1) he
      obtain ⟨hn2, hhg⟩ := step h g A B hw hv hn hp
      have := hs2 hn2 hhg
      rw [hsame] at this
      exact this
  · simp only [fz]
    have hc := clash_two (addL A (sealOf 6 [hdBytes h]) (preimage 6 [hdBytes h])) (addL B (sealOf 6 [hdBytes g]) (preimage 6 [hdBytes g])) (IntKind.i64.wrap (c + 1)) (IntKind.i64.wrap (d + 1))
    have en : notesF [frzB (some (addL A (sealOf 6 [hdBytes h]) (preimage 6 [hdBytes h]), IntKind.i64.wrap (c + 1))), frzB (some (addL B (sealOf 6 [hdBytes g]) (preimage 6 [hdBytes g]), IntKind.i64.wrap (d + 1)))] = addL A (sealOf 6 [hdBytes h]) (preimage 6 [hdBytes h]) ++ addL B (sealOf 6 [hdBytes g]) (preimage 6 [hdBytes g]) := by simp [notesF, frzB]
    refine ⟨room _ _ (by omega), fun _ => ⟨room _ _ (by omega), fun _ => ⟨⟨by rw [en, List.length_append]; omega, fun z hz => ?_⟩, fun _ _ => ?_⟩⟩⟩
    · rw [en] at hz
      rcases List.mem_append.1 hz with hz | hz
      · have := hzA' z hz; omega
      · have := hzB' z hz; omega
    · generalize clashA _ = C at hc ⊢
      refine ⟨fun he => ⟨fun _ => (by first | rfl | trivial), fun _ => ⟨fun _ => (by first | rfl | trivial), fun hsame => ⟨fun hb => ⟨fun _ => (by first | rfl | trivial), fun hn => absurd (hc.1 hb) hn⟩, fun hb => ?_⟩⟩⟩, fun hne => ⟨fun _ => ⟨fun _ => (by first | rfl | trivial), fun h => absurd h hne⟩, fun hsame => absurd (by rw [hs1 hsame]) hne⟩⟩
      obtain ⟨hn2, hhg⟩ := step h g A B hw hv (hc.2 hb) he
      have := hs2 hn2 hhg
      rw [hsame] at this
      exact this
theorem ChainLinks_eq : (∀ a, ChainLinks_C.pre a → PM.wfP ChainLinks_C.pm a (fvc ChainLinks_X 200 11 ChainLinks_C a (eqO ChainLinks_C a))) = (∀ a : (Int × (List UInt8) × (List UInt8) × (List UInt8) × (List UInt8) × List UInt8) × (Int × (List UInt8) × (List UInt8) × (List UInt8) × (List UInt8) × List UInt8) × (List ((List UInt8) × (List UInt8) × List UInt8)) × (List ((List UInt8) × (List UInt8) × List UInt8)) × Unit, True → (Ty.kd (.pr (.int .u64) (.pr (.arr 32 .byte) (.pr (.arr 32 .byte) (.pr (.arr 32 .byte) (.pr (.arr 32 .byte) (.arr 32 .byte))))))).wf a.1 → (Ty.kd (.pr (.int .u64) (.pr (.arr 32 .byte) (.pr (.arr 32 .byte) (.pr (.arr 32 .byte) (.pr (.arr 32 .byte) (.arr 32 .byte))))))).wf a.2.1 → (Ty.kd (.sl (.pr (.arr 32 .byte) (.pr (.arr 32 .byte) (.arr 32 .byte))))).wf a.2.2.1 → (Ty.kd (.sl (.pr (.arr 32 .byte) (.pr (.arr 32 .byte) (.arr 32 .byte))))).wf a.2.2.2.1 → ChainLinks_VC a.1 a.2.1 a.2.2.1 a.2.2.2.1 (fun o0 => o0 = true)) := by kernel_rfl
theorem ChainLinks_k : ChainLinks_C.valid Try.prog 11 := ctr_of (X := ChainLinks_X) (ok_of seat_ok (fun b hb => by cases hb; exact bkT_ok) fns_ok ⟨awake15_k, CNextN_k, CNext_k, CDigestN_k, CDigest_k, Clash_k, trivial⟩) 200 (ChainLinks_eq.mpr fun a hp w_0 w_1 w_2 w_3 => @ChainLinks_ok a.1 a.2.1 a.2.2.1 a.2.2.2.1 w_0 w_1 w_2 w_3)
end Go.Proofs.Ytfbhiilolpamaaa

/-
  PLAIN 7: what the arguments of a statement are, told in the kinds of BASE: each argument that can be read is of its kind, over the ghost of the whole heap.
-/
set_option linter.unusedVariables false
namespace Go.Proofs.Ytfbhiilolpamaaa
open Go Go.RowKit Go.Inc Go.ChangeShapes Go.WideShapes Go.ChangeAt

theorem one_le {H : Type} (d : DataW H) : 1 ≤ Rows.uptoBulk d := by
  cases d with
  | lit l => cases l <;> simp [Rows.uptoBulk]
  | nil => simp [Rows.uptoBulk]
  | ptr d => simp [Rows.uptoBulk]
  | slice elems spare => simp [Rows.uptoBulk]
  | agg parts => simp [Rows.uptoBulk]
  | iface t d => simp [Rows.uptoBulk]
  | map entries => simp [Rows.uptoBulk]
  | held h => simp [Rows.uptoBulk]
theorem part_le {H : Type} {d : DataW H} {l : List (DataW H)} (h : d ∈ l) : Rows.uptoBulk d ≤ Rows.uptoBulkAll l := by
  induction l with
  | nil => cases h
  | cons x r ih =>
    simp only [Rows.uptoBulkAll]
    cases List.mem_cons.1 h with
    | inl e => subst e; omega
    | inr e => have := ih e; omega
theorem length_le {H : Type} (l : List (DataW H)) : l.length ≤ Rows.uptoBulkAll l := by
  induction l with
  | nil => simp [Rows.uptoBulkAll]
  | cons x r ih => have := one_le x; simp only [Rows.uptoBulkAll, List.length_cons]; omega
theorem small_of {H : Type} {l : List (DataW H)} (hk : Rows.uptoSmall H l = true) : Rows.uptoBulkAll l ≤ 1048576 := by
  simpa [Rows.uptoSmall] using hk

/-- the whole heap's rows, as they are -/
def GhostW (w : World) : Ghost := fun b => match w.heap[b]? with
  | some (.cells c t _) => some (t, c.toList)
  | _ => none
theorem Models.ofW (w : World) : Models w (GhostW w) := fun b t l h => by
  unfold GhostW at h
  split at h
  · rename_i c t' fr hh
    cases h
    exact ⟨c, fr, hh, List.prefix_refl _⟩
  · cases h
section
variable {P : Program} {α β : Type} {k : Kd α} {k' : Kd β} {t e : TypeId} {by_ : Nat} {S : α → Prop} {S' : β → Prop}
/-- so great a thing may be: every list has at most 1048576 members -/
def sm0 {α : Type} : α → Prop := fun _ => True
def smL {α : Type} (S : α → Prop) : List α → Prop := fun l => l.length ≤ 1048576 ∧ ∀ x ∈ l, S x
def smP {α β : Type} (S : α → Prop) (T : β → Prop) : α × β → Prop := fun x => S x.1 ∧ T x.2
def smO {α : Type} (S : α → Prop) : Option α → Prop := fun x => ∀ y, x = some y → S y
/-- Whatever can be read at type t, within the bound, is of kind k (and not too great). -/
def Rds (P : Program) (t : TypeId) (k : Kd α) (S : α → Prop) : Prop := ∀ (H : Type) (enc : TypeId × Value → H) (w : World) (base : Nat) (held : Bool) (fuel : Nat) (cs : List Value) (x : DataW H × List MemPlace),
  DataW.trod enc P w base (fun _ => true) held fuel t cs = some x → Rows.uptoBulk x.1 ≤ 1048576 → ∃ a, k.R (GhostW w) a cs ∧ S a
theorem cellsOf_ty (h : TyOk P t k by_) : P.cellsOf t = k.sz := by
  obtain ⟨i, z, hi, hs, _⟩ := h.info
  simp [Program.cellsOf, hi, hs]
theorem rds_int {ik : IntKind} (ht : P.underlying t = some (.int ik)) : Rds P t (Kd.int ik) sm0 := fun H enc w base held fuel cs x h hb => by
  obtain ⟨n, rfl, _, hw⟩ := DataW.trod_int ht h
  refine ⟨n, ⟨rfl, ?_⟩, trivial⟩
  simpa [Lit.wf] using hw
theorem rds_byte (ht : P.underlying t = some (.int .u8)) : Rds P t Kd.byte sm0 := fun H enc w base held fuel cs x h hb => by
  obtain ⟨n, rfl, _, hw⟩ := DataW.trod_int ht h
  have hw : 0 ≤ n ∧ n ≤ 255 := by simpa [Lit.wf, IntKind.min, IntKind.max, IntKind.signed, IntKind.bits] using hw
  refine ⟨UInt8.ofNat n.toNat, ?_, trivial⟩
  show [Value.int .u8 n] = [.int .u8 _]
  congr 2
  have : (UInt8.ofNat n.toNat).toNat = n.toNat := by simp; omega
  omega
theorem rds_bool (ht : P.underlying t = some .bool) : Rds P t Kd.bool sm0 := fun H enc w base held fuel cs x h hb => by
  obtain ⟨b, rfl, _⟩ := DataW.trod_bool ht h
  exact ⟨b, rfl, trivial⟩
theorem rds_str (ht : P.underlying t = some .string) : Rds P t Kd.str (smL sm0) := fun H enc w base held fuel cs x h hb => by
  obtain ⟨s, rfl, rfl, _⟩ := DataW.trod_string ht h
  simp only [Rows.uptoBulk] at hb
  exact ⟨s.data.toList, ⟨by simp, by simp only [LM]; omega⟩, by omega, fun _ _ => trivial⟩
/-- so many cells, one after another -/
theorem ghost_cells {w : World} {base n : Nat} {a : Addr} {cs : List Value} (h : w.cells? base a n = some cs) (hn : 0 < n) :
    a.spot = none ∧ ∃ e l, GhostW w a.block = some (e, l) ∧ a.off + n ≤ l.length ∧ (l.drop a.off).take n = cs := by
  unfold World.cells? at h
  split at h
  case isFalse => cases h
  case isTrue hb =>
  have hl := mapM_some_length h
  have hg := fun i (hi : i < n) => mapM_some_get h i i (by simp [hi])
  have h0 := hg 0 hn
  have hc0 : 0 < cs.length := by rw [hl]; simpa using hn
  rw [List.getElem?_eq_getElem hc0] at h0
  unfold World.cell? at h0
  have ea : ∀ i, (a.add i).block = a.block := fun i => by unfold Addr.add; split <;> rfl
  have eo : ∀ i, (a.add i).off = a.off + i := fun i => by unfold Addr.add; split <;> simp_all
  have ha0 : a.add 0 = a := by simp [Addr.add]
  rw [ha0] at h0
  cases hh : w.heap[a.block]? with
  | none => rw [hh] at h0; cases h0
  | some o =>
    rw [hh] at h0
    cases o with
    | cells c e fr =>
      simp only at h0
      split at h0
      · cases h0
      · rename_i hs
        have hs : a.spot = none := by simpa using hs
        refine ⟨hs, e, c.toList, by simp [GhostW, hh], ?_⟩
        have hgc : ∀ i, i < n → c[a.off + i]? = cs[i]? := fun i hi => by
          have := hg i hi
          unfold World.cell? at this
          rw [ea, eo, hh] at this
          have hs' : (a.add i).spot.isSome = false := by unfold Addr.add; split <;> simp_all
          simpa [hs'] using this
        have hlen : cs.length = n := by rw [hl]; simp
        have hbound : a.off + n ≤ c.toList.length := by
          have h1 := hgc (n - 1) (by omega)
          rw [List.getElem?_eq_getElem (by omega)] at h1
          have := (Array.getElem?_eq_some_iff.1 h1).1
          simp only [Array.length_toList]
          omega
        refine ⟨hbound, ?_⟩
        apply List.ext_getElem?
        intro i
        rcases Nat.lt_or_ge i n with hi | hi
        · rw [List.getElem?_take, if_pos hi, List.getElem?_drop, ← hgc i hi]
          simp
        · rw [List.getElem?_take, if_neg (by omega), List.getElem?_eq_none (by omega)]
    | _ => simp at h0
theorem RL_flat {R : α → List Value → Prop} : ∀ (n : Nat) (f : Nat → List Value), (∀ i, i < n → ∃ a, R a (f i) ∧ S a) → ∃ l, l.length = n ∧ RL R l ((List.range n).map f).flatten ∧ ∀ x ∈ l, S x
  | 0, f, _ => ⟨[], rfl, by simp [RL], by simp⟩
  | n + 1, f, h => by
    obtain ⟨l, hl, hR, hS⟩ := RL_flat n f (fun i hi => h i (by omega))
    obtain ⟨a, ha, hs⟩ := h n (by omega)
    refine ⟨l ++ [a], by simp [hl], ?_, fun x hx => (List.mem_append.1 hx).elim (hS x) (fun h => by rw [List.mem_singleton.1 h]; exact hs)⟩
    rw [List.range_succ]
    simp only [List.map_append, List.map_cons, List.map_nil, List.flatten_append, List.flatten_cons, List.flatten_nil, List.append_nil]
    exact RL.append hR (RL.single ha)
/-- a list cut into n parts of s each -/
theorem parts_flat (s : Nat) : ∀ (n : Nat) (l : List Value), n * s ≤ l.length → ((List.range n).map fun i => (l.drop (i * s)).take s).flatten = l.take (n * s)
  | 0, l, _ => by simp
  | n + 1, l, h => by
    have e : (n + 1) * s = n * s + s := Nat.succ_mul n s
    rw [List.range_succ]
    simp only [List.map_append, List.map_cons, List.map_nil, List.flatten_append, List.flatten_cons, List.flatten_nil, List.append_nil]
    rw [parts_flat s n l (by omega), e, List.take_add]
theorem rds_sl (ht : P.underlying t = some (.slice e)) (hT : TyOk P e k by_) (h0 : Nat.blt 0 k.sz = true) (hR : Rds P e k S) : Rds P t (Kd.sl k) (smL S) := fun H enc w base held fuel cs x h hb => by
  have h0 : 0 < k.sz := Nat.le_of_ble_eq_true h0
  rcases DataW.trod_slice ht h with ⟨rfl, rfl⟩ | ⟨a, len, cap, elems, rest, n, _, rfl, rfl, hbs, hl, hm, hlen, hel, _, _⟩
  · exact ⟨[], ⟨none, 0, rfl, by simp, by simp [LM], by simp, .inl rfl⟩, by simp, by simp⟩
  · rw [cellsOf_ty hT] at hel
    have hbulk : elems.length ≤ 1048576 := by
      have := length_le (elems.map (·.1))
      simp only [Rows.uptoBulk, List.length_map] at hb this
      omega
    have hparts : ∀ i, i < len → ∃ cs' y, w.cells? base (a.add (i * k.sz)) k.sz = some cs' ∧ DataW.trod enc P w base (fun _ => true) held n e cs' = some y ∧ Rows.uptoBulk y.1 ≤ 1048576 := fun i hi => by
      have h1 := hel i hi
      rw [List.getElem?_eq_getElem (by omega)] at h1
      obtain ⟨cs', h2, h3⟩ := Option.bind_eq_some_iff.1 h1
      refine ⟨cs', _, h2, h3, ?_⟩
      have := part_le (l := elems.map (·.1)) (d := (elems[i]'(by omega)).1) (List.mem_map.2 ⟨_, List.getElem_mem _, rfl⟩)
      simp only [Rows.uptoBulk] at hb
      omega
    rcases Nat.eq_zero_or_pos len with hz | hp
    · exact ⟨[], ⟨some a, cap, by simp [hz], by simp, by simp [LM], by simp, .inl rfl⟩, by simp, by simp⟩
    · obtain ⟨cs0, y0, hc0, _, _⟩ := hparts 0 hp
      rw [Nat.zero_mul, show a.add 0 = a by simp [Addr.add]] at hc0
      obtain ⟨hs, e', l, hg, _, _⟩ := ghost_cells hc0 h0
      have ea : a = ⟨a.block, a.off, none⟩ := by cases a; simp_all
      have key : ∀ i, i < len → a.off + i * k.sz + k.sz ≤ l.length ∧ w.cells? base (a.add (i * k.sz)) k.sz = some (((l.drop a.off).drop (i * k.sz)).take k.sz) := fun i hi => by
        obtain ⟨cs', y, hc, _, _⟩ := hparts i hi
        obtain ⟨_, e2, l2, hg2, hle, htk⟩ := ghost_cells hc h0
        rw [ea, add_lit] at hg2 hle htk
        simp only at hg2 hle htk
        rw [hg] at hg2
        cases hg2
        refine ⟨hle, ?_⟩
        rw [hc, List.drop_drop, ← htk]
      have hlast := (key (len - 1) (by omega)).1
      have hall : a.off + len * k.sz ≤ l.length := by
        have : len * k.sz = (len - 1) * k.sz + k.sz := by
          conv => lhs; rw [show len = (len - 1) + 1 by omega]
          exact Nat.succ_mul _ _
        omega
      obtain ⟨xs, hxl, hxR, hxS⟩ := RL_flat (S := S) (R := k.R (GhostW w)) len (fun i => ((l.drop a.off).drop (i * k.sz)).take k.sz) (fun i hi => by
        obtain ⟨cs', y, hc, ht', hb'⟩ := hparts i hi
        rw [(key i hi).2] at hc
        cases hc
        exact hR _ _ _ _ _ _ _ _ ht' hb')
      rw [parts_flat k.sz len (l.drop a.off) (by rw [List.length_drop]; omega)] at hxR
      refine ⟨xs, ⟨some a, cap, by rw [hxl], by omega, by simp only [LM]; omega, fun x hx => ?_, .inr ⟨a.block, e', l.take a.off, (l.drop a.off).take (len * k.sz), (l.drop a.off).drop (len * k.sz), ?_, ?_, hxR⟩⟩, by omega, hxS⟩
      · exact RL.all (p := k.wf) (fun _ _ => k.hwf) hxR x hx
      · rw [List.length_take, Nat.min_eq_left (by omega)]
        exact congrArg some ea
      · rw [hg, List.append_assoc, List.take_append_drop, List.take_append_drop]
theorem rds_arr {n by_' : Nat} (ht : P.underlying t = some (.array n e)) (hT : TyOk P e k by_) (hT' : TyOk P t (Kd.arr n k) by_') (hR : Rds P e k S) : Rds P t (Kd.arr n k) (smL S) := fun H enc w base held fuel cs x h hb => by
  obtain ⟨xs, m, _, rfl, hlen, hxl, hx⟩ := DataW.trod_array ht h
  rw [cellsOf_ty hT] at hx
  rw [cellsOf_ty hT'] at hlen
  have hlen : cs.length = n * k.sz := hlen
  obtain ⟨l, hl, hlR, hlS⟩ := RL_flat (S := S) (R := k.R (GhostW w)) n (fun i => (cs.drop (i * k.sz)).take k.sz) (fun i hi => by
    have h1 := hx i hi
    rw [List.getElem?_eq_getElem (by omega)] at h1
    refine hR _ _ _ _ _ _ _ _ h1 ?_
    have := part_le (l := xs.map (·.1)) (d := (xs[i]'(by omega)).1) (List.mem_map.2 ⟨_, List.getElem_mem _, rfl⟩)
    simp only [Rows.uptoBulk] at hb
    omega)
  rw [parts_flat k.sz n cs (by omega), List.take_of_length_le (by omega)] at hlR
  have hbulk : xs.length ≤ 1048576 := by
    have := length_le (xs.map (·.1))
    simp only [Rows.uptoBulk, List.length_map] at hb this
    omega
  exact ⟨l, ⟨hl, hlR⟩, by omega, hlS⟩
/-- the fields fs, read out of cs from off on, are of kind k -/
def RdsF (P : Program) (fs : List Field) (off : Nat) (k : Kd α) (S : α → Prop) : Prop := ∀ (H : Type) (enc : TypeId × Value → H) (w : World) (base : Nat) (held : Bool) (fuel : Nat) (cs : List Value),
  (∀ f ∈ fs, ∃ x : DataW H × List MemPlace, DataW.trod enc P w base (fun _ => true) held fuel f.type ((cs.drop f.offset).take (P.cellsOf f.type)) = some x ∧ Rows.uptoBulk x.1 ≤ 1048576) → ∃ a, k.R (GhostW w) a ((cs.drop off).take k.sz) ∧ S a
theorem rdsF_one {f : Field} {off : Nat} (hT : TyOk P f.type k by_) (ho : Nat.beq f.offset off = true) (hR : Rds P f.type k S) : RdsF P [f] off k S := fun H enc w base held fuel cs h => by
  obtain ⟨x, h1, h2⟩ := h f (.head _)
  rw [Nat.eq_of_beq_eq_true ho, cellsOf_ty hT] at h1
  exact hR _ _ _ _ _ _ _ _ h1 h2
theorem rdsF_cons {fs : List Field} {f : Field} {off : Nat} (hT : TyOk P f.type k by_) (ho : Nat.beq f.offset off = true) (hR : Rds P f.type k S) (hF : RdsF P fs (off + k.sz) k' S') : RdsF P (f :: fs) off (Kd.pr k k') (smP S S') := fun H enc w base held fuel cs h => by
  obtain ⟨b, hb, hbS⟩ := hF H enc w base held fuel cs (fun f hf => h f (.tail _ hf))
  obtain ⟨x, h1, h2⟩ := h f (.head _)
  rw [Nat.eq_of_beq_eq_true ho, cellsOf_ty hT] at h1
  obtain ⟨a, ha, haS⟩ := hR _ _ _ _ _ _ _ _ h1 h2
  refine ⟨(a, b), ⟨_, _, ?_, ha, hb⟩, haS, hbS⟩
  show (cs.drop off).take (k.sz + k'.sz) = _
  rw [List.take_add, List.drop_drop]
theorem rdsF_st {fs : List Field} {off : Nat} (hF : RdsF P fs off k S) : RdsF P fs off (Kd.st k) S := hF
theorem rds_struct {fs : Array Field} (ht : P.underlying t = some (.struct fs)) (hT : TyOk P t k by_) (hF : RdsF P fs.toList 0 k S) : Rds P t k S := fun H enc w base held fuel cs x h hb => by
  obtain ⟨xs, n, _, rfl, hlen, hxl, hx⟩ := DataW.trod_struct ht h
  rw [cellsOf_ty hT] at hlen
  obtain ⟨a, ha, haS⟩ := hF H enc w base held n cs (fun f hf => by
    obtain ⟨i, hi, rfl⟩ := List.getElem_of_mem hf
    have hi' : i < fs.size := by simpa using hi
    have h1 := hx i fs[i] (by simp [hi'])
    rw [List.getElem?_eq_getElem (by omega)] at h1
    refine ⟨xs[i]'(by omega), by simpa using h1, ?_⟩
    have := part_le (l := xs.map (·.1)) (d := (xs[i]'(by omega)).1) (List.mem_map.2 ⟨_, List.getElem_mem _, rfl⟩)
    simp only [Rows.uptoBulk] at hb
    omega)
  rw [List.drop_zero, List.take_of_length_le (by omega)] at ha
  exact ⟨a, ha, haS⟩
theorem rds_ptr (ht : P.underlying t = some (.pointer e)) (hT : TyOk P e k by_) (h0 : Nat.blt 0 k.sz = true) (hR : Rds P e k S) : Rds P t (Kd.ptr k) (smO S) := fun H enc w base held fuel cs x h hb => by
  have h0 : 0 < k.sz := Nat.le_of_ble_eq_true h0
  rcases DataW.trod_pointer ht h with ⟨rfl, rfl⟩ | ⟨a, cs', y, n, _, rfl, rfl, hc, hy⟩
  · exact ⟨none, rfl, fun y h => by cases h⟩
  · rw [cellsOf_ty hT] at hc
    simp only [Rows.uptoBulk] at hb
    obtain ⟨b, hb', hbS⟩ := hR _ _ _ _ _ _ _ _ hy (by omega)
    obtain ⟨hs, e', l, hg, hle, htk⟩ := ghost_cells hc h0
    refine ⟨some b, ⟨_, rfl, a.block, e', l.take a.off, cs', (l.drop a.off).drop k.sz, ?_, ?_, hb'⟩, fun y h => by cases h; exact hbS⟩
    · rw [List.length_take, Nat.min_eq_left (by omega)]
      cases a; simp_all
    · rw [hg, ← htk, List.append_assoc, List.take_append_drop, List.take_append_drop]

/-- an argument, opened -/
theorem open_arg {H : Type} {enc : TypeId × Value → H} {w : World} {r : Reach} {b0 base : Nat} {held : Bool} {v : Value} {d : DataW H} {ps : List MemPlace} (hR : Rds P t k S) (hT : TyOk P t k by_)
    (hval : Value.okWide P w r b0 t v) (h : DataW.Trod enc P w base (fun _ => true) held t v d ps) (hb : Rows.uptoBulk d ≤ 1048576) : ∃ a, k.V (GhostW w) a v ∧ S a := by
  obtain ⟨fuel, h⟩ := h
  obtain ⟨a, ha, haS⟩ := hR _ _ _ _ _ _ _ _ h hb
  refine ⟨a, ⟨v.cells.toList, ha, ?_⟩, haS⟩
  obtain ⟨dd, hd, hagg⟩ := hT.desc
  unfold Value.okWide at hval
  rw [hd] at hval
  cases hk : k.agg with
  | true =>
    rw [hk] at hagg
    have : ∃ cs, v = .agg cs := by
      cases dd <;> first | (cases hagg; done) | (obtain ⟨cs, rfl, _⟩ := hval; exact ⟨cs, rfl⟩)
    obtain ⟨cs, rfl⟩ := this
    simp [Value.cells]
  | false =>
    have hlen := k.len ha
    rw [k.hs hk] at hlen
    have hna : ∀ cs, v ≠ .agg cs := fun cs e => by
      subst e
      rw [hk] at hagg
      cases dd <;> first | (cases hagg; done) | (simp [Cell.okWide, hd, Cell.ok] at hval)
    cases v <;> first | rfl | exact absurd rfl (hna _)
end
section
variable {H : Type} {enc : TypeId × Value → H} {P : Program}
theorem below_of {w w' : World} {K K' : Ghost} (h : Ext NX w K w' K') : Below w.heap.size w w' := ⟨h.os, h.tape, h.output, h.size, fun b hb => h.heap b hb (fun x => x)⟩
theorem trodAll_same {W W' : World} {sp : Nat → Bool} (hl : laidOutB P = true) (hb : Below W.heap.size W W') : ∀ {ts : List TypeId} {vs : List Value} {ds : List (DataW H)} {ps : List MemPlace},
    (ts.all fun t => P.readableRec t && decide (t < P.types.size)) = true → DataW.TrodAll enc P W 0 (fun _ => true) true ts vs ds ps → (∀ p ∈ ps, p.block < W.heap.size) → (∀ p ∈ ps, sp p.block = true) → DataW.TrodAll enc P W' 0 sp true ts vs ds ps
  | [], [], [], ps, _, h, _, _ => h
  | t :: ts, v :: vs, d :: ds, ps, hr, ⟨p, q, h1, h2, e⟩, hlt, hs => by
    subst e
    simp only [List.all_cons, Bool.and_eq_true, decide_eq_true_eq] at hr
    exact ⟨p, q, WideElems.Trod_stays hl hr.1.1 hr.1.2 h1 (fun x hx => hb.same (hlt x (List.mem_append.2 (.inl hx)))) (fun x hx => hs x (List.mem_append.2 (.inl hx))),
      trodAll_same hl hb (ts := ts) hr.2 h2 (fun x hx => hlt x (List.mem_append.2 (.inr hx))) (fun x hx => hs x (List.mem_append.2 (.inr hx))), rfl⟩
  | [], _ :: _, _, _, _, h, _, _ => h.elim
  | [], [], _ :: _, _, _, h, _, _ => h.elim
  | _ :: _, [], _, _, _, h, _, _ => h.elim
  | _ :: _, _ :: _, [], _, _, h, _, _ => h.elim
/-- the end of a law's call: true, and all that was there is as it was -/
theorem post_true {f : Func} {s : ChangeSpec} {apart fresh handsOn again : Bool} {W W' : World} {args : Array Value} {ds gs : List (DataW H)} {before : List MemPlace} {tb : TypeId}
    (hW : DataW.Whole enc P f.params.toList s.vars apart W args.toList ds gs before) (hl : laidOutB P = true) (hr : (f.params.toList.all fun t => P.readableRec t && decide (t < P.types.size)) = true)
    (hrt : f.resultTypes = #[tb]) (htb : P.underlying tb = some .bool) (hs : s.vars = []) (hv : (s.fn H (ds ++ gs)).vars = []) (hres : (s.fn H (ds ++ gs)).results = [.lit (.bool true)]) (hargs : (s.fn H (ds ++ gs)).args = ds)
    (hb : Below W.heap.size W W') : s.post enc P f apart fresh handsOn again W args (.bool true) W' := by
  have hlt : ∀ p ∈ before, p.block < W.heap.size := fun p hp => hW.lt p hp
  have hW' := hW
  obtain ⟨p, q, hA, hV, e, hz, hn⟩ := hW'
  rw [hs] at hV
  have hq : q = [] ∧ gs = [] := by
    cases gs with
    | nil => exact ⟨hV, rfl⟩
    | cons g r => exact hV.elim
  obtain ⟨rfl, rfl⟩ := hq
  rw [List.append_nil] at e
  subst e
  have ht : ∀ (b : Nat) (sp : Nat → Bool) (hd : Bool), DataW.TrodAll enc P W' b sp hd f.resultTypes.toList ((Value.bool true).resultList f.resultTypes.size) (s.fn H (ds ++ [])).results [] := fun b sp hd => by
    rw [hres, hrt]
    exact ⟨[], [], shut_bool htb _, rfl, rfl⟩
  have ha : ∀ sp : Nat → Bool, (∀ p ∈ before, sp p.block = true) → DataW.TrodAll enc P W' 0 sp true f.params.toList args.toList (s.fn H (ds ++ [])).args before := fun sp hsp => by
    rw [hargs]
    exact trodAll_same hl hb hr hA hlt hsp
  have hvs : ∀ sp : Nat → Bool, DataW.TrodVars enc P W' sp s.vars (s.fn H (ds ++ [])).vars [] := fun sp => by
    rw [hs, hv]
    rfl
  have hold : ∀ p ∈ before, (fun b => decide (b < W.heap.size)) p.block = true := fun p hp => by simpa using hlt p hp
  refine ⟨ds, [], before, [], before, [], hW, ht _ _ _, ha _ hold, hvs _, World.keptBut_mono (fun p hp => ⟨hp, ?_⟩) (hb.frame (· ∈ before)), fun _ => ?_⟩
  · exact Or.inr (by simpa using hp)
  · refine ⟨?_, _, _, ([] ++ before) ++ [], ⟨[] ++ before, [], trodAll_append (ha _ (fun _ _ => rfl)) (ht _ _ _), hvs _, rfl, ?_, ?_⟩, ?_⟩
    · exact ok_one hrt rfl (okWide_bool_mk htb _)
    · intro b off hp
      have hin : MemPlace.cell b off ∈ before := by simpa using hp
      rw [hb.frozen (hlt _ hin)]
      exact hz b off hin
    · intro hap
      simpa using hn hap
    · intro p hp _
      simpa using hp
end
end Go.Proofs.Ytfbhiilolpamaaa
