/- P20, P14, G1, K1, S1, S2, S3, K2, G2, K3, S4. -/
import Derived.Test.YtmjjkpiglbpkhaaM4
import Derived.Test.YtmjjkpiglbpkhaaM1
import Derived.Test.YtmjjkpiglbpkhaaChecked
set_option linter.unusedVariables false
namespace Go.Inc
open Go
def qbj (x : qak) : Prop := ∀ y, x = some y → ∀ z ∈ y.1, z.2.length ≤ 1048576
theorem qbj.of {x : qak} {k : Int} {p : List (List UInt8)} (h : qbj x) (hp : qaj p ≤ 1048575) : qbj (qaC x k p) := fun y hy z hz => by
 cases x with
 | none => cases hy
 | some u =>
   cases hy
   rcases qlW hz with hz | hz
   ·exact h u rfl z hz
   ·rw [hz]
    have := qcI k (l := p) (by omega)
    exact Nat.le_trans this (by omega)
theorem qbj.of2 {x : qak} {k : Int} {a b : List UInt8} (h : qbj x) (hp : a.length + b.length ≤ 1000000) : qbj (qaC x k [a, b]) := h.of (by simp [qaj]; omega)
theorem qbj.root : ∀ (k : Nat) {l : List Sm} {x : qak}, l.length ≤ k → (∀ z ∈ l, z.length = 32) → qbj x → qbj (qaV x l)
 | 0, l, x, hk, hl, h => by
   obtain rfl : l = [] := List.length_eq_zero_iff.1 (by omega)
   rw [qbe]; exact h.of (by simp [qaj])
 | k + 1, l, x, hk, hl, h => by
   rcases Nat.lt_or_ge l.length 2 with h2 | h2
   ·match l, h2 with
    | [], _ => rw [qbe]; exact h.of (by simp [qaj])
    | [a], _ => rw [qbV]; exact h
   ·have a1 := qaZ h2
    have a2 := qbg h2
    have w1 : ∀ z ∈ l.take (half l.length), z.length = 32 := fun z hz => hl z (List.mem_of_mem_take hz)
    have w2 : ∀ z ∈ l.drop (half l.length), z.length = 32 := fun z hz => hl z (List.mem_of_mem_drop hz)
    rw [qbG x h2]
    exact (qbj.root k (by simp only [List.length_drop]; omega) w2 (qbj.root k (by simp only [List.length_take]; omega) w1 h)).of2 (by rw [qbB w1, qbB w2]; omega)
theorem qbj.foldK : ∀ {A : List Int} {P : List Sm} {s : Sm} {x : qak}, s.length = 32 → (∀ z ∈ P, z.length = 32) → qbj x → qbj (foldK A P s x)
 | [], P, s, x, hs, hp, h => by simpa [Go.Inc.foldK] using h
 | _ :: _, [], s, x, hs, hp, h => by simpa [Go.Inc.foldK] using h
 | a :: A, p :: P, s, x, hs, hp, h => by
   have hp1 := hp p List.mem_cons_self
   have hp2 : ∀ z ∈ P, z.length = 32 := fun z hz => hp z (List.mem_cons_of_mem _ hz)
   simp only [Go.Inc.foldK]
   split
   ·exact qbj.foldK (qaS _ _) hp2 (h.of2 (by omega))
   ·exact qbj.foldK (qaS _ _) hp2 (h.of2 (by omega))
theorem qbj.leaves : ∀ {l : List Pk} {x : qak}, (∀ p ∈ l, p.1.length + p.2.length ≤ 1000000) → qbj x → qbj (qaR x l)
 | [], x, hl, h => h
 | p :: l, x, hl, h => qbj.leaves (l := l) (fun q hq => hl q (List.mem_cons_of_mem _ hq)) (h.of2 (hl p List.mem_cons_self))
theorem qbj.leadK {n a : Int} {P : List Sm} {s : Sm} {x : qak} (hs : s.length = 32) (hp : ∀ z ∈ P, z.length = 32) (h : qbj x) : qbj (leadK x n a s P) := by
 unfold Go.Inc.leadK
 split
 ·exact qbj.foldK hs hp h
 ·exact h
theorem qah.leadK {n a : Int} {P : List Sm} {s : Sm} {x : qak} {m : Nat} (h : qah x (m + P.length)) : qah (leadK x n a s P) m := by
 unfold Go.Inc.leadK
 split
 ·exact qah.foldK h
 ·exact h.le (by omega)
def okSp (x : Sp) : Prop := x.2.1.1.length + x.2.1.2.length ≤ 100000 ∧ x.2.2.length ≤ 100 ∧ ∀ z ∈ x.2.2, z.length = 32
theorem qnr {l : List Pk} {key : By} {m : Nat} (hl : l.length ≤ 65536) (hs : ∀ p ∈ l, p.1.length + p.2.length ≤ m) : ∀ x ∈ (qaI l key).2, x.2.1.1.length + x.2.1.2.length ≤ m ∧ x.2.2.length ≤ 65536 := fun x hx => by
 unfold qaI at hx
 split at hx
 ·obtain ⟨i, hi, rfl⟩ := List.mem_map.1 hx
  have hi := List.mem_range'_1.1 hi
  have ht : toK l key ≤ l.length := by unfold toK; omega
  have hlt : i < l.length := by omega
  have hp := qpL (l := qao l) (a := (i : Int)) (by rw [qaP]; omega)
  refine ⟨?_, by show (qbP _ _).length ≤ _; omega⟩
  show (ix l (i : Int)).1.length + (ix l (i : Int)).2.length ≤ m
  rw [ixN hlt]
  exact hs _ (List.getElem_mem hlt)
 ·cases hx
theorem tells {l : List Pk} {key : By} (hm : mayK l = true) : qbw (qa2 l) key (qaI l key) = 0 ∧ qcC (qa2 l) key (qaI l key) = (qcA l key).2 ∧ qcf (qa2 l) key (qaI l key) = (qcA l key).1 := by
 obtain ⟨h1, h2⟩ := qns (key := key) hm
 rw [qic hm]
 unfold qbw qcC qcf
 rw [h1]
 cases hi : isK l key with
 | false => exact ⟨rfl, rfl, rfl⟩
 | true =>
   rw [h2 hi]
   exact ⟨rfl, rfl, rfl⟩
theorem binds {l : List Pk} {key : By} {s : Sn} {A B : List Nt × Int} (hm : mayK l = true) (hN : qcO (A.1 ++ B.1)) (hA : qhm (some ([], 0)) l = some A) (hB : qpz (some ([], 0)) key s = some B) (hl : l.length ≤ 100) (hs : ∀ p ∈ l, p.1.length + p.2.length ≤ 100000) (ho : ∀ x ∈ s.2, okSp x) (hw : (Kd.int .i64).wf s.1) (he : qbw (qa2 l) key s = 0) :
 qcC (qa2 l) key s = (qcA l key).2 ∧ qcf (qa2 l) key s = (qcA l key).1 := by
 have hO : ∃ b, qel (qa2 l) key s = some b := by
  cases h : qel (qa2 l) key s with
  | some b => exact ⟨b, rfl⟩
  | none => unfold qbw at he; rw [h] at he; cases he
 obtain ⟨b, hb⟩ := hO
 obtain ⟨h1, h2⟩ := qnk hN hm (x := some ([], 0)) (y := some ([], 0)) rfl rfl (by
  rw [hA]; intro y hy z hz; cases hy; exact List.mem_append.2 (.inl hz)) (by
  rw [hB]; intro y hy z hz; cases hy; exact List.mem_append.2 (.inr hz)) (by omega) (by have h3 : s.1 ≤ 9223372036854775807 := hw.2; omega)
  (fun p hp => by have := hs p hp; omega) (fun p hp => by obtain ⟨o1, o2, o3⟩ := ho p hp; exact ⟨by omega, o3⟩) hb
 rw [qic hm]
 unfold qcC qcf
 rw [hb]
 cases hbb : b with
 | false =>
   rw [hbb] at h1
   rw [← h1]
   exact ⟨rfl, rfl⟩
 | true =>
   rw [hbb] at h1
   rw [← h1]
   exact ⟨rfl, (h2 hbb)⟩
theorem qdg : mayK qad = true := by decide +kernel
theorem qlv : qad.length ≤ 65536 ∧ ∀ x ∈ qad, x.1.length + x.2.length ≤ 70368744177664 := by
 refine ⟨by decide, fun x hx => ?_⟩
 have : ∀ x ∈ qad, x.1.length + x.2.length ≤ 2 := by decide
 have := this x hx
 omega
theorem qlu : qaI qad [100] = (3, [qdW qad 1]) := by
 have h1 : qbA qad [100] = 1 := by decide +kernel
 have h2 : toK qad [100] = 2 := by decide +kernel
 unfold qaI
 rw [if_pos qdg, h1, h2]
 rfl
theorem qu0 : qaI qad [99] = (3, [qdW qad 0, qdW qad 1]) := by
 have h1 : qbA qad [99] = 0 := by decide +kernel
 have h2 : toK qad [99] = 2 := by decide +kernel
 unfold qaI
 rw [if_pos qdg, h1, h2]
 rfl
theorem quZ : qaI qad [97] = (3, [qdW qad 0]) := by
 have h1 : qbA qad [97] = 0 := by decide +kernel
 have h2 : toK qad [97] = 1 := by decide +kernel
 unfold qaI
 rw [if_pos qdg, h1, h2]
 rfl
theorem qsh : qbw (qa2 qad) [99] (qaI qad [100]) = 10 := by
 have h : (qe7 [99] (qaI qad [100])).2 = false := by rw [qlu]; decide +kernel
 have e : qel (qa2 qad) [99] (qaI qad [100]) = none := if_neg (by rw [h]; simp)
 unfold qbw
 rw [e]
 rfl
theorem qsi : qbw (qa2 qad) [120] (qaI qad [97]) = 10 := by
 have h : (qe7 [120] (qaI qad [97])).2 = false := by rw [quZ]; decide +kernel
 have e : qel (qa2 qad) [120] (qaI qad [97]) = none := if_neg (by rw [h]; simp)
 unfold qbw
 rw [e]
 rfl
end Go.Inc

set_option linter.unusedVariables false
namespace Go.Inc
open Go
theorem qpU {a b : List Sm} {j : Nat} (h : j < a.length) (h' : j < b.length) (ht : a.take j = b.take j) (he : ix a (j : Int) = ix b (j : Int)) : a.take (j + 1) = b.take (j + 1) := by
 rw [ixN h, ixN h'] at he
 rw [List.take_succ_eq_append_getElem h, List.take_succ_eq_append_getElem h', ht, he]
end Go.Inc

set_option linter.unusedVariables false
set_option maxRecDepth 100000
set_option maxHeartbeats 2000000
namespace Go.Proofs.Ytmjjkpiglbpkhaa
open Go Go.RowKit Go.Inc
abbrev qaD : Kd (List UInt8) := (Kd.sl Kd.byte)
theorem ty5b : TyOk Try.prog 5 Kd.byte 1 := ⟨⟨Try.t5, _, Try.type5, rfl, rfl, rfl, rfl, rfl⟩, ⟨_, Try.underlying5, rfl⟩⟩
def qau : List UInt8 := [0, 1, 2, 2, 3, 3, 3, 3, 4, 4, 4, 4, 4, 4, 4, 4, 5, 5, 5, 5, 5, 5, 5, 5, 5, 5, 5, 5, 5, 5, 5, 5, 6, 6, 6, 6, 6, 6, 6, 6, 6, 6, 6, 6, 6, 6, 6, 6, 6, 6, 6, 6, 6, 6, 6, 6, 6, 6, 6, 6, 6, 6, 6, 6, 7, 7, 7, 7, 7, 7, 7, 7, 7, 7, 7, 7, 7, 7, 7, 7, 7, 7, 7, 7, 7, 7, 7, 7, 7, 7, 7, 7, 7, 7, 7, 7, 7, 7, 7, 7, 7, 7, 7, 7, 7, 7, 7, 7, 7, 7, 7, 7, 7, 7, 7, 7, 7, 7, 7, 7, 7, 7, 7, 7, 7, 7, 7, 7, 8, 8, 8, 8, 8, 8, 8, 8, 8, 8, 8, 8, 8, 8, 8, 8, 8, 8, 8, 8, 8, 8, 8, 8, 8, 8, 8, 8, 8, 8, 8, 8, 8, 8, 8, 8, 8, 8, 8, 8, 8, 8, 8, 8, 8, 8, 8, 8, 8, 8, 8, 8, 8, 8, 8, 8, 8, 8, 8, 8, 8, 8, 8, 8, 8, 8, 8, 8, 8, 8, 8, 8, 8, 8, 8, 8, 8, 8, 8, 8, 8, 8, 8, 8, 8, 8, 8, 8, 8, 8, 8, 8, 8, 8, 8, 8, 8, 8, 8, 8, 8, 8, 8, 8, 8, 8, 8, 8, 8, 8, 8, 8, 8, 8, 8, 8, 8, 8, 8, 8, 8, 8, 8, 8, 8, 8, 8, 8]
abbrev qbc : Kd (List (List UInt8)) := (Kd.sl qaD)
theorem ty32 : TyOk Try.prog 32 qaD 24 := ⟨⟨Try.t32, _, Try.type32, rfl, rfl, rfl, rfl, rfl⟩, ⟨_, Try.underlying32, rfl⟩⟩
def qik (a1_n : Int) (Q : (List UInt8) → Prop) : Prop :=
 ((a1_n < 0) → False) ∧ ((¬ (a1_n < 0)) → ((0 < (IntKind.i64.wrap (a1_n - (IntKind.i64.wrap (0 - (([] : List UInt8).length : Int)))))) → (0 < (IntKind.i64.wrap (a1_n - (IntKind.i64.wrap (0 - (([] : List UInt8).length : Int))))) ∧ (IntKind.i64.wrap (a1_n - (IntKind.i64.wrap (0 - (([] : List UInt8).length : Int))))) * 1 ≤ 140737488355328) ∧ (Q ([] : List UInt8))) ∧ ((¬ (0 < (IntKind.i64.wrap (a1_n - (IntKind.i64.wrap (0 - (([] : List UInt8).length : Int))))))) → Q ([] : List UInt8)))
theorem qtm {a1_n : Int} (w_0 : (Kd.int .i64).wf a1_n) (hp : 0 ≤ a1_n ∧ a1_n ≤ 140737488355328) : qik a1_n (fun o0 => o0 = ([] : List UInt8)) := by
 have e1 : IntKind.i64.wrap (0 - (([] : List UInt8).length : Int)) = 0 := by decide
 have e2 : IntKind.i64.wrap (a1_n - 0) = a1_n := by rw [Int.sub_zero]; exact qan w_0
 unfold qik
 rw [e1, e2]
 exact ⟨fun h => by omega, fun _ => ⟨fun h => ⟨⟨h, by omega⟩, rfl⟩, fun _ => rfl⟩⟩
theorem qnL {w0 : World} {K0 : Ghost} {a1_n_v : Value} {a1_n : Int} {Q : (List UInt8) → Prop} (hM0 : Models w0 K0) (h_a1_n : (Kd.int .i64).V K0 a1_n a1_n_v) (h : qik a1_n Q) : Calls Try.prog 145 #[(.slice none 0 0), a1_n_v] w0 (fun e w' => ∃ (K' : Ghost) (r0 : Value) (o0 : (List UInt8)), e = .returned r0 ∧ Q o0 ∧ Ext NX w0 K0 w' K' ∧ Models w' K' ∧ Own Kd.byte 5 w' K' o0 r0 ∧ (∀ g, ob r0 = some g → w0.heap.size ≤ g)) := by
 unfold qik at h
 have hR1 : Own Kd.byte 5 w0 K0 ([] : List UInt8) (.slice none 0 0) := Own.nil
 obtain rfl := qbY h_a1_n
 have hE0 : Ext NX w0 K0 w0 K0 := Ext.refl _ _ _
 refine qbz fun R hR => ?_
 refine qa4 (args := [(.slice none 0 0), (.int .i64 a1_n)]) Try.func145 rfl (Nat.le_of_ble_eq_true rfl) ?_
 refine qap ?_
 refine qaf ?_
 have hR2 : Own Kd.byte 5 w0 K0 ([] : List UInt8) (.slice none 0 0) := Own.nil
 refine qaa (.slice none 0 0) (R_as rfl) rfl rfl ?_
 refine qay ?_
 refine qap ?_
 refine qap ?_
 refine qaf ?_
 refine qaa (.int .i64 a1_n) (R_mv rfl) rfl rfl ?_
 refine qaa (.bool (decide (a1_n < 0))) (qm0 rfl rfl) rfl rfl ?_
 refine qay ?_
 refine qa9 (decide (a1_n < 0)) rfl (fun hc3 => ?_) (fun hc3 => ?_)
 ·have hd3 : a1_n < 0 := qjL hc3
  have h := h.1 hd3
  refine qaf ?_
  exact h.elim
 ·have hd3 : ¬ (a1_n < 0) := qjK hc3
  have h := h.2 hd3
  refine qbS ?_
  refine qap ?_
  refine qap ?_
  refine qaf ?_
  refine qaa (.int .i64 a1_n) (R_mv rfl) rfl rfl ?_
  refine qaa (.slice none 0 0) (R_mv rfl) rfl rfl ?_
  refine qaa (.int .i64 0) (qvy rfl Try.underlying32) rfl rfl ?_
  refine qaa (.slice none 0 0) (R_mv rfl) rfl rfl ?_
  refine qaa (.int .i64 (([] : List UInt8).length : Int)) (qgK rfl hR1.V Try.underlying32) rfl rfl ?_
  refine qaa (.int .i64 (IntKind.i64.wrap (0 - (([] : List UInt8).length : Int)))) (qtO rfl rfl) rfl rfl ?_
  refine qaa (.int .i64 (IntKind.i64.wrap (a1_n - (IntKind.i64.wrap (0 - (([] : List UInt8).length : Int)))))) (qtO rfl rfl) rfl rfl ?_
  refine qaa (.int .i64 (IntKind.i64.wrap (a1_n - (IntKind.i64.wrap (0 - (([] : List UInt8).length : Int)))))) (R_as rfl) rfl rfl ?_
  refine qay ?_
  refine qap ?_
  refine qaf ?_
  refine qaa (.int .i64 (IntKind.i64.wrap (a1_n - (IntKind.i64.wrap (0 - (([] : List UInt8).length : Int)))))) (R_mv rfl) rfl rfl ?_
  refine qaa (.bool (decide (0 < (IntKind.i64.wrap (a1_n - (IntKind.i64.wrap (0 - (([] : List UInt8).length : Int)))))))) (qvE rfl rfl) rfl rfl ?_
  refine qay ?_
  refine qa9 (decide (0 < (IntKind.i64.wrap (a1_n - (IntKind.i64.wrap (0 - (([] : List UInt8).length : Int))))))) rfl (fun hc4 => ?_) (fun hc4 => ?_)
  ·have hd4 : 0 < (IntKind.i64.wrap (a1_n - (IntKind.i64.wrap (0 - (([] : List UInt8).length : Int))))) := qjL hc4
   have h := h.1 hd4
   refine qaf ?_
   refine qaa (.slice none 0 0) (R_mv rfl) rfl rfl ?_
   refine qaa (.slice none 0 0) (R_mv rfl) rfl rfl ?_
   refine qaa (.int .i64 0) (qvy rfl Try.underlying32) rfl rfl ?_
   refine qaa (.slice none 0 0) (qqW rfl rfl Try.underlying32 ty5b) rfl rfl ?_
   refine qaa (.int .i64 (IntKind.i64.wrap (a1_n - (IntKind.i64.wrap (0 - (([] : List UInt8).length : Int)))))) (R_mv rfl) rfl rfl ?_
   obtain ⟨hp7, h⟩ := h
   refine qaY rfl rfl (qxk (qvW hM0 rfl rfl Try.underlying32 Try.underlying3 ty5b rfl hp7.1 hp7.2) ?_)
   rintro v6 w6 hF6 hS6 hM6 hg6
   have hE6 := hE0.andN hS6
   have hf6 : ∀ g, ob v6 = some g → w0.heap.size ≤ g := fun g hg => Nat.le_trans hE0.size (hg6 g hg)
   refine qaa (.slice none 0 0) (R_mv rfl) rfl rfl ?_
   refine qaa (.int .i64 (([] : List UInt8).length : Int)) (qgK rfl (hR1.V.mono hS6.le) Try.underlying32) rfl rfl ?_
   refine qaY rfl rfl (qxj (qv2 hM6 rfl hF6 rfl Try.underlying32 ty5b) ?_)
   rintro v8 w8 K8 (hO8 : Own Kd.byte 5 w8 K8 ([] : List UInt8) v8) hS8 hM8 hob8
   have hE8 := hE6.comp hS8 (fun c hx hlt => absurd hlt (Nat.not_lt.2 (hf6 c hx)))
   have hf8 : ∀ g, ob v8 = some g → w0.heap.size ≤ g := fun g hg => hf6 g (hob8 g hg)
   refine qaa v8 (R_as rfl) rfl rfl ?_
   refine qay ?_
   refine qap ?_
   refine qaf ?_
   refine qaa v8 (R_mv rfl) rfl rfl ?_
   refine qaa v8 (R_as rfl) rfl rfl ?_
   refine qay ?_
   refine qcE ?_
   exact qbJ hR (v := v8) (qeq rfl rfl) ⟨K8, v8, ([] : List UInt8), rfl, h, hE8, hM8, hO8, hf8⟩
  ·have hd4 : ¬ (0 < (IntKind.i64.wrap (a1_n - (IntKind.i64.wrap (0 - (([] : List UInt8).length : Int)))))) := qjK hc4
   have h := h.2 hd4
   refine qbS ?_
   refine qap ?_
   refine qaf ?_
   refine qaa (.slice none 0 0) (R_mv rfl) rfl rfl ?_
   refine qaa (.slice none 0 0) (R_as rfl) rfl rfl ?_
   refine qay ?_
   refine qcE ?_
   exact qbJ hR (v := (.slice none 0 0)) (qeq rfl rfl) ⟨K0, (.slice none 0 0), ([] : List UInt8), rfl, h, hE0, hM0, hR1, (fun g hg => nilS hg)⟩
theorem qvh {w0 : World} {K0 : Ghost} {a1_n_v : Value} {a1_n : Int} (hM0 : Models w0 K0) (h_a1_n : (Kd.int .i64).V K0 a1_n a1_n_v) (hp : 0 ≤ a1_n ∧ a1_n ≤ 140737488355328) : Calls Try.prog 145 #[(.slice none 0 0), a1_n_v] w0 (fun e w' => ∃ (K' : Ghost) (r0 : Value), e = .returned r0 ∧ Ext NX w0 K0 w' K' ∧ Models w' K' ∧ Own Kd.byte 5 w' K' ([] : List UInt8) r0 ∧ (∀ g, ob r0 = some g → w0.heap.size ≤ g)) := by
 refine (qnL hM0 h_a1_n (qtm h_a1_n.wf hp)).mono ?_
 rintro _ w' ⟨K', r0, o0, rfl, rfl, hF⟩
 exact ⟨K', r0, rfl, hF⟩
def qeL (a0_slices : (List (List UInt8))) (Q : (List UInt8) → Prop) : Prop :=
 ∃ (I3 : Int → Int → Prop) (μ3 : Int → Int → Nat), I3 0 0 ∧ ∀ (size3 : Int) (i3 : Int), I3 size3 i3 → ((Kd.int .i64).wf size3) → ((Kd.int .i64).wf i3) → (((i3 < (a0_slices.length : Int)) → (0 ≤ i3 ∧ i3 < (a0_slices.length : Int)) ∧ ((((IntKind.i64.wrap (size3 + ((ix a0_slices i3).length : Int))) < 0) → False) ∧ ((¬ ((IntKind.i64.wrap (size3 + ((ix a0_slices i3).length : Int))) < 0)) → I3 (IntKind.i64.wrap (size3 + ((ix a0_slices i3).length : Int))) (i3 + 1) ∧ μ3 (IntKind.i64.wrap (size3 + ((ix a0_slices i3).length : Int))) (i3 + 1) < μ3 size3 i3))) ∧ ((¬ (i3 < (a0_slices.length : Int))) → (0 ≤ size3 ∧ size3 ≤ 140737488355328) ∧ ((qaD.wf ([] : List UInt8)) → (∃ (I17 : (List UInt8) → Int → Prop) (μ17 : (List UInt8) → Int → Nat), I17 ([] : List UInt8) 0 ∧ ∀ (newslice17 : (List UInt8)) (i17 : Int), I17 newslice17 i17 → (qaD.wf newslice17) → ((Kd.int .i64).wf i17) → (((i17 < (a0_slices.length : Int)) → (0 ≤ i17 ∧ i17 < (a0_slices.length : Int)) ∧ (((newslice17.length + (ix a0_slices i17).length) * 1 ≤ 140737488355328) ∧ (I17 (newslice17 ++ (ix a0_slices i17)) (i17 + 1) ∧ μ17 (newslice17 ++ (ix a0_slices i17)) (i17 + 1) < μ17 newslice17 i17))) ∧ ((¬ (i17 < (a0_slices.length : Int))) → Q newslice17))))))
theorem qnH {a0_slices : (List (List UInt8))} (w_0 : qbc.wf a0_slices) (hp : a0_slices.flatten.length ≤ 140737488355328) : qeL a0_slices (fun o0 => o0 = a0_slices.flatten) := by
 have hst : ∀ j : Nat, (j : Int) < (a0_slices.length : Int) → (a0_slices.take j).flatten.length + (ix a0_slices (j : Int)).length ≤ 140737488355328 := fun j hj => by
  have h1 := qg1 (l := a0_slices) (j + 1)
  rw [qcr hj, List.length_append] at h1
  omega
 unfold qeL
 refine ⟨fun s i => ∃ j : Nat, i = (j : Int) ∧ j ≤ a0_slices.length ∧ s = ((a0_slices.take j).flatten.length : Int), fun _ i => a0_slices.length - i.toNat, ⟨0, rfl, by omega, by simp⟩, ?_⟩
 rintro s i ⟨j, rfl, hj, rfl⟩ _ _
 refine ⟨fun hlt => ⟨⟨by omega, hlt⟩, ?_⟩, fun hge => ?_⟩
 ·have h1 := hst j hlt
  have e : IntKind.i64.wrap (((a0_slices.take j).flatten.length : Int) + ((ix a0_slices (j : Int)).length : Int)) = ((a0_slices.take (j + 1)).flatten.length : Int) := by
   rw [qan (wf64 (by omega) (by omega)), qcr hlt, List.length_append]
   omega
  rw [e]
  refine ⟨fun h => by omega, fun _ => ⟨⟨j + 1, by omega, by omega, rfl⟩, ?_⟩⟩
  show a0_slices.length - ((j : Int) + 1).toNat < a0_slices.length - (j : Int).toNat
  omega
 ·have h1 := qg1 (l := a0_slices) j
  refine ⟨⟨by omega, by omega⟩, fun _ => ⟨fun out i => ∃ j : Nat, i = (j : Int) ∧ j ≤ a0_slices.length ∧ out = (a0_slices.take j).flatten, fun _ i => a0_slices.length - i.toNat, ⟨0, rfl, by omega, by simp⟩, ?_⟩⟩
  rintro out i ⟨m, rfl, hm, rfl⟩ _ _
  refine ⟨fun hlt => ⟨⟨by omega, hlt⟩, ?_, ⟨m + 1, by omega, by omega, (qcr hlt).symm⟩, ?_⟩, fun hge => ?_⟩
  ·have := hst m hlt
   omega
  ·show a0_slices.length - ((m : Int) + 1).toNat < a0_slices.length - (m : Int).toNat
   omega
  ·have : m = a0_slices.length := by omega
   subst this
   rw [List.take_length]
theorem qkv {w0 : World} {K0 : Ghost} {a0_slices_v : Value} {a0_slices : (List (List UInt8))} {Q : (List UInt8) → Prop} (hM0 : Models w0 K0) (h_a0_slices : qbc.V K0 a0_slices a0_slices_v) (h : qeL a0_slices Q) : Calls Try.prog 134 #[a0_slices_v] w0 (fun e w' => ∃ (K' : Ghost) (r0 : Value) (o0 : (List UInt8)), e = .returned r0 ∧ Q o0 ∧ Ext NX w0 K0 w' K' ∧ Models w' K' ∧ Own Kd.byte 5 w' K' o0 r0 ∧ (∀ g, ob r0 = some g → w0.heap.size ≤ g)) := by
 unfold qeL at h
 have hE0 : Ext NX w0 K0 w0 K0 := Ext.refl _ _ _
 refine qbz fun R hR => ?_
 refine qa4 (args := [a0_slices_v]) Try.func134 rfl (Nat.le_of_ble_eq_true rfl) ?_
 refine qap ?_
 refine qaf ?_
 have hR2 : Own Kd.byte 5 w0 K0 ([] : List UInt8) (.slice none 0 0) := Own.nil
 refine qaa (.slice none 0 0) (R_as rfl) rfl rfl ?_
 refine qay ?_
 refine qap ?_
 refine qaf ?_
 refine qaa (.int .i64 0) (R_as rfl) rfl rfl ?_
 refine qay ?_
 refine qap ?_
 refine qap ?_
 refine qaf ?_
 refine qaa a0_slices_v (R_mv rfl) rfl rfl ?_
 refine qaa (.int .i64 (a0_slices.length : Int)) (qgK rfl h_a0_slices Try.underlying96) rfl rfl ?_
 refine qaa (.int .i64 0) (R_mv rfl) rfl rfl ?_
 refine qay ?_
 refine qcb ?_
 obtain ⟨I3, μ3, h0, h⟩ := h
 refine qiA (ι := Int × Int) [3, 5, 11, 12, 13, 14, 15, 16, 17, 18, 19, 20, 21, 22] (fun s l w => ∃ K, I3 s.1 s.2 ∧ l = [(3, (.int .i64 s.1)), (11, (.int .i64 s.2))] ∧ Ext NX w0 K0 w K ∧ Models w K ∧ (Kd.int .i64).wf s.1 ∧ (Kd.int .i64).wf s.2) (fun s => μ3 s.1 s.2) (0, 0) [(3, (.int .i64 0)), (11, (.int .i64 0))]
  ⟨K0, h0, rfl, Ext.refl _ _ _, hM0, (show (Kd.int .i64).wf 0 from by constructor <;> decide), (show (Kd.int .i64).wf 0 from by constructor <;> decide)⟩ (by repeat (first | exact trivial | refine ⟨rfl, ?_⟩)) ?_
 rintro ⟨size3, i3⟩ l σ3 w4 ⟨K4, hI, rfl, hX4, hM4, hw3_3, hw3_11⟩
 dsimp only at hI hw3_3 hw3_11
 have hE4 := hE0.andN hX4
 have h := h size3 i3 hI hw3_3 hw3_11
 refine qap ?_
 refine qaf ?_
 refine qaa (.bool (decide (i3 < (a0_slices.length : Int)))) (qm0 rfl rfl) rfl rfl ?_
 refine qay ?_
 refine qap ?_
 refine qa9 (decide (i3 < (a0_slices.length : Int))) rfl (fun hc5 => ?_) (fun hc5 => ?_)
 ·have hd5 : i3 < (a0_slices.length : Int) := qjL hc5
  have h := h.1 hd5
  refine qbS ?_
  refine qap ?_
  refine qcb ?_
  refine qap ?_
  refine qaf ?_
  obtain ⟨hp7, h⟩ := h
  refine WL_P (qoj rfl (h_a0_slices.mono hX4.le) rfl Try.underlying96 ty32 hp7.1 hp7.2) rfl rfl ?_
  rintro b6 o6 hP6
  refine WL_L hM4 (S_ld rfl ty32 hP6) rfl rfl ?_
  rintro v9 (hV9 : qaD.V _ (ix a0_slices i3) _)
  refine qaa v9 (R_as rfl) rfl rfl ?_
  refine qay ?_
  refine qap ?_
  refine qaf ?_
  refine qaa (.int .i64 size3) (R_mv rfl) rfl rfl ?_
  refine qaa v9 (R_mv rfl) rfl rfl ?_
  refine qaa (.int .i64 ((ix a0_slices i3).length : Int)) (qgK rfl hV9 Try.underlying32) rfl rfl ?_
  refine qaa (.int .i64 (IntKind.i64.wrap (size3 + ((ix a0_slices i3).length : Int)))) (qn9 rfl rfl) rfl rfl ?_
  refine qaa (.int .i64 (IntKind.i64.wrap (size3 + ((ix a0_slices i3).length : Int)))) (R_as rfl) rfl rfl ?_
  refine qay ?_
  refine qap ?_
  refine qaf ?_
  refine qaa (.int .i64 (IntKind.i64.wrap (size3 + ((ix a0_slices i3).length : Int)))) (R_mv rfl) rfl rfl ?_
  refine qaa (.bool (decide ((IntKind.i64.wrap (size3 + ((ix a0_slices i3).length : Int))) < 0))) (qm0 rfl rfl) rfl rfl ?_
  refine qay ?_
  refine qa9 (decide ((IntKind.i64.wrap (size3 + ((ix a0_slices i3).length : Int))) < 0)) rfl (fun hc11 => ?_) (fun hc11 => ?_)
  ·have hd11 : (IntKind.i64.wrap (size3 + ((ix a0_slices i3).length : Int))) < 0 := qjL hc11
   have h := h.1 hd11
   refine qaf ?_
   exact h.elim
  ·have hd11 : ¬ ((IntKind.i64.wrap (size3 + ((ix a0_slices i3).length : Int))) < 0) := qjK hc11
   have h := h.2 hd11
   refine qbS ?_
   refine qaf ?_
   refine qaa (.int .i64 (i3 + 1)) (qtI rfl rfl hw3_11 hd5 (qc6 (h_a0_slices).wf.1)) rfl rfl ?_
   refine qaa (.int .i64 (i3 + 1)) (R_mv rfl) rfl rfl ?_
   refine qay ?_
   refine qks.mk ((IntKind.i64.wrap (size3 + ((ix a0_slices i3).length : Int))), (i3 + 1)) [(3, (.int .i64 (IntKind.i64.wrap (size3 + ((ix a0_slices i3).length : Int))))), (11, (.int .i64 (i3 + 1)))] ?_ ?_ ?_ ?_
   rotate_left
   ·exact h.2
   ·repeat (first | exact Off.lay0 rfl | refine Off.updO ?_ rfl _ | refine Off.updN ?_ _ | refine Off.lay ?_ rfl)
   ·repeat (first | exact trivial | refine ⟨rfl, ?_⟩)
   exact ⟨K4, h.1, rfl, ((Ext.refl _ _ _).andN hX4), hM4, (qbO _ _), (qpc hw3_11 hd5 (qc6 (h_a0_slices).wf.1))⟩
 ·have hd5 : ¬ (i3 < (a0_slices.length : Int)) := qjK hc5
  have h := h.2 hd5
  refine qiz ?_
  refine qap ?_
  refine qaf ?_
  refine qaa (.int .i64 size3) (R_mv rfl) rfl rfl ?_
  have hR12 : Own Kd.byte 5 w4 K4 ([] : List UInt8) (.slice none 0 0) := Own.nil
  have hR13 := (hR2.extN hX4)
  obtain ⟨hp15, h⟩ := h
  refine qaY rfl rfl (qbR (qdL Try.call145 rfl) ((qvh hM4 (qhz hw3_3) hp15).mono ?_))
  rintro _ w14 ⟨K14, v14_0, rfl, hS14, hM14, hO14_0, hg14_0⟩
  refine ⟨v14_0, rfl, ?_⟩
  have hE14 := hE4.andN hS14
  have h := h hO14_0.wf
  refine qaa v14_0 (R_as rfl) rfl rfl ?_
  refine qay ?_
  refine qap ?_
  refine qap ?_
  refine qaf ?_
  refine qaa a0_slices_v (R_mv rfl) rfl rfl ?_
  refine qaa (.int .i64 (a0_slices.length : Int)) (qgK rfl (h_a0_slices.mono (hX4.le.trans hS14.le)) Try.underlying96) rfl rfl ?_
  refine qaa (.int .i64 0) (R_mv rfl) rfl rfl ?_
  refine qay ?_
  refine qcb ?_
  obtain ⟨I17, μ17, h0, h⟩ := h
  refine qiA (ι := (List UInt8) × Int) [6, 8, 27, 28, 29, 30, 31, 32, 33, 34] (fun s l w => ∃ K u6, I17 s.1 s.2 ∧ l = [(6, u6), (27, (.int .i64 s.2))] ∧ Ext (fun c => ob v14_0 = some c) w14 K14 w K ∧ Models w K ∧ (Kd.int .i64).wf s.2 ∧ Own Kd.byte 5 w K s.1 u6 ∧ (∀ g, ob u6 = some g → ob v14_0 = some g ∨ w14.heap.size ≤ g)) (fun s => μ17 s.1 s.2) (([] : List UInt8), 0) [(6, v14_0), (27, (.int .i64 0))]
   ⟨K14, v14_0, h0, rfl, Ext.refl _ _ _, hM14, (show (Kd.int .i64).wf 0 from by constructor <;> decide), hO14_0, (fun g hg => (.inl hg))⟩ (by repeat (first | exact trivial | refine ⟨rfl, ?_⟩)) ?_
  rintro ⟨newslice17, i17⟩ l σ17 w18 ⟨K18, u6_17, hI, rfl, hX18, hM18, hw17_27, hL17_u6, ho17_u6⟩
  dsimp only at hI hw17_27 hL17_u6 ho17_u6
  have hE18 := hE14.comp hX18 (fun c hx hlt => (fun g hg hlt => absurd hlt (Nat.not_lt.2 ((fun g hg => Nat.le_trans hE4.size (hg14_0 g hg)) g hg))) c hx hlt)
  have hR19 := (hR13.extN hS14)
  have hR20 := (hR19.ext hX18 (fun g hg hx => (fun g hg hx => (fun g hg hx => absurd (hR13.lt _ hx) (Nat.not_lt.2 (hg14_0 g hg))) g hx hg) g hg hx))
  have hR21 := (hR12.extN hS14)
  have hR22 := (hR21.ext hX18 (fun g hg hx => (fun g hg hx => (fun g hg hx => absurd (hR12.lt _ hx) (Nat.not_lt.2 (hg14_0 g hg))) g hx hg) g hg hx))
  have hR23 := (hR13.extN hS14)
  have hR24 := (hR12.extN hS14)
  have h := h newslice17 i17 hI hL17_u6.wf hw17_27
  refine qap ?_
  refine qaf ?_
  refine qaa (.bool (decide (i17 < (a0_slices.length : Int)))) (qm0 rfl rfl) rfl rfl ?_
  refine qay ?_
  refine qap ?_
  refine qa9 (decide (i17 < (a0_slices.length : Int))) rfl (fun hc25 => ?_) (fun hc25 => ?_)
  ·have hd25 : i17 < (a0_slices.length : Int) := qjL hc25
   have h := h.1 hd25
   refine qbS ?_
   refine qap ?_
   refine qcb ?_
   refine qap ?_
   refine qaf ?_
   obtain ⟨hp27, h⟩ := h
   refine WL_P (qoj rfl (h_a0_slices.mono (hX4.le.trans (hS14.le.trans hX18.le))) rfl Try.underlying96 ty32 hp27.1 hp27.2) rfl rfl ?_
   rintro b26 o26 hP26
   refine WL_L hM18 (S_ld rfl ty32 hP26) rfl rfl ?_
   rintro v29 (hV29 : qaD.V _ (ix a0_slices i17) _)
   refine qaa v29 (R_as rfl) rfl rfl ?_
   refine qay ?_
   refine qaf ?_
   refine qaa u6_17 (R_mv rfl) rfl rfl ?_
   refine qaa v29 (R_mv rfl) rfl rfl ?_
   obtain ⟨hp32, h⟩ := h
   refine qaY rfl rfl (St_S (qvV hM18 rfl hL17_u6 rfl hV29 Try.underlying32 ty5b rfl hp32) ?_)
   rintro v31 w31 K31 hO31 hS31 hM31 hob31
   have hE31 := hE18.comp hS31 (fun c hx hlt => (fun g hg hlt => absurd hlt (Nat.not_lt.2 ((fun g hg => (ho17_u6 g hg).elim (fun hx => (fun g hg => Nat.le_trans hE4.size (hg14_0 g hg)) g hx) (fun hx => Nat.le_trans hE14.size hx)) g hg))) c hx hlt)
   have hR33 := (hR20.ext hS31 (fun g hg hx => (fun g hg hx => (fun g hg hy => (ho17_u6 g hg).elim (fun hz => (fun g hg hx => absurd (hR13.lt _ hx) (Nat.not_lt.2 (hg14_0 g hg))) g hz hy) (fun hz => absurd (hR23.lt _ hy) (Nat.not_lt.2 hz))) g hx hg) g hg hx))
   have hR34 := (hR22.ext hS31 (fun g hg hx => (fun g hg hx => (fun g hg hy => (ho17_u6 g hg).elim (fun hz => (fun g hg hx => absurd (hR12.lt _ hx) (Nat.not_lt.2 (hg14_0 g hg))) g hz hy) (fun hz => absurd (hR24.lt _ hy) (Nat.not_lt.2 hz))) g hx hg) g hg hx))
   have hf31 : ∀ g, ob v31 = some g → w0.heap.size ≤ g := fun g hg => by rcases hob31 with hq | hq <;> rw [hq] at hg; exact (fun g hg => (ho17_u6 g hg).elim (fun hx => (fun g hg => Nat.le_trans hE4.size (hg14_0 g hg)) g hx) (fun hx => Nat.le_trans hE14.size hx)) g hg; cases hg; exact hE18.size
   refine qaa v31 (R_as rfl) rfl rfl ?_
   refine qay ?_
   refine qaf ?_
   refine qaa (.int .i64 (i17 + 1)) (qtI rfl rfl hw17_27 hd25 (qc6 (h_a0_slices).wf.1)) rfl rfl ?_
   refine qaa (.int .i64 (i17 + 1)) (R_mv rfl) rfl rfl ?_
   refine qay ?_
   refine qks.mk ((newslice17 ++ (ix a0_slices i17)), (i17 + 1)) [(6, v31), (27, (.int .i64 (i17 + 1)))] ?_ ?_ ?_ ?_
   rotate_left
   ·exact h.2
   ·repeat (first | exact Off.lay0 rfl | refine Off.updO ?_ rfl _ | refine Off.updN ?_ _ | refine Off.lay ?_ rfl)
   ·repeat (first | exact trivial | refine ⟨rfl, ?_⟩)
   exact ⟨K31, v31, h.1, rfl, (((Ext.refl _ _ _).comp hX18 (fun c hx hlt => (hx))).comp hS31 (fun c hx hlt => ((((ho17_u6 c hx).elim (fun hz => (.inl hz)) (fun hz => .inr (Nat.le_trans (Nat.le_refl _) hz))) : ob v14_0 = some c ∨ w14.heap.size ≤ c).elim (fun hx => (hx)) (fun hz => absurd hlt (Nat.not_lt.2 hz))))), hM31, (qpc hw17_27 hd25 (qc6 (h_a0_slices).wf.1)), hO31, (fun g hg => (by have hg : ob v31 = some g := hg; rcases hob31 with hq | hq <;> rw [hq] at hg; exact ((ho17_u6 g hg).elim (fun hz => (.inl hz)) (fun hz => .inr (Nat.le_trans (Nat.le_refl _) hz))); cases hg; exact .inr hX18.size))⟩
  ·have hd25 : ¬ (i17 < (a0_slices.length : Int)) := qjK hc25
   have h := h.2 hd25
   refine qiz ?_
   refine qap ?_
   refine qaf ?_
   refine qaa u6_17 (R_mv rfl) rfl rfl ?_
   refine qaa u6_17 (R_as rfl) rfl rfl ?_
   refine qay ?_
   refine qcE ?_
   exact qbJ hR (v := u6_17) (qeq rfl rfl) ⟨K18, u6_17, newslice17, rfl, h, hE18, hM18, hL17_u6, (fun g hg => (ho17_u6 g hg).elim (fun hx => (fun g hg => Nat.le_trans hE4.size (hg14_0 g hg)) g hx) (fun hx => Nat.le_trans hE14.size hx))⟩
theorem qqt {w0 : World} {K0 : Ghost} {a0_slices_v : Value} {a0_slices : (List (List UInt8))} (hM0 : Models w0 K0) (h_a0_slices : qbc.V K0 a0_slices a0_slices_v) (hp : a0_slices.flatten.length ≤ 140737488355328) : Calls Try.prog 134 #[a0_slices_v] w0 (fun e w' => ∃ (K' : Ghost) (r0 : Value), e = .returned r0 ∧ Ext NX w0 K0 w' K' ∧ Models w' K' ∧ Own Kd.byte 5 w' K' a0_slices.flatten r0 ∧ (∀ g, ob r0 = some g → w0.heap.size ≤ g)) := by
 refine (qkv hM0 h_a0_slices (qnH h_a0_slices.wf hp)).mono ?_
 rintro _ w' ⟨K', r0, o0, rfl, rfl, hF⟩
 exact ⟨K', r0, rfl, hF⟩
end Go.Proofs.Ytmjjkpiglbpkhaa

set_option linter.unusedVariables false
set_option maxRecDepth 100000
set_option maxHeartbeats 2000000
namespace Go.Proofs.Ytmjjkpiglbpkhaa
open Go Go.RowKit Go.Inc
noncomputable def qlC : Ctr := ⟨[.v (.sl (.sl .byte))], [.ow 5 .byte], some (fun a => (fun (a0_slices : List (List UInt8)) => (a0_slices.flatten.length ≤ 140737488355328 : Prop)) a.1), fun a => (fun (a0_slices : List (List UInt8)) => ((a0_slices.flatten, ()), (()))) a.1⟩
theorem qqu : qlC.valid Try.prog 134 := qxv (k := .byte) (fun _ => rfl) fun a hp θ vs w K hM hv => by
 obtain ⟨v, vs, rfl, h1, h2⟩ := hv
 have h2' : vs = [] := h2
 subst h2'
 exact qqt hM (qdB (t := .sl (.sl .byte)) h1 rfl) hp
end Go.Proofs.Ytmjjkpiglbpkhaa

set_option linter.unusedVariables false
set_option maxRecDepth 100000
set_option maxHeartbeats 20000000
namespace Go.Proofs.Ytmjjkpiglbpkhaa
open Go Go.RowKit Go.Inc
noncomputable def qb7 : Ctr := ⟨[.v (.sl .byte)], [.ow 5 .byte], some (fun a => (fun (a0_s : List UInt8) => (a0_s.length ≤ 140737488355328 : Prop)) a.1), fun a => (fun (a0_s : List UInt8) => ((a0_s, ()), (()))) a.1⟩
noncomputable def qnG : Fx := ⟨seat, some bkT, fns, [], [], [], []⟩
def qii (a0_s : List UInt8) (Q : (List UInt8) → Prop) : Prop :=
 ∀ (x0 : Bool), (x0 = true → a0_s = ([] : List UInt8)) → (x0 = true → Q ([] : List UInt8)) ∧ (x0 = false → (([] : List UInt8).length + a0_s.length) * (1 : Nat) ≤ (140737488355328 : Nat) ∧ Q (([] : List UInt8) ++ a0_s))
theorem qqr {a0_s : List UInt8} (w_0 : (Ty.kd (.sl .byte)).wf a0_s) (hp : a0_s.length ≤ 140737488355328) : qii a0_s (fun o0 => o0 = a0_s) := by
 unfold qii
 intro r hr
 refine ⟨fun h => ?_, fun _ => ⟨?_, rfl⟩⟩
 ·rw [hr h]
 ·simpa using hp
theorem qqq : (∀ a, qb7.pre a → PM.wfP qb7.pm a (fvc qnG 200 69 qb7 a (eqO qb7 a))) = (∀ a : (List UInt8) × Unit, ((a.1).length ≤ 140737488355328) → (Ty.kd (.sl .byte)).wf a.1 → qii a.1 (fun o0 => o0 = (a.1))) := by kernel_rfl
theorem qdJ : qb7.valid Try.prog 69 := qat (X := qnG) (qaK qam (fun b hb => by cases hb; exact qar) qas trivial) 200 (qqq.mpr fun a hp w_0 => @qqr a.1 w_0 hp)
noncomputable def qgC : Ctr := ⟨[.v (.sl .byte), .v (.sl .byte)], [.v .bool], none, fun a => (fun (a0_a : List UInt8) (a1_b : List UInt8) => ((decide (a0_a = a1_b), ()), (()))) a.1 a.2.1⟩
noncomputable def qnK : Fx := ⟨seat, some bkT, fns, [], [], [], []⟩
def qlE (a0_a : List UInt8) (a1_b : List UInt8) (Q : Bool → Prop) : Prop :=
 Q (decide (a0_a = a1_b))
theorem qqy {a0_a : List UInt8} {a1_b : List UInt8} (w_0 : (Ty.kd (.sl .byte)).wf a0_a) (w_1 : (Ty.kd (.sl .byte)).wf a1_b) : qlE a0_a a1_b (fun o0 => o0 = decide (a0_a = a1_b)) := by
 exact rfl
theorem qqx : (∀ a, qgC.pre a → PM.wfP qgC.pm a (fvc qnK 200 85 qgC a (eqO qgC a))) = (∀ a : (List UInt8) × (List UInt8) × Unit, True → (Ty.kd (.sl .byte)).wf a.1 → (Ty.kd (.sl .byte)).wf a.2.1 → qlE a.1 a.2.1 (fun o0 => o0 = decide ((a.1) = (a.2.1)))) := by kernel_rfl
theorem qtj : qgC.valid Try.prog 85 := qat (X := qnK) (qaK qam (fun b hb => by cases hb; exact qar) qas trivial) 200 (qqx.mpr fun a hp w_0 w_1 => @qqy a.1 a.2.1 w_0 w_1)
noncomputable def qfh : Ctr := ⟨[.v (.int .u64)], [.v (.int .i64)], none, fun a => (fun (a0_x : Int) => (((blen a0_x.toNat : Int), ()), (()))) a.1⟩
noncomputable def qnS : Fx := ⟨seat, some bkT, fns, [], [], [], []⟩
def qin (a0_x : Int) (Q : Int → Prop) : Prop :=
 ((4294967296 : Int) ≤ a0_x → ((65536 : Int) ≤ shr IntKind.u64 a0_x (32 : Int) → ((256 : Int) ≤ shr IntKind.u64 (shr IntKind.u64 a0_x (32 : Int)) (16 : Int) → ((0 : Int) ≤ IntKind.u8.wrap (shr IntKind.u64 (shr IntKind.u64 (shr IntKind.u64 a0_x (32 : Int)) (16 : Int)) (8 : Int)) ∧ IntKind.u8.wrap (shr IntKind.u64 (shr IntKind.u64 (shr IntKind.u64 a0_x (32 : Int)) (16 : Int)) (8 : Int)) < (qau.length : Int)) ∧ Q (IntKind.i64.wrap (IntKind.i64.wrap (IntKind.i64.wrap ((32 : Int) + (16 : Int)) + (8 : Int)) + bI (ix qau (IntKind.u8.wrap (shr IntKind.u64 (shr IntKind.u64 (shr IntKind.u64 a0_x (32 : Int)) (16 : Int)) (8 : Int))))))) ∧ (¬(256 : Int) ≤ shr IntKind.u64 (shr IntKind.u64 a0_x (32 : Int)) (16 : Int) → ((0 : Int) ≤ IntKind.u8.wrap (shr IntKind.u64 (shr IntKind.u64 a0_x (32 : Int)) (16 : Int)) ∧ IntKind.u8.wrap (shr IntKind.u64 (shr IntKind.u64 a0_x (32 : Int)) (16 : Int)) < (qau.length : Int)) ∧ Q (IntKind.i64.wrap (IntKind.i64.wrap ((32 : Int) + (16 : Int)) + bI (ix qau (IntKind.u8.wrap (shr IntKind.u64 (shr IntKind.u64 a0_x (32 : Int)) (16 : Int)))))))) ∧ (¬(65536 : Int) ≤ shr IntKind.u64 a0_x (32 : Int) → ((256 : Int) ≤ shr IntKind.u64 a0_x (32 : Int) → ((0 : Int) ≤ IntKind.u8.wrap (shr IntKind.u64 (shr IntKind.u64 a0_x (32 : Int)) (8 : Int)) ∧ IntKind.u8.wrap (shr IntKind.u64 (shr IntKind.u64 a0_x (32 : Int)) (8 : Int)) < (qau.length : Int)) ∧ Q (IntKind.i64.wrap (IntKind.i64.wrap ((32 : Int) + (8 : Int)) + bI (ix qau (IntKind.u8.wrap (shr IntKind.u64 (shr IntKind.u64 a0_x (32 : Int)) (8 : Int))))))) ∧ (¬(256 : Int) ≤ shr IntKind.u64 a0_x (32 : Int) → ((0 : Int) ≤ IntKind.u8.wrap (shr IntKind.u64 a0_x (32 : Int)) ∧ IntKind.u8.wrap (shr IntKind.u64 a0_x (32 : Int)) < (qau.length : Int)) ∧ Q (IntKind.i64.wrap ((32 : Int) + bI (ix qau (IntKind.u8.wrap (shr IntKind.u64 a0_x (32 : Int))))))))) ∧ (¬(4294967296 : Int) ≤ a0_x → ((65536 : Int) ≤ a0_x → ((256 : Int) ≤ shr IntKind.u64 a0_x (16 : Int) → ((0 : Int) ≤ IntKind.u8.wrap (shr IntKind.u64 (shr IntKind.u64 a0_x (16 : Int)) (8 : Int)) ∧ IntKind.u8.wrap (shr IntKind.u64 (shr IntKind.u64 a0_x (16 : Int)) (8 : Int)) < (qau.length : Int)) ∧ Q (IntKind.i64.wrap (IntKind.i64.wrap (IntKind.i64.wrap ((0 : Int) + (16 : Int)) + (8 : Int)) + bI (ix qau (IntKind.u8.wrap (shr IntKind.u64 (shr IntKind.u64 a0_x (16 : Int)) (8 : Int))))))) ∧ (¬(256 : Int) ≤ shr IntKind.u64 a0_x (16 : Int) → ((0 : Int) ≤ IntKind.u8.wrap (shr IntKind.u64 a0_x (16 : Int)) ∧ IntKind.u8.wrap (shr IntKind.u64 a0_x (16 : Int)) < (qau.length : Int)) ∧ Q (IntKind.i64.wrap (IntKind.i64.wrap ((0 : Int) + (16 : Int)) + bI (ix qau (IntKind.u8.wrap (shr IntKind.u64 a0_x (16 : Int)))))))) ∧ (¬(65536 : Int) ≤ a0_x → ((256 : Int) ≤ a0_x → ((0 : Int) ≤ IntKind.u8.wrap (shr IntKind.u64 a0_x (8 : Int)) ∧ IntKind.u8.wrap (shr IntKind.u64 a0_x (8 : Int)) < (qau.length : Int)) ∧ Q (IntKind.i64.wrap (IntKind.i64.wrap ((0 : Int) + (8 : Int)) + bI (ix qau (IntKind.u8.wrap (shr IntKind.u64 a0_x (8 : Int))))))) ∧ (¬(256 : Int) ≤ a0_x → ((0 : Int) ≤ IntKind.u8.wrap a0_x ∧ IntKind.u8.wrap a0_x < (qau.length : Int)) ∧ Q (IntKind.i64.wrap ((0 : Int) + bI (ix qau (IntKind.u8.wrap a0_x)))))))
theorem qqD {a0_x : Int} (w_0 : (Ty.kd (.int .u64)).wf a0_x) : qin a0_x (fun o0 => o0 = (blen a0_x.toNat : Int)) := by
 obtain ⟨n, rfl⟩ := Int.eq_ofNat_of_zero_le w_0.1
 have hn : n < 18446744073709551616 := by
  have h : ((n : Int)) ≤ (18446744073709551615 : Int) := w_0.2
  omega
 have ht : qau = qfx := by decide +kernel
 have s32 : ∀ m : Nat, shr .u64 (m : Int) 32 = ((m / 4294967296 : Nat) : Int) := fun m => qho (k := 32) (by decide)
 have s16 : ∀ m : Nat, shr .u64 (m : Int) 16 = ((m / 65536 : Nat) : Int) := fun m => qho (k := 16) (by decide)
 have s8 : ∀ m : Nat, shr .u64 (m : Int) 8 = ((m / 256 : Nat) : Int) := fun m => qho (k := 8) (by decide)
 have b32 : ∀ m : Nat, 4294967296 ≤ m → blen m = 32 + blen (m / 4294967296) := fun m h => qc4 32 h
 have b16 : ∀ m : Nat, 65536 ≤ m → blen m = 16 + blen (m / 65536) := fun m h => qc4 16 h
 have b8 : ∀ m : Nat, 256 ≤ m → blen m = 8 + blen (m / 256) := fun m h => qc4 8 h
 unfold qin
 simp only [s32, s16, s8, Int.toNat_natCast]
 refine ⟨fun h1 => ⟨fun h2 => ⟨fun h3 => ?_, fun h3 => ?_⟩, fun h2 => ⟨fun h3 => ?_, fun h3 => ?_⟩⟩, fun h1 => ⟨fun h2 => ⟨fun h3 => ?_, fun h3 => ?_⟩, fun h2 => ⟨fun h3 => ?_, fun h3 => ?_⟩⟩⟩
 ·exact qcH (k := 56) (by omega) (by omega) (by rw [b32 n (by omega), b16 _ (by omega), b8 _ (by omega)]; omega) (by decide) ht
 ·exact qcH (k := 48) (by omega) (by omega) (by rw [b32 n (by omega), b16 _ (by omega)]; omega) (by decide) ht
 ·exact qcH (k := 40) (by omega) (by omega) (by rw [b32 n (by omega), b8 _ (by omega)]; omega) (by decide) ht
 ·exact qcH (k := 32) (by omega) (by omega) (by rw [b32 n (by omega)]) (by decide) ht
 ·exact qcH (k := 24) (by omega) (by omega) (by rw [b16 n (by omega), b8 _ (by omega)]; omega) (by decide) ht
 ·exact qcH (k := 16) (by omega) (by omega) (by rw [b16 n (by omega)]) (by decide) ht
 ·exact qcH (k := 8) (by omega) (by omega) (by rw [b8 n (by omega)]) (by decide) ht
 ·exact qcH (k := 0) (by omega) (by omega) (by omega) (by decide) ht
theorem qqC : (∀ a, qfh.pre a → PM.wfP qfh.pm a (fvc qnS 200 108 qfh a (eqO qfh a))) = (∀ a : Int × Unit, True → (Ty.kd (.int .u64)).wf a.1 → qin a.1 (fun o0 => o0 = (blen (a.1).toNat : Int))) := by kernel_rfl
theorem qtx : qfh.valid Try.prog 108 := qat (X := qnS) (qaK qam (fun b hb => by cases hb; exact qar) qas trivial) 200 (qqC.mpr fun a hp w_0 => @qqD a.1 w_0)
noncomputable def qjz : Ctr := ⟨[.v (.sl .byte), .v (.sl (.int .u64))], [.ow 5 .byte], some (fun a => (fun (a0_b : List UInt8) (a1_l : List Int) => (a0_b.length + 9 * a1_l.length ≤ 140737488355328 : Prop)) a.1 a.2.1), fun a => (fun (a0_b : List UInt8) (a1_l : List Int) => (((a0_b ++ qag a1_l), ()), (()))) a.1 a.2.1⟩
noncomputable def qvq : Fx := ⟨seat, some bkT, fns, [(69, qb7), (108, qfh)], [], [], []⟩
def qnT (a0_b : List UInt8) (a1_l : List Int) (Q : (List UInt8) → Prop) : Prop :=
 a0_b.length ≤ (140737488355328 : Nat) ∧ (Ty.byte.kd.sl.wf a0_b → ∃ (x0 : List UInt8 → Int → Prop), ∃ (x1 : List UInt8 → Int → Nat), x0 a0_b (0 : Int) ∧ ∀ (x2 : List UInt8) (x3 : Int), x0 x2 x3 → Ty.byte.kd.sl.wf x2 → (Kd.int IntKind.i64).wf x3 → (x3 < (a1_l.length : Int) → ((0 : Int) ≤ x3 ∧ x3 < (a1_l.length : Int)) ∧ ((Ty.int IntKind.i64).kd.wf (blen (ix a1_l x3).toNat : Int) → (x2.length + (toB (IntKind.u8.wrap (IntKind.i64.wrap ((IntKind.i64.wrap ((blen (ix a1_l x3).toNat : Int) + (7 : Int))).tdiv (8 : Int)))) :: ([] : List UInt8)).length) * (1 : Nat) ≤ (140737488355328 : Nat) ∧ ∃ (x9 : List UInt8 → Int → Prop), ∃ (x10 : List UInt8 → Int → Nat), x9 (x2 ++ toB (IntKind.u8.wrap (IntKind.i64.wrap ((IntKind.i64.wrap ((blen (ix a1_l x3).toNat : Int) + (7 : Int))).tdiv (8 : Int)))) :: ([] : List UInt8)) (IntKind.i64.wrap ((8 : Int) * IntKind.i64.wrap ((IntKind.i64.wrap ((blen (ix a1_l x3).toNat : Int) + (7 : Int))).tdiv (8 : Int)))) ∧ ∀ (x11 : List UInt8) (x12 : Int), x9 x11 x12 → Ty.byte.kd.sl.wf x11 → (Kd.int IntKind.i64).wf x12 → ((0 : Int) < x12 → (0 : Int) ≤ IntKind.i64.wrap (x12 - (8 : Int)) ∧ (x11.length + (toB (IntKind.u8.wrap (shr IntKind.u64 (ix a1_l x3) (IntKind.i64.wrap (x12 - (8 : Int))))) :: ([] : List UInt8)).length) * (1 : Nat) ≤ (140737488355328 : Nat) ∧ x9 (x11 ++ toB (IntKind.u8.wrap (shr IntKind.u64 (ix a1_l x3) (IntKind.i64.wrap (x12 - (8 : Int))))) :: ([] : List UInt8)) (IntKind.i64.wrap (x12 - (8 : Int))) ∧ x10 (x11 ++ toB (IntKind.u8.wrap (shr IntKind.u64 (ix a1_l x3) (IntKind.i64.wrap (x12 - (8 : Int))))) :: ([] : List UInt8)) (IntKind.i64.wrap (x12 - (8 : Int))) < x10 x11 x12) ∧ (¬(0 : Int) < x12 → x3 < (9223372036854775807 : Int) ∧ x0 x11 (x3 + (1 : Int)) ∧ x1 x11 (x3 + (1 : Int)) < x1 x2 x3))) ∧ (¬x3 < (a1_l.length : Int) → Q x2))
theorem qvs {a0_b : List UInt8} {a1_l : List Int} (w_0 : (Ty.kd (.sl .byte)).wf a0_b) (w_1 : (Ty.kd (.sl (.int .u64))).wf a1_l) (hp : a0_b.length + 9 * a1_l.length ≤ 140737488355328) : qnT a0_b a1_l (fun o0 => o0 = (a0_b ++ qag a1_l)) := by
 have hw : ∀ x ∈ a1_l, ∃ n : Nat, x = (n : Int) ∧ n < 2 ^ 64 := fun x hx => by
  obtain ⟨n, rfl⟩ := Int.eq_ofNat_of_zero_le (w_1.2 x hx).1
  have h : ((n : Int)) ≤ (18446744073709551615 : Int) := (w_1.2 (n : Int) hx).2
  exact ⟨n, rfl, by omega⟩
 have hlen : ∀ j, j ≤ a1_l.length → (qag (a1_l.take j)).length ≤ 9 * j := by
  intro j
  induction j with
  | zero => intro _; simp [qag]
  | succ j ih =>
    intro hj
    have hlt : (j : Int) < (a1_l.length : Int) := by omega
    obtain ⟨n, hn, hb⟩ := hw _ (qeo (by omega) hlt)
    have h1 := qaA hb
    have h2 := ih (by omega)
    rw [qbp hlt]
    unfold qag at *
    rw [List.flatMap_append, List.length_append]
    simp only [List.flatMap_cons, List.flatMap_nil, List.append_nil, hn, Int.toNat_natCast]
    omega
 unfold qnT
 refine ⟨by omega, fun _ => ⟨fun out i => ∃ j : Nat, i = (j : Int) ∧ j ≤ a1_l.length ∧ out = a0_b ++ qag (a1_l.take j), fun _ i => a1_l.length - i.toNat, ⟨0, rfl, by omega, by simp [qag]⟩, ?_⟩⟩
 rintro out i ⟨j, rfl, hj, rfl⟩ _ hwi
 refine ⟨fun hlt => ⟨⟨by omega, hlt⟩, fun _ => ⟨?_, ?_⟩⟩, fun hge => ?_⟩
 ·have := hlen j hj
  simp only [List.length_append, List.length_cons, List.length_nil]
  omega
 ·obtain ⟨n, hn, hb⟩ := hw _ (qeo (by omega) hlt)
  have hbl := qcQ 64 hb
  have hk := qxD hbl
  rw [hn]
  simp only [Int.toNat_natCast, hk]
  rw [qs8]
  generalize hkk : (blen n + 7) / 8 = k
  have hk8 : k ≤ 8 := by omega
  have hT : a0_b ++ qag (a1_l.take (j + 1)) = a0_b ++ qag (a1_l.take j) ++ [UInt8.ofNat k] ++ be n k := by
   rw [qbp hlt]
   simp [qag, numB, hn, hkk]
  have hTl := hlen (j + 1) (by omega)
  have hTl2 : (a0_b ++ qag (a1_l.take (j + 1))).length ≤ 140737488355328 := by
   rw [List.length_append]
   omega
  refine ⟨fun out at_ => ∃ m : Nat, m ≤ k ∧ at_ = ((8 * m : Nat) : Int) ∧ out ++ be n m = a0_b ++ qag (a1_l.take (j + 1)), fun _ at_ => at_.toNat, ⟨k, Nat.le_refl _, ?_, hT.symm⟩, ?_⟩
  ·rw [qan (wf64 (by omega) (by omega))]
   omega
  ·rintro out at_ ⟨m, hm, rfl, hout⟩ _ _
   refine ⟨fun hpos => ?_, fun hz => ?_⟩
   ·obtain ⟨m, rfl⟩ : ∃ m', m = m' + 1 := ⟨m - 1, by omega⟩
    have e8 : IntKind.i64.wrap (((8 * (m + 1) : Nat) : Int) - 8) = ((8 * m : Nat) : Int) := by
     rw [qan (wf64 (by omega) (by omega))]
     omega
    rw [e8, qoz (by omega)]
    have hol := congrArg List.length hout
    simp only [List.length_append, qaQ] at hol
    simp only [List.length_append] at hTl2
    refine ⟨by omega, ?_, ⟨m, by omega, rfl, ?_⟩, ?_⟩
    ·simp only [List.length_cons, List.length_nil]
     omega
    ·rw [← hout]
     simp [be]
    ·show ((8 * m : Nat) : Int).toNat < ((8 * (m + 1) : Nat) : Int).toNat
     omega
   ·have : m = 0 := by omega
    subst this
    have h2 := w_1.1
    unfold LM at h2
    refine ⟨by omega, ⟨j + 1, rfl, by omega, by simpa [be] using hout⟩, ?_⟩
    show a1_l.length - ((j + 1 : Nat) : Int).toNat < a1_l.length - (j : Int).toNat
    omega
 ·have : j = a1_l.length := by omega
  subst this
  rw [List.take_length]
theorem qvr : (∀ a, qjz.pre a → PM.wfP qjz.pm a (fvc qvq 200 62 qjz a (eqO qjz a))) = (∀ a : (List UInt8) × (List Int) × Unit, ((a.1).length + 9 * (a.2.1).length ≤ 140737488355328) → (Ty.kd (.sl .byte)).wf a.1 → (Ty.kd (.sl (.int .u64))).wf a.2.1 → qnT a.1 a.2.1 (fun o0 => o0 = ((a.1) ++ qag (a.2.1)))) := by kernel_rfl
theorem qty : qjz.valid Try.prog 62 := qat (X := qvq) (qaK qam (fun b hb => by cases hb; exact qar) qas ⟨qdJ, qtx, trivial⟩) 200 (qvr.mpr fun a hp w_0 w_1 => @qvs a.1 a.2.1 w_0 w_1 hp)
noncomputable def qgA : Ctr := ⟨[.v (.sl .byte), .v (.sl (.sl .byte))], [.ow 5 .byte], some (fun a => (fun (a0_b : List UInt8) (a1_l : List (List UInt8)) => (a0_b.length + qaj a1_l ≤ 140737488355328 : Prop)) a.1 a.2.1), fun a => (fun (a0_b : List UInt8) (a1_l : List (List UInt8)) => (((a0_b ++ qal a1_l), ()), (()))) a.1 a.2.1⟩
noncomputable def qsv : Fx := ⟨seat, some bkT, fns, [(69, qb7), (62, qjz)], [], [], []⟩
def qku (a0_b : List UInt8) (a1_l : List (List UInt8)) (Q : (List UInt8) → Prop) : Prop :=
 a0_b.length ≤ (140737488355328 : Nat) ∧ (Ty.byte.kd.sl.wf a0_b → ∃ (x0 : List UInt8 → Int → Prop), ∃ (x1 : List UInt8 → Int → Nat), x0 a0_b (0 : Int) ∧ ∀ (x2 : List UInt8) (x3 : Int), x0 x2 x3 → Ty.byte.kd.sl.wf x2 → (Kd.int IntKind.i64).wf x3 → (x3 < (a1_l.length : Int) → ((0 : Int) ≤ x3 ∧ x3 < (a1_l.length : Int)) ∧ x2.length + (9 : Nat) * (IntKind.u64.wrap ((ix a1_l x3).length : Int) :: ([] : List Int)).length ≤ (140737488355328 : Nat) ∧ (Ty.byte.kd.sl.wf (x2 ++ qag (IntKind.u64.wrap ((ix a1_l x3).length : Int) :: ([] : List Int))) → ((x2 ++ qag (IntKind.u64.wrap ((ix a1_l x3).length : Int) :: ([] : List Int))).length + (ix a1_l x3).length) * (1 : Nat) ≤ (140737488355328 : Nat) ∧ x3 < (9223372036854775807 : Int) ∧ x0 (x2 ++ qag (IntKind.u64.wrap ((ix a1_l x3).length : Int) :: ([] : List Int)) ++ ix a1_l x3) (x3 + (1 : Int)) ∧ x1 (x2 ++ qag (IntKind.u64.wrap ((ix a1_l x3).length : Int) :: ([] : List Int)) ++ ix a1_l x3) (x3 + (1 : Int)) < x1 x2 x3)) ∧ (¬x3 < (a1_l.length : Int) → Q x2))
theorem qte {a0_b : List UInt8} {a1_l : List (List UInt8)} (w_0 : (Ty.kd (.sl .byte)).wf a0_b) (w_1 : (Ty.kd (.sl (.sl .byte))).wf a1_l) (hp : a0_b.length + qaj a1_l ≤ 140737488355328) : qku a0_b a1_l (fun o0 => o0 = (a0_b ++ qal a1_l)) := by
 have hw : ∀ x ∈ a1_l, x.length ≤ LM := fun x hx => (w_1.2 x hx).1
 unfold qku
 refine ⟨by omega, fun _ => ⟨fun out i => ∃ j : Nat, i = (j : Int) ∧ j ≤ a1_l.length ∧ out = a0_b ++ qal (a1_l.take j), fun _ i => a1_l.length - i.toNat, ⟨0, rfl, by omega, by simp [qal]⟩, ?_⟩⟩
 rintro out i ⟨j, rfl, hj, rfl⟩ _ _
 refine ⟨fun hlt => ⟨⟨by omega, hlt⟩, ?_, fun _ => ⟨?_, by have := w_1.1; unfold LM at this; omega, ?_, ?_⟩⟩, fun hge => ?_⟩
 ·have h1 := qby (a1_l.take j) (fun y hy => by have := hw y (List.mem_of_mem_take hy); unfold LM at this; omega)
  have h2 := qdm hlt
  simp only [List.length_append, List.length_cons, List.length_nil]
  omega
 ·have h1 := qby (a1_l.take j) (fun y hy => by have := hw y (List.mem_of_mem_take hy); unfold LM at this; omega)
  have h2 := qdm hlt
  have h3 := hw _ (qeo (by omega) hlt)
  have h4 : IntKind.u64.wrap ((ix a1_l (j : Int)).length : Int) = ((ix a1_l (j : Int)).length : Int) := qan ⟨by show (0 : Int) ≤ _; omega, by unfold LM at h3; show _ ≤ (18446744073709551615 : Int); omega⟩
  have h5 := qaA (n := (ix a1_l (j : Int)).length) (by unfold LM at h3; omega)
  rw [h4]
  simp only [List.length_append, qag, List.flatMap_cons, List.flatMap_nil, List.append_nil, Int.toNat_natCast]
  omega
 ·have h3 := hw _ (qeo (by omega) hlt)
  have h4 : IntKind.u64.wrap ((ix a1_l (j : Int)).length : Int) = ((ix a1_l (j : Int)).length : Int) := qan ⟨by show (0 : Int) ≤ _; omega, by unfold LM at h3; show _ ≤ (18446744073709551615 : Int); omega⟩
  refine ⟨j + 1, by omega, by omega, ?_⟩
  rw [h4, qbp hlt]
  simp [qal, qag]
 ·show a1_l.length - ((j : Int) + 1).toNat < a1_l.length - (j : Int).toNat
  omega
 ·have : j = a1_l.length := by omega
  subst this
  rw [List.take_length]
theorem qtd : (∀ a, qgA.pre a → PM.wfP qgA.pm a (fvc qsv 200 95 qgA a (eqO qgA a))) = (∀ a : (List UInt8) × (List (List UInt8)) × Unit, ((a.1).length + qaj (a.2.1) ≤ 140737488355328) → (Ty.kd (.sl .byte)).wf a.1 → (Ty.kd (.sl (.sl .byte))).wf a.2.1 → qku a.1 a.2.1 (fun o0 => o0 = ((a.1) ++ qal (a.2.1)))) := by kernel_rfl
theorem qsw : qgA.valid Try.prog 95 := qat (X := qsv) (qaK qam (fun b hb => by cases hb; exact qar) qas ⟨qdJ, qty, trivial⟩) 200 (qtd.mpr fun a hp w_0 w_1 => @qte a.1 a.2.1 w_0 w_1 hp)
noncomputable def qcW : Ctr := ⟨[.v (.int .i64), .v (.sl (.sl .byte))], [.ow 5 .byte], some (fun a => (fun (a0_kind : Int) (a1_parts : List (List UInt8)) => (1 + qaj a1_parts ≤ 140737488355328 : Prop)) a.1 a.2.1), fun a => (fun (a0_kind : Int) (a1_parts : List (List UInt8)) => (((preimage a0_kind a1_parts), ()), (()))) a.1 a.2.1⟩
noncomputable def qhK : Fx := ⟨seat, some bkT, fns, [(95, qgA)], [], [], []⟩
def qet (a0_kind : Int) (a1_parts : List (List UInt8)) (Q : (List UInt8) → Prop) : Prop :=
 (toB (IntKind.u8.wrap a0_kind) :: ([] : List UInt8)).length + qaj a1_parts ≤ (140737488355328 : Nat) ∧ (Ty.byte.kd.sl.wf (toB (IntKind.u8.wrap a0_kind) :: ([] : List UInt8) ++ qal a1_parts) → Q (toB (IntKind.u8.wrap a0_kind) :: ([] : List UInt8) ++ qal a1_parts))
theorem qkF {a0_kind : Int} {a1_parts : List (List UInt8)} (w_0 : (Ty.kd (.int .i64)).wf a0_kind) (w_1 : (Ty.kd (.sl (.sl .byte))).wf a1_parts) (hp : 1 + qaj a1_parts ≤ 140737488355328) : qet a0_kind a1_parts (fun o0 => o0 = (preimage a0_kind a1_parts)) := by
 unfold qet
 refine ⟨by simpa using hp, fun _ => rfl⟩
theorem qkE : (∀ a, qcW.pre a → PM.wfP qcW.pm a (fvc qhK 200 98 qcW a (eqO qcW a))) = (∀ a : Int × (List (List UInt8)) × Unit, (1 + qaj (a.2.1) ≤ 140737488355328) → (Ty.kd (.int .i64)).wf a.1 → (Ty.kd (.sl (.sl .byte))).wf a.2.1 → qet a.1 a.2.1 (fun o0 => o0 = (preimage (a.1) (a.2.1)))) := by kernel_rfl
theorem qmX : qcW.valid Try.prog 98 := qat (X := qhK) (qaK qam (fun b hb => by cases hb; exact qar) qas ⟨qsw, trivial⟩) 200 (qkE.mpr fun a hp w_0 w_1 => @qkF a.1 a.2.1 w_0 w_1 hp)
noncomputable def qkD : Ctr := ⟨[], [.bx (.pr (.arr 8 (.int .u32)) (.pr (.int .u64) (.sl .byte)))], none, fun _ => ((((List.replicate 8 (0 : Int), (0 : Int), ([] : List UInt8)) : List Int × Int × List UInt8), ()), (()))⟩
noncomputable def qvm : Fx := ⟨seat, some bkT, fns, [], [], [], []⟩
def qsD (Q : ((List Int) × Int × List UInt8) → Prop) : Prop :=
 Q ((Ty.arr (8 : Nat) (Ty.int IntKind.u32)).pr ((Ty.int IntKind.u64).pr Ty.byte.sl)).kd.z
theorem qvp  : qsD  (fun o0 => o0 = ((List.replicate 8 (0 : Int), (0 : Int), ([] : List UInt8)) : List Int × Int × List UInt8)) := by
 exact rfl
theorem qvn : (∀ a, qkD.pre a → PM.wfP qkD.pm a (fvc qvm 200 123 qkD a (eqO qkD a))) = (∀ a : Unit, True → qsD  (fun o0 => o0 = ((List.replicate 8 (0 : Int), (0 : Int), ([] : List UInt8)) : List Int × Int × List UInt8))) := by kernel_rfl
theorem qvo : qkD.valid Try.prog 123 := qat (X := qvm) (qaK qam (fun b hb => by cases hb; exact qar) qas trivial) 200 (qvn.mpr fun a hp  => @qvp )
noncomputable def qhZ : Ctr := ⟨[.v (.int .u64)], [.ow 5 .byte], none, fun a => (fun (a0_x : Int) => (((be a0_x.toNat 8), ()), (()))) a.1⟩
noncomputable def qsT : Fx := ⟨seat, some bkT, fns, [], [], [], []⟩
def qk8 (a0_x : Int) (Q : (List UInt8) → Prop) : Prop :=
 ∃ (x0 : List UInt8 → Int → Prop), ∃ (x1 : List UInt8 → Int → Nat), x0 ([] : List UInt8) (56 : Int) ∧ ∀ (x2 : List UInt8) (x3 : Int), x0 x2 x3 → Ty.byte.kd.sl.wf x2 → (Kd.int IntKind.i64).wf x3 → ((0 : Int) ≤ x3 → (0 : Int) ≤ x3 ∧ (x2.length + (toB (IntKind.u8.wrap (shr IntKind.u64 a0_x x3)) :: ([] : List UInt8)).length) * (1 : Nat) ≤ (140737488355328 : Nat) ∧ x0 (x2 ++ toB (IntKind.u8.wrap (shr IntKind.u64 a0_x x3)) :: ([] : List UInt8)) (IntKind.i64.wrap (x3 - (8 : Int))) ∧ x1 (x2 ++ toB (IntKind.u8.wrap (shr IntKind.u64 a0_x x3)) :: ([] : List UInt8)) (IntKind.i64.wrap (x3 - (8 : Int))) < x1 x2 x3) ∧ (¬(0 : Int) ≤ x3 → Q x2)
theorem quw {a0_x : Int} (w_0 : (Ty.kd (.int .u64)).wf a0_x) : qk8 a0_x (fun o0 => o0 = (be a0_x.toNat 8)) := by
 obtain ⟨n, rfl⟩ := Int.eq_ofNat_of_zero_le w_0.1
 unfold qk8
 rw [Int.toNat_natCast]
 refine ⟨fun b i => ∃ m : Nat, m ≤ 8 ∧ i = 8 * (m : Int) - 8 ∧ b ++ be n m = be n 8, fun _ i => (i + 8).toNat, ⟨8, by omega, by omega, rfl⟩, ?_⟩
 rintro b i ⟨m, hm, rfl, hb⟩ _ _
 have hbl := congrArg List.length hb
 simp only [List.length_append, qaQ] at hbl
 refine ⟨fun h0 => ⟨h0, ?_, ?_, ?_⟩, fun h => ?_⟩
 ·simp only [List.length_cons, List.length_nil]
  omega
 ·obtain ⟨m, rfl⟩ : ∃ m', m = m' + 1 := ⟨m - 1, by omega⟩
  have e : 8 * ((m + 1 : Nat) : Int) - 8 = ((8 * m : Nat) : Int) := by omega
  rw [e, qoz (by omega), qan (wf64 (by omega) (by omega))]
  refine ⟨m, by omega, by omega, ?_⟩
  rw [← hb]
  simp [be]
 ·rw [qan (wf64 (by omega) (by omega))]
  show (8 * (m : Int) - 8 - 8 + 8).toNat < (8 * (m : Int) - 8 + 8).toNat
  omega
 ·have : m = 0 := by omega
  subst this
  simpa [be] using hb
theorem quv : (∀ a, qhZ.pre a → PM.wfP qhZ.pm a (fvc qsT 200 139 qhZ a (eqO qhZ a))) = (∀ a : Int × Unit, True → (Ty.kd (.int .u64)).wf a.1 → qk8 a.1 (fun o0 => o0 = (be (a.1).toNat 8))) := by kernel_rfl
theorem qws : qhZ.valid Try.prog 139 := qat (X := qsT) (qaK qam (fun b hb => by cases hb; exact qar) qas trivial) 200 (quv.mpr fun a hp w_0 => @quw a.1 w_0)
noncomputable def qfG : Ctr := ⟨[], [.v (.arr 8 (.int .u32))], none, fun _ => ((shaH, ()), (()))⟩
noncomputable def qo0 : Fx := ⟨seat, some bkT, fns, [], [], [], []⟩
def qmd (Q : (List Int) → Prop) : Prop :=
 Q ((1779033703 : Int) :: (3144134277 : Int) :: (1013904242 : Int) :: (2773480762 : Int) :: (1359893119 : Int) :: (2600822924 : Int) :: (528734635 : Int) :: (1541459225 : Int) :: ([] : List Int))
theorem qrv  : qmd  (fun o0 => o0 = shaH) := by
 exact rfl
theorem qru : (∀ a, qfG.pre a → PM.wfP qfG.pm a (fvc qo0 200 135 qfG a (eqO qfG a))) = (∀ a : Unit, True → qmd  (fun o0 => o0 = shaH)) := by kernel_rfl
theorem quq : qfG.valid Try.prog 135 := qat (X := qo0) (qaK qam (fun b hb => by cases hb; exact qar) qas trivial) 200 (qru.mpr fun a hp  => @qrv )
noncomputable def qef : Ctr := ⟨[], [.v (.arr 64 (.int .u32))], none, fun _ => ((shaK, ()), (()))⟩
noncomputable def qmD : Fx := ⟨seat, some bkT, fns, [], [], [], []⟩
def qkf (Q : (List Int) → Prop) : Prop :=
 Q ((1116352408 : Int) :: (1899447441 : Int) :: (3049323471 : Int) :: (3921009573 : Int) :: (961987163 : Int) :: (1508970993 : Int) :: (2453635748 : Int) :: (2870763221 : Int) :: (3624381080 : Int) :: (310598401 : Int) :: (607225278 : Int) :: (1426881987 : Int) :: (1925078388 : Int) :: (2162078206 : Int) :: (2614888103 : Int) :: (3248222580 : Int) :: (3835390401 : Int) :: (4022224774 : Int) :: (264347078 : Int) :: (604807628 : Int) :: (770255983 : Int) :: (1249150122 : Int) :: (1555081692 : Int) :: (1996064986 : Int) :: (2554220882 : Int) :: (2821834349 : Int) :: (2952996808 : Int) :: (3210313671 : Int) :: (3336571891 : Int) :: (3584528711 : Int) :: (113926993 : Int) :: (338241895 : Int) :: (666307205 : Int) :: (773529912 : Int) :: (1294757372 : Int) :: (1396182291 : Int) :: (1695183700 : Int) :: (1986661051 : Int) :: (2177026350 : Int) :: (2456956037 : Int) :: (2730485921 : Int) :: (2820302411 : Int) :: (3259730800 : Int) :: (3345764771 : Int) :: (3516065817 : Int) :: (3600352804 : Int) :: (4094571909 : Int) :: (275423344 : Int) :: (430227734 : Int) :: (506948616 : Int) :: (659060556 : Int) :: (883997877 : Int) :: (958139571 : Int) :: (1322822218 : Int) :: (1537002063 : Int) :: (1747873779 : Int) :: (1955562222 : Int) :: (2024104815 : Int) :: (2227730452 : Int) :: (2361852424 : Int) :: (2428436474 : Int) :: (2756734187 : Int) :: (3204031479 : Int) :: (3329325298 : Int) :: ([] : List Int))
theorem qpS  : qkf  (fun o0 => o0 = shaK) := by
 exact rfl
theorem qpR : (∀ a, qef.pre a → PM.wfP qef.pm a (fvc qmD 200 147 qef a (eqO qef a))) = (∀ a : Unit, True → qkf  (fun o0 => o0 = shaK)) := by kernel_rfl
theorem qr5 : qef.valid Try.prog 147 := qat (X := qmD) (qaK qam (fun b hb => by cases hb; exact qar) qas trivial) 200 (qpR.mpr fun a hp  => @qpS )
noncomputable def qhN : Ctr := ⟨[.v (.int .u32), .v (.int .i64)], [.v (.int .u32)], none, fun a => (fun (a0_x : Int) (a1_k : Int) => (((rotl a0_x a1_k), ()), (()))) a.1 a.2.1⟩
noncomputable def qsG : Fx := ⟨seat, some bkT, fns, [], [], [], []⟩
def qog (a0_x : Int) (a1_k : Int) (Q : Int → Prop) : Prop :=
 Q (bor IntKind.u32 (shl IntKind.u32 a0_x (band IntKind.u64 (IntKind.u64.wrap a1_k) (31 : Int))) (shr IntKind.u32 a0_x (IntKind.u64.wrap ((32 : Int) - band IntKind.u64 (IntKind.u64.wrap a1_k) (31 : Int)))))
theorem qtT {a0_x : Int} {a1_k : Int} (w_0 : (Ty.kd (.int .u32)).wf a0_x) (w_1 : (Ty.kd (.int .i64)).wf a1_k) : qog a0_x a1_k (fun o0 => o0 = (rotl a0_x a1_k)) := by
 exact rfl
theorem qtS : (∀ a, qhN.pre a → PM.wfP qhN.pm a (fvc qsG 200 148 qhN a (eqO qhN a))) = (∀ a : Int × Int × Unit, True → (Ty.kd (.int .u32)).wf a.1 → (Ty.kd (.int .i64)).wf a.2.1 → qog a.1 a.2.1 (fun o0 => o0 = (rotl (a.1) (a.2.1)))) := by kernel_rfl
theorem qvU : qhN.valid Try.prog 148 := qat (X := qsG) (qaK qam (fun b hb => by cases hb; exact qar) qas trivial) 200 (qtS.mpr fun a hp w_0 w_1 => @qtT a.1 a.2.1 w_0 w_1)
noncomputable def qf2 : Ctr := ⟨[.v (.int .u32), .v (.sl (.int .i64))], [.v (.int .u32)], none, fun a => (fun (a0_x : Int) (a1_l : List Int) => (((qaF a0_x a1_l), ()), (()))) a.1 a.2.1⟩
noncomputable def qp8 : Fx := ⟨seat, some bkT, fns, [(148, qhN)], [], [], []⟩
def qjm (a0_x : Int) (a1_l : List Int) (Q : Int → Prop) : Prop :=
 ∃ (x0 : Int → Int → Prop), ∃ (x1 : Int → Int → Nat), x0 (0 : Int) (0 : Int) ∧ ∀ (x2 x3 : Int), x0 x2 x3 → (Kd.int IntKind.u32).wf x2 → (Kd.int IntKind.i64).wf x3 → (x3 < (a1_l.length : Int) → ((0 : Int) ≤ x3 ∧ x3 < (a1_l.length : Int)) ∧ ((Ty.int IntKind.u32).kd.wf (rotl a0_x (IntKind.i64.wrap ((0 : Int) - ix a1_l x3))) → x3 < (9223372036854775807 : Int) ∧ x0 (bxor IntKind.u32 x2 (rotl a0_x (IntKind.i64.wrap ((0 : Int) - ix a1_l x3)))) (x3 + (1 : Int)) ∧ x1 (bxor IntKind.u32 x2 (rotl a0_x (IntKind.i64.wrap ((0 : Int) - ix a1_l x3)))) (x3 + (1 : Int)) < x1 x2 x3)) ∧ (¬x3 < (a1_l.length : Int) → Q x2)
theorem qsm {a0_x : Int} {a1_l : List Int} (w_0 : (Ty.kd (.int .u32)).wf a0_x) (w_1 : (Ty.kd (.sl (.int .i64))).wf a1_l) : qjm a0_x a1_l (fun o0 => o0 = (qaF a0_x a1_l)) := by
 unfold qjm
 refine ⟨fun s i => ∃ j : Nat, i = (j : Int) ∧ j ≤ a1_l.length ∧ s = qaF a0_x (a1_l.take j), fun _ i => a1_l.length - i.toNat, ⟨0, rfl, by omega, rfl⟩, ?_⟩
 rintro s i ⟨j, rfl, hj, rfl⟩ _ _
 refine ⟨fun hlt => ⟨⟨by omega, hlt⟩, fun _ => ⟨by have := w_1.1; unfold LM at this; omega, ⟨j + 1, by omega, by omega, ?_⟩, ?_⟩⟩, fun hge => ?_⟩
 ·rw [qbp hlt]
  simp [qaF]
 ·show a1_l.length - ((j : Int) + 1).toNat < a1_l.length - (j : Int).toNat
  omega
 ·have : j = a1_l.length := by omega
  subst this
  rw [List.take_length]
theorem qsl : (∀ a, qf2.pre a → PM.wfP qf2.pm a (fvc qp8 200 146 qf2 a (eqO qf2 a))) = (∀ a : Int × (List Int) × Unit, True → (Ty.kd (.int .u32)).wf a.1 → (Ty.kd (.sl (.int .i64))).wf a.2.1 → qjm a.1 a.2.1 (fun o0 => o0 = (qaF (a.1) (a.2.1)))) := by kernel_rfl
theorem qu1 : qf2.valid Try.prog 146 := qat (X := qp8) (qaK qam (fun b hb => by cases hb; exact qar) qas ⟨qvU, trivial⟩) 200 (qsl.mpr fun a hp w_0 w_1 => @qsm a.1 a.2.1 w_0 w_1)
noncomputable def qhH : Ctr := ⟨[.bx (.pr (.arr 8 (.int .u32)) (.pr (.int .u64) (.sl .byte))) false], [.v (.int .u64)], none, fun a => (fun (a0_h : (List Int) × Int × List UInt8) => (((hLen a0_h), ()), (()))) a.1⟩
noncomputable def qsz : Fx := ⟨seat, some bkT, fns, [], [], [], [(3, [], [.o 0 2, .o 1 2, .o 2 2, .o 3 2, .o 4 2, .o 5 2, .o 6 2, .o 7 2, .o 8 2, .o 9 2, .o 10 2, .o 11 2, .o 12 2])]⟩
def qnN (a0_h : (List Int) × Int × List UInt8) (Q : Int → Prop) : Prop :=
 Q (IntKind.u64.wrap (IntKind.u64.wrap ((64 : Int) * a0_h.snd.fst) + IntKind.u64.wrap (a0_h.snd.snd.length : Int)))
theorem qtp {a0_h : (List Int) × Int × List UInt8} (w_0 : (Ty.kd (.pr (.arr 8 (.int .u32)) (.pr (.int .u64) (.sl .byte)))).wf a0_h) : qnN a0_h (fun o0 => o0 = (hLen a0_h)) := by
 exact rfl
theorem qto : (∀ a, qhH.pre a → PM.wfP qhH.pm a (fvc qsz 200 138 qhH a (eqO qhH a))) = (∀ a : ((List Int) × Int × List UInt8) × Unit, True → (Ty.kd (.pr (.arr 8 (.int .u32)) (.pr (.int .u64) (.sl .byte)))).wf a.1 → qnN a.1 (fun o0 => o0 = (hLen (a.1)))) := by kernel_rfl
theorem qvi : qhH.valid Try.prog 138 := qat (X := qsz) (qaK qam (fun b hb => by cases hb; exact qar) qas trivial) 200 (qto.mpr fun a hp w_0 => @qtp a.1 w_0)
noncomputable def qff : Ctr := ⟨[.bx (.pr (.arr 8 (.int .u32)) (.pr (.int .u64) (.sl .byte))) false], [.bx (.pr (.arr 8 (.int .u32)) (.pr (.int .u64) (.sl .byte)))], some (fun a => (fun (a0_h : (List Int) × Int × List UInt8) => (a0_h.2.2.length ≤ 140737488355328 : Prop)) a.1), fun a => (fun (a0_h : (List Int) × Int × List UInt8) => ((a0_h, ()), (()))) a.1⟩
noncomputable def qnM : Fx := ⟨seat, some bkT, fns, [(69, qb7)], [], [], []⟩
def qlF (a0_h : (List Int) × Int × List UInt8) (Q : ((List Int) × Int × List UInt8) → Prop) : Prop :=
 a0_h.snd.snd.length ≤ (140737488355328 : Nat) ∧ (Ty.byte.kd.sl.wf a0_h.snd.snd → Q (a0_h.fst, a0_h.snd.fst, a0_h.snd.snd))
theorem qqA {a0_h : (List Int) × Int × List UInt8} (w_0 : (Ty.kd (.pr (.arr 8 (.int .u32)) (.pr (.int .u64) (.sl .byte)))).wf a0_h) (hp : a0_h.2.2.length ≤ 140737488355328) : qlF a0_h (fun o0 => o0 = a0_h) := by
 exact ⟨hp, fun _ => rfl⟩
theorem qqz : (∀ a, qff.pre a → PM.wfP qff.pm a (fvc qnM 200 137 qff a (eqO qff a))) = (∀ a : ((List Int) × Int × List UInt8) × Unit, ((a.1).2.2.length ≤ 140737488355328) → (Ty.kd (.pr (.arr 8 (.int .u32)) (.pr (.int .u64) (.sl .byte)))).wf a.1 → qlF a.1 (fun o0 => o0 = (a.1))) := by kernel_rfl
theorem qtn : qff.valid Try.prog 137 := qat (X := qnM) (qaK qam (fun b hb => by cases hb; exact qar) qas ⟨qdJ, trivial⟩) 200 (qqz.mpr fun a hp w_0 => @qqA a.1 w_0 hp)
end Go.Proofs.Ytmjjkpiglbpkhaa

set_option linter.unusedVariables false
set_option maxRecDepth 100000
set_option maxHeartbeats 20000000
namespace Go.Proofs.Ytmjjkpiglbpkhaa
open Go Go.RowKit Go.Inc
noncomputable def qie : Ctr := ⟨[.bx (.arr 8 (.int .u32)) true, .v (.sl .byte)], [], some (fun a => (fun (a0_s : List Int) (a1_b : List UInt8) => (a1_b.length = 64 : Prop)) a.1 a.2.1), fun a => (fun (a0_s : List Int) (a1_b : List UInt8) => ((()), ((qkj a0_s a1_b), ()))) a.1 a.2.1⟩
noncomputable def qs6 : Fx := ⟨seat, some bkT, fns, [(146, qf2), (147, qef)], [], [(2, [1], []), (10, [2], []), (18, [0], [])], [(5, [1], [.o 0 2, .o 1 2, .o 2 2, .o 3 2, .o 4 2, .o 5 2, .o 6 2, .o 7 2, .o 8 2, .o 9 2, .o 10 2, .o 11 2, .o 12 2, .o 13 2, .o 14 2, .o 15 2, .o 16 2, .o 17 2, .o 18 2, .o 19 2, .o 20 2, .o 21 2, .o 22 2, .o 23 2, .o 24 2, .o 25 2, .o 26 2, .o 27 2, .o 28 2, .o 29 2, .o 30 2, .o 31 2, .o 32 2, .o 33 2, .o 34 2, .o 35 1]), (6, [1], [.o 0 2, .o 1 2, .o 2 2, .o 3 2, .o 4 2, .o 5 2, .o 6 2, .o 7 2, .o 8 2, .o 9 2, .o 10 2, .o 11 2, .o 12 2, .o 13 2, .o 16 2, .o 17 2, .o 18 2, .o 19 2, .o 20 2, .o 23 2, .o 24 2, .o 25 2, .o 26 2, .o 29 2, .o 30 2, .o 31 2, .o 32 2, .o 33 2, .par [14, 15, 21, 22, 27] (.alt 14 0 (.alt 15 0 (.one 21 2 (.one 22 2 (.one 27 0 .fin))) (.alt 27 0 (.one 15 0 (.one 21 2 (.one 22 2 .fin))) .fin)) (.alt 27 0 (.one 14 0 (.one 15 0 (.one 21 2 (.one 22 2 .fin)))) .fin)), .o 28 0, .o 34 2, .o 35 2, .o 36 2, .o 37 1]), (12, [], [.o 0 2, .o 1 2, .o 2 2, .o 3 2, .o 4 2, .o 5 2]), (13, [], [.o 0 2, .o 1 2, .o 2 2, .o 6 2, .o 7 2, .o 8 2, .o 9 2, .o 10 2, .o 11 2, .o 12 2, .o 13 2, .o 14 2, .o 15 2, .o 17 2, .o 19 2, .o 20 2, .o 21 2, .o 3 0, .o 4 0, .o 5 2, .o 16 2, .o 18 2, .o 22 2, .o 23 2]), (14, [], [.o 0 2, .o 3 2, .o 4 2, .o 5 2, .o 6 2, .o 7 2, .o 8 2, .o 9 2, .o 10 2, .o 11 2, .o 12 2, .o 13 2, .o 14 2, .o 15 2, .o 16 2, .o 17 2, .o 1 0, .o 2 0, .o 18 2, .o 19 2]), (20, [0], [.o 0 2, .o 1 2, .o 2 2, .o 3 2, .o 4 2, .o 5 2, .o 6 2, .o 7 2, .o 8 2, .o 9 2, .o 10 2, .o 11 1])]⟩
def qls (a0_s : List Int) (a1_b : List UInt8) (Q : (List Int) → Prop) : Prop :=
 ∃ (x0 : Int → List Int → Prop), ∃ (x1 : Int → List Int → Nat), x0 (0 : Int) (Ty.arr (64 : Nat) (Ty.int IntKind.u32)).kd.z ∧ ∀ (x2 : Int) (x3 : List Int), x0 x2 x3 → (Kd.int IntKind.i64).wf x2 → (Ty.arr (64 : Nat) (Ty.int IntKind.u32)).kd.wf x3 → (x2 < (64 : Int) → (x2 < (16 : Int) → ((0 : Int) ≤ IntKind.i64.wrap ((4 : Int) * x2) ∧ IntKind.i64.wrap ((4 : Int) * x2) < (a1_b.length : Int)) ∧ ((0 : Int) ≤ IntKind.i64.wrap (IntKind.i64.wrap ((4 : Int) * x2) + (1 : Int)) ∧ IntKind.i64.wrap (IntKind.i64.wrap ((4 : Int) * x2) + (1 : Int)) < (a1_b.length : Int)) ∧ ((0 : Int) ≤ IntKind.i64.wrap (IntKind.i64.wrap ((4 : Int) * x2) + (2 : Int)) ∧ IntKind.i64.wrap (IntKind.i64.wrap ((4 : Int) * x2) + (2 : Int)) < (a1_b.length : Int)) ∧ ((0 : Int) ≤ IntKind.i64.wrap (IntKind.i64.wrap ((4 : Int) * x2) + (3 : Int)) ∧ IntKind.i64.wrap (IntKind.i64.wrap ((4 : Int) * x2) + (3 : Int)) < (a1_b.length : Int)) ∧ ((0 : Int) ≤ x2 ∧ x2 < ((64 : Nat) : Int)) ∧ x2 < (9223372036854775807 : Int) ∧ x0 (x2 + (1 : Int)) (x3.set x2.toNat (bor IntKind.u32 (bor IntKind.u32 (bor IntKind.u32 (shl IntKind.u32 (bI (ix a1_b (IntKind.i64.wrap ((4 : Int) * x2)))) (24 : Int)) (shl IntKind.u32 (bI (ix a1_b (IntKind.i64.wrap (IntKind.i64.wrap ((4 : Int) * x2) + (1 : Int))))) (16 : Int))) (shl IntKind.u32 (bI (ix a1_b (IntKind.i64.wrap (IntKind.i64.wrap ((4 : Int) * x2) + (2 : Int))))) (8 : Int))) (bI (ix a1_b (IntKind.i64.wrap (IntKind.i64.wrap ((4 : Int) * x2) + (3 : Int))))))) ∧ x1 (x2 + (1 : Int)) (x3.set x2.toNat (bor IntKind.u32 (bor IntKind.u32 (bor IntKind.u32 (shl IntKind.u32 (bI (ix a1_b (IntKind.i64.wrap ((4 : Int) * x2)))) (24 : Int)) (shl IntKind.u32 (bI (ix a1_b (IntKind.i64.wrap (IntKind.i64.wrap ((4 : Int) * x2) + (1 : Int))))) (16 : Int))) (shl IntKind.u32 (bI (ix a1_b (IntKind.i64.wrap (IntKind.i64.wrap ((4 : Int) * x2) + (2 : Int))))) (8 : Int))) (bI (ix a1_b (IntKind.i64.wrap (IntKind.i64.wrap ((4 : Int) * x2) + (3 : Int))))))) < x1 x2 x3) ∧ (¬x2 < (16 : Int) → ((0 : Int) ≤ IntKind.i64.wrap (x2 - (16 : Int)) ∧ IntKind.i64.wrap (x2 - (16 : Int)) < ((64 : Nat) : Int)) ∧ ((0 : Int) ≤ IntKind.i64.wrap (x2 - (7 : Int)) ∧ IntKind.i64.wrap (x2 - (7 : Int)) < ((64 : Nat) : Int)) ∧ ((0 : Int) ≤ IntKind.i64.wrap (x2 - (15 : Int)) ∧ IntKind.i64.wrap (x2 - (15 : Int)) < ((64 : Nat) : Int)) ∧ ((0 : Int) ≤ IntKind.i64.wrap (x2 - (15 : Int)) ∧ IntKind.i64.wrap (x2 - (15 : Int)) < ((64 : Nat) : Int)) ∧ ((0 : Int) ≤ IntKind.i64.wrap (x2 - (2 : Int)) ∧ IntKind.i64.wrap (x2 - (2 : Int)) < ((64 : Nat) : Int)) ∧ ((0 : Int) ≤ IntKind.i64.wrap (x2 - (2 : Int)) ∧ IntKind.i64.wrap (x2 - (2 : Int)) < ((64 : Nat) : Int)) ∧ (((Ty.int IntKind.u32).kd.wf (qaF (ix x3 (IntKind.i64.wrap (x2 - (15 : Int)))) ((7 : Int) :: (18 : Int) :: ([] : List Int))) → (Ty.int IntKind.u32).kd.wf (qaF (ix x3 (IntKind.i64.wrap (x2 - (2 : Int)))) ((17 : Int) :: (19 : Int) :: ([] : List Int))) → ((0 : Int) ≤ x2 ∧ x2 < ((64 : Nat) : Int)) ∧ x2 < (9223372036854775807 : Int) ∧ x0 (x2 + (1 : Int)) (x3.set x2.toNat (IntKind.u32.wrap (IntKind.u32.wrap (IntKind.u32.wrap (ix x3 (IntKind.i64.wrap (x2 - (16 : Int))) + ix x3 (IntKind.i64.wrap (x2 - (7 : Int)))) + bxor IntKind.u32 (qaF (ix x3 (IntKind.i64.wrap (x2 - (15 : Int)))) ((7 : Int) :: (18 : Int) :: ([] : List Int))) (shr IntKind.u32 (ix x3 (IntKind.i64.wrap (x2 - (15 : Int)))) (3 : Int))) + bxor IntKind.u32 (qaF (ix x3 (IntKind.i64.wrap (x2 - (2 : Int)))) ((17 : Int) :: (19 : Int) :: ([] : List Int))) (shr IntKind.u32 (ix x3 (IntKind.i64.wrap (x2 - (2 : Int)))) (10 : Int))))) ∧ x1 (x2 + (1 : Int)) (x3.set x2.toNat (IntKind.u32.wrap (IntKind.u32.wrap (IntKind.u32.wrap (ix x3 (IntKind.i64.wrap (x2 - (16 : Int))) + ix x3 (IntKind.i64.wrap (x2 - (7 : Int)))) + bxor IntKind.u32 (qaF (ix x3 (IntKind.i64.wrap (x2 - (15 : Int)))) ((7 : Int) :: (18 : Int) :: ([] : List Int))) (shr IntKind.u32 (ix x3 (IntKind.i64.wrap (x2 - (15 : Int)))) (3 : Int))) + bxor IntKind.u32 (qaF (ix x3 (IntKind.i64.wrap (x2 - (2 : Int)))) ((17 : Int) :: (19 : Int) :: ([] : List Int))) (shr IntKind.u32 (ix x3 (IntKind.i64.wrap (x2 - (2 : Int)))) (10 : Int))))) < x1 x2 x3) ∧ ((Ty.int IntKind.u32).kd.wf (qaF (ix x3 (IntKind.i64.wrap (x2 - (15 : Int)))) ((7 : Int) :: (18 : Int) :: ([] : List Int))) → (Ty.int IntKind.u32).kd.wf (qaF (ix x3 (IntKind.i64.wrap (x2 - (2 : Int)))) ((17 : Int) :: (19 : Int) :: ([] : List Int))) → ((0 : Int) ≤ x2 ∧ x2 < ((64 : Nat) : Int)) ∧ x2 < (9223372036854775807 : Int) ∧ x0 (x2 + (1 : Int)) (x3.set x2.toNat (IntKind.u32.wrap (IntKind.u32.wrap (IntKind.u32.wrap (ix x3 (IntKind.i64.wrap (x2 - (16 : Int))) + ix x3 (IntKind.i64.wrap (x2 - (7 : Int)))) + bxor IntKind.u32 (qaF (ix x3 (IntKind.i64.wrap (x2 - (15 : Int)))) ((7 : Int) :: (18 : Int) :: ([] : List Int))) (shr IntKind.u32 (ix x3 (IntKind.i64.wrap (x2 - (15 : Int)))) (3 : Int))) + bxor IntKind.u32 (qaF (ix x3 (IntKind.i64.wrap (x2 - (2 : Int)))) ((17 : Int) :: (19 : Int) :: ([] : List Int))) (shr IntKind.u32 (ix x3 (IntKind.i64.wrap (x2 - (2 : Int)))) (10 : Int))))) ∧ x1 (x2 + (1 : Int)) (x3.set x2.toNat (IntKind.u32.wrap (IntKind.u32.wrap (IntKind.u32.wrap (ix x3 (IntKind.i64.wrap (x2 - (16 : Int))) + ix x3 (IntKind.i64.wrap (x2 - (7 : Int)))) + bxor IntKind.u32 (qaF (ix x3 (IntKind.i64.wrap (x2 - (15 : Int)))) ((7 : Int) :: (18 : Int) :: ([] : List Int))) (shr IntKind.u32 (ix x3 (IntKind.i64.wrap (x2 - (15 : Int)))) (3 : Int))) + bxor IntKind.u32 (qaF (ix x3 (IntKind.i64.wrap (x2 - (2 : Int)))) ((17 : Int) :: (19 : Int) :: ([] : List Int))) (shr IntKind.u32 (ix x3 (IntKind.i64.wrap (x2 - (2 : Int)))) (10 : Int))))) < x1 x2 x3) ∧ True) ∧ ((Ty.int IntKind.u32).kd.wf (qaF (ix x3 (IntKind.i64.wrap (x2 - (15 : Int)))) ((7 : Int) :: (18 : Int) :: ([] : List Int))) → (Ty.int IntKind.u32).kd.wf (qaF (ix x3 (IntKind.i64.wrap (x2 - (2 : Int)))) ((17 : Int) :: (19 : Int) :: ([] : List Int))) → ((0 : Int) ≤ x2 ∧ x2 < ((64 : Nat) : Int)) ∧ x2 < (9223372036854775807 : Int) ∧ x0 (x2 + (1 : Int)) (x3.set x2.toNat (IntKind.u32.wrap (IntKind.u32.wrap (IntKind.u32.wrap (ix x3 (IntKind.i64.wrap (x2 - (16 : Int))) + ix x3 (IntKind.i64.wrap (x2 - (7 : Int)))) + bxor IntKind.u32 (qaF (ix x3 (IntKind.i64.wrap (x2 - (15 : Int)))) ((7 : Int) :: (18 : Int) :: ([] : List Int))) (shr IntKind.u32 (ix x3 (IntKind.i64.wrap (x2 - (15 : Int)))) (3 : Int))) + bxor IntKind.u32 (qaF (ix x3 (IntKind.i64.wrap (x2 - (2 : Int)))) ((17 : Int) :: (19 : Int) :: ([] : List Int))) (shr IntKind.u32 (ix x3 (IntKind.i64.wrap (x2 - (2 : Int)))) (10 : Int))))) ∧ x1 (x2 + (1 : Int)) (x3.set x2.toNat (IntKind.u32.wrap (IntKind.u32.wrap (IntKind.u32.wrap (ix x3 (IntKind.i64.wrap (x2 - (16 : Int))) + ix x3 (IntKind.i64.wrap (x2 - (7 : Int)))) + bxor IntKind.u32 (qaF (ix x3 (IntKind.i64.wrap (x2 - (15 : Int)))) ((7 : Int) :: (18 : Int) :: ([] : List Int))) (shr IntKind.u32 (ix x3 (IntKind.i64.wrap (x2 - (15 : Int)))) (3 : Int))) + bxor IntKind.u32 (qaF (ix x3 (IntKind.i64.wrap (x2 - (2 : Int)))) ((17 : Int) :: (19 : Int) :: ([] : List Int))) (shr IntKind.u32 (ix x3 (IntKind.i64.wrap (x2 - (2 : Int)))) (10 : Int))))) < x1 x2 x3) ∧ True)) ∧ (¬x2 < (64 : Int) → (Ty.arr (64 : Nat) (Ty.int IntKind.u32)).kd.wf shaK → ∃ (x9 : Int → List Int → Prop), ∃ (x10 : Int → List Int → Nat), x9 (0 : Int) a0_s ∧ ∀ (x11 : Int) (x12 : List Int), x9 x11 x12 → (Kd.int IntKind.i64).wf x11 → (Ty.arr (8 : Nat) (Ty.int IntKind.u32)).kd.wf x12 → (x11 < (64 : Int) → ((0 : Int) ≤ x11 ∧ x11 < ((64 : Nat) : Int)) ∧ ((0 : Int) ≤ x11 ∧ x11 < ((64 : Nat) : Int)) ∧ ((Ty.int IntKind.u32).kd.wf (qaF (ix x12 (4 : Int)) ((6 : Int) :: (11 : Int) :: (25 : Int) :: ([] : List Int))) → (Ty.int IntKind.u32).kd.wf (qaF (ix x12 (0 : Int)) ((2 : Int) :: (13 : Int) :: (22 : Int) :: ([] : List Int))) → x11 < (9223372036854775807 : Int) ∧ x9 (x11 + (1 : Int)) (IntKind.u32.wrap (IntKind.u32.wrap (IntKind.u32.wrap (IntKind.u32.wrap (IntKind.u32.wrap (ix x12 (7 : Int) + qaF (ix x12 (4 : Int)) ((6 : Int) :: (11 : Int) :: (25 : Int) :: ([] : List Int))) + bxor IntKind.u32 (band IntKind.u32 (ix x12 (4 : Int)) (ix x12 (5 : Int))) (band IntKind.u32 (bxor IntKind.u32 (if IntKind.u32.signed = true then (-1 : Int) else IntKind.u32.max) (ix x12 (4 : Int))) (ix x12 (6 : Int)))) + ix shaK x11) + ix x3 x11) + IntKind.u32.wrap (qaF (ix x12 (0 : Int)) ((2 : Int) :: (13 : Int) :: (22 : Int) :: ([] : List Int)) + bxor IntKind.u32 (bxor IntKind.u32 (band IntKind.u32 (ix x12 (0 : Int)) (ix x12 (1 : Int))) (band IntKind.u32 (ix x12 (0 : Int)) (ix x12 (2 : Int)))) (band IntKind.u32 (ix x12 (1 : Int)) (ix x12 (2 : Int))))) :: ix x12 (0 : Int) :: ix x12 (1 : Int) :: ix x12 (2 : Int) :: IntKind.u32.wrap (ix x12 (3 : Int) + IntKind.u32.wrap (IntKind.u32.wrap (IntKind.u32.wrap (IntKind.u32.wrap (ix x12 (7 : Int) + qaF (ix x12 (4 : Int)) ((6 : Int) :: (11 : Int) :: (25 : Int) :: ([] : List Int))) + bxor IntKind.u32 (band IntKind.u32 (ix x12 (4 : Int)) (ix x12 (5 : Int))) (band IntKind.u32 (bxor IntKind.u32 (if IntKind.u32.signed = true then (-1 : Int) else IntKind.u32.max) (ix x12 (4 : Int))) (ix x12 (6 : Int)))) + ix shaK x11) + ix x3 x11)) :: ix x12 (4 : Int) :: ix x12 (5 : Int) :: ix x12 (6 : Int) :: ([] : List Int)) ∧ x10 (x11 + (1 : Int)) (IntKind.u32.wrap (IntKind.u32.wrap (IntKind.u32.wrap (IntKind.u32.wrap (IntKind.u32.wrap (ix x12 (7 : Int) + qaF (ix x12 (4 : Int)) ((6 : Int) :: (11 : Int) :: (25 : Int) :: ([] : List Int))) + bxor IntKind.u32 (band IntKind.u32 (ix x12 (4 : Int)) (ix x12 (5 : Int))) (band IntKind.u32 (bxor IntKind.u32 (if IntKind.u32.signed = true then (-1 : Int) else IntKind.u32.max) (ix x12 (4 : Int))) (ix x12 (6 : Int)))) + ix shaK x11) + ix x3 x11) + IntKind.u32.wrap (qaF (ix x12 (0 : Int)) ((2 : Int) :: (13 : Int) :: (22 : Int) :: ([] : List Int)) + bxor IntKind.u32 (bxor IntKind.u32 (band IntKind.u32 (ix x12 (0 : Int)) (ix x12 (1 : Int))) (band IntKind.u32 (ix x12 (0 : Int)) (ix x12 (2 : Int)))) (band IntKind.u32 (ix x12 (1 : Int)) (ix x12 (2 : Int))))) :: ix x12 (0 : Int) :: ix x12 (1 : Int) :: ix x12 (2 : Int) :: IntKind.u32.wrap (ix x12 (3 : Int) + IntKind.u32.wrap (IntKind.u32.wrap (IntKind.u32.wrap (IntKind.u32.wrap (ix x12 (7 : Int) + qaF (ix x12 (4 : Int)) ((6 : Int) :: (11 : Int) :: (25 : Int) :: ([] : List Int))) + bxor IntKind.u32 (band IntKind.u32 (ix x12 (4 : Int)) (ix x12 (5 : Int))) (band IntKind.u32 (bxor IntKind.u32 (if IntKind.u32.signed = true then (-1 : Int) else IntKind.u32.max) (ix x12 (4 : Int))) (ix x12 (6 : Int)))) + ix shaK x11) + ix x3 x11)) :: ix x12 (4 : Int) :: ix x12 (5 : Int) :: ix x12 (6 : Int) :: ([] : List Int)) < x10 x11 x12)) ∧ (¬x11 < (64 : Int) → ∃ (x17 : Int → List Int → Prop), ∃ (x18 : Int → List Int → Nat), x17 (0 : Int) a0_s ∧ ∀ (x19 : Int) (x20 : List Int), x17 x19 x20 → (Kd.int IntKind.i64).wf x19 → (Ty.arr (8 : Nat) (Ty.int IntKind.u32)).kd.wf x20 → (x19 < (8 : Int) → ((0 : Int) ≤ x19 ∧ x19 < ((8 : Nat) : Int)) ∧ ((0 : Int) ≤ x19 ∧ x19 < ((8 : Nat) : Int)) ∧ ((0 : Int) ≤ x19 ∧ x19 < ((8 : Nat) : Int)) ∧ x19 < (9223372036854775807 : Int) ∧ x17 (x19 + (1 : Int)) (x20.set x19.toNat (IntKind.u32.wrap (ix x20 x19 + ix x12 x19))) ∧ x18 (x19 + (1 : Int)) (x20.set x19.toNat (IntKind.u32.wrap (ix x20 x19 + ix x12 x19))) < x18 x19 x20) ∧ (¬x19 < (8 : Int) → Q x20)))
theorem quY {a0_s : List Int} {a1_b : List UInt8} (w_0 : (Ty.kd (.arr 8 (.int .u32))).wf a0_s) (w_1 : (Ty.kd (.sl .byte)).wf a1_b) (hp : a1_b.length = 64) : qls a0_s a1_b (fun o0 => o0 = (qkj a0_s a1_b)) := by
 have wr : ∀ a : Int, -1000 ≤ a → a ≤ 1000 → IntKind.i64.wrap a = a := fun a h1 h2 => qan (wf64 (by omega) (by omega))
 unfold qls
 refine ⟨fun i w => ∃ n : Nat, i = (n : Int) ∧ n ≤ 64 ∧ w = qgg a1_b n, fun i _ => 64 - i.toNat, ⟨0, rfl, by omega, rfl⟩, ?_⟩
 rintro i w ⟨n, rfl, hn, rfl⟩ _ _
 refine ⟨fun hlt => ⟨fun h16 => ?_, fun h16 => ?_⟩, fun hge _ => ?_⟩
 ·rw [wr (4 * (n : Int)) (by omega) (by omega), wr (4 * (n : Int) + 1) (by omega) (by omega), wr (4 * (n : Int) + 2) (by omega) (by omega), wr (4 * (n : Int) + 3) (by omega) (by omega)]
  refine ⟨by omega, by omega, by omega, by omega, by omega, by omega, ⟨n + 1, by omega, by omega, ?_⟩, ?_⟩
  ·simp only [qgg, Int.toNat_natCast]
   rw [if_pos (by omega)]
   rfl
  ·show 64 - ((n : Int) + 1).toNat < 64 - (n : Int).toNat
   omega
 ·rw [wr ((n : Int) - 16) (by omega) (by omega), wr ((n : Int) - 7) (by omega) (by omega), wr ((n : Int) - 15) (by omega) (by omega), wr ((n : Int) - 2) (by omega) (by omega)]
  iterate 14 (all_goals (try intros); all_goals (try omega); all_goals (try (refine And.intro ?_ ?_)))
  all_goals first | trivial | omega | exact ⟨n + 1, by omega, by omega, by simp only [qgg, Int.toNat_natCast]; rw [if_neg (by omega)]; rfl⟩ | (show 64 - ((n : Int) + 1).toNat < 64 - (n : Int).toNat; omega)
 ·have : n = 64 := by omega
  subst this
  refine ⟨fun i x => ∃ n : Nat, i = (n : Int) ∧ n ≤ 64 ∧ x = qje (qgg a1_b 64) a0_s n, fun i _ => 64 - i.toNat, ⟨0, rfl, by omega, rfl⟩, ?_⟩
  rintro i x ⟨n, rfl, hn, rfl⟩ _ _
  refine ⟨fun hlt => ?_, fun hge => ?_⟩
  ·iterate 14 (all_goals (try intros); all_goals (try omega); all_goals (try (refine And.intro ?_ ?_)))
   all_goals first | trivial | omega | exact ⟨n + 1, by omega, by omega, rfl⟩ | (show 64 - ((n : Int) + 1).toNat < 64 - (n : Int).toNat; omega)
  ·have : n = 64 := by omega
   subst this
   refine ⟨fun i s => ∃ n : Nat, i = (n : Int) ∧ n ≤ 8 ∧ s = addN a0_s (qje (qgg a1_b 64) a0_s 64) n, fun i _ => 8 - i.toNat, ⟨0, rfl, by omega, rfl⟩, ?_⟩
   rintro i s ⟨n, rfl, hn, rfl⟩ _ _
   refine ⟨fun hlt => ?_, fun hge => ?_⟩
   ·iterate 14 (all_goals (try intros); all_goals (try omega); all_goals (try (refine And.intro ?_ ?_)))
    all_goals first | trivial | omega | exact ⟨n + 1, by omega, by omega, by simp [addN]⟩ | (show 8 - ((n : Int) + 1).toNat < 8 - (n : Int).toNat; omega)
   ·have : n = 8 := by omega
    subst this
    rfl
theorem quX : (∀ a, qie.pre a → PM.wfP qie.pm a (fvc qs6 200 136 qie a (eqO qie a))) = (∀ a : (List Int) × (List UInt8) × Unit, ((a.2.1).length = 64) → (Ty.kd (.arr 8 (.int .u32))).wf a.1 → (Ty.kd (.sl .byte)).wf a.2.1 → qls a.1 a.2.1 (fun o0 => o0 = (qkj (a.1) (a.2.1)))) := by kernel_rfl
theorem qwF : qie.valid Try.prog 136 := qat (X := qs6) (qaK qam (fun b hb => by cases hb; exact qar) qas ⟨qu1, qr5, trivial⟩) 200 (quX.mpr fun a hp w_0 w_1 => @quY a.1 a.2.1 w_0 w_1 hp)
end Go.Proofs.Ytmjjkpiglbpkhaa

set_option linter.unusedVariables false
set_option maxRecDepth 100000
set_option maxHeartbeats 20000000
namespace Go.Proofs.Ytmjjkpiglbpkhaa
open Go Go.RowKit Go.Inc
noncomputable def qdi : Ctr := ⟨[.bx (.pr (.arr 8 (.int .u32)) (.pr (.int .u64) (.sl .byte))) true, .v (.sl (.sl .byte))], [], some (fun a => (fun (a0_h : (List Int) × Int × List UInt8) (a1_parts : List (List UInt8)) => ((1 + a1_parts.length) * 24 ≤ 140737488355328 ∧ (a0_h.2.2 ++ a1_parts.flatten).length ≤ 140737488355328 : Prop)) a.1 a.2.1), fun a => (fun (a0_h : (List Int) × Int × List UInt8) (a1_parts : List (List UInt8)) => ((()), ((qaB a0_h a1_parts), ()))) a.1 a.2.1⟩
noncomputable def qlG : Fx := ⟨seat, some bkT, fns, [(134, qlC), (135, qfG), (136, qie)], [], [(2, [0], [])], [(6, [0, 1, 2, 3, 4, 5, 6, 7, 8, 9, 10, 11, 12], [.o 0 2, .o 1 2, .o 2 2, .o 3 2, .o 4 2, .o 5 2, .o 6 2, .o 7 2, .o 8 1])]⟩
def qgE (a0_h : (List Int) × Int × List UInt8) (a1_parts : List (List UInt8)) (Q : ((List Int) × Int × List UInt8) → Prop) : Prop :=
 ((a0_h.snd.snd :: ([] : List (List UInt8))).length + a1_parts.length) * (24 : Nat) ≤ (140737488355328 : Nat) ∧ (a0_h.snd.snd :: ([] : List (List UInt8)) ++ a1_parts).flatten.length ≤ (140737488355328 : Nat) ∧ (Ty.byte.kd.sl.wf (a0_h.snd.snd :: ([] : List (List UInt8)) ++ a1_parts).flatten → ∃ (x0 : List Int × Int × List UInt8 → Prop), ∃ (x1 : List Int × Int × List UInt8 → Nat), x0 (a0_h.fst, a0_h.snd.fst, (a0_h.snd.snd :: ([] : List (List UInt8)) ++ a1_parts).flatten) ∧ ∀ (x2 : List Int × Int × List UInt8), x0 x2 → ((Ty.arr (8 : Nat) (Ty.int IntKind.u32)).pr ((Ty.int IntKind.u64).pr Ty.byte.sl)).kd.wf x2 → ((64 : Int) ≤ (x2.snd.snd.length : Int) → (x2.snd.fst = (0 : Int) → (Ty.arr (8 : Nat) (Ty.int IntKind.u32)).kd.wf shaH → ((0 : Int) ≤ (64 : Int) ∧ (64 : Int) ≤ (x2.snd.snd.length : Int)) ∧ (List.take (Int.toNat (64 : Int)) x2.snd.snd).length = (64 : Nat) ∧ ((0 : Int) ≤ (64 : Int) ∧ (64 : Int) ≤ (x2.snd.snd.length : Int)) ∧ x0 (qkj shaH (List.take (Int.toNat (64 : Int)) x2.snd.snd), IntKind.u64.wrap (x2.snd.fst + (1 : Int)), List.drop (Int.toNat (64 : Int)) x2.snd.snd) ∧ x1 (qkj shaH (List.take (Int.toNat (64 : Int)) x2.snd.snd), IntKind.u64.wrap (x2.snd.fst + (1 : Int)), List.drop (Int.toNat (64 : Int)) x2.snd.snd) < x1 x2) ∧ (¬x2.snd.fst = (0 : Int) → ((0 : Int) ≤ (64 : Int) ∧ (64 : Int) ≤ (x2.snd.snd.length : Int)) ∧ (List.take (Int.toNat (64 : Int)) x2.snd.snd).length = (64 : Nat) ∧ ((0 : Int) ≤ (64 : Int) ∧ (64 : Int) ≤ (x2.snd.snd.length : Int)) ∧ x0 (qkj x2.fst (List.take (Int.toNat (64 : Int)) x2.snd.snd), IntKind.u64.wrap (x2.snd.fst + (1 : Int)), List.drop (Int.toNat (64 : Int)) x2.snd.snd) ∧ x1 (qkj x2.fst (List.take (Int.toNat (64 : Int)) x2.snd.snd), IntKind.u64.wrap (x2.snd.fst + (1 : Int)), List.drop (Int.toNat (64 : Int)) x2.snd.snd) < x1 x2)) ∧ (¬(64 : Int) ≤ (x2.snd.snd.length : Int) → Q x2))
theorem qnP {a0_h : (List Int) × Int × List UInt8} {a1_parts : List (List UInt8)} (w_0 : (Ty.kd (.pr (.arr 8 (.int .u32)) (.pr (.int .u64) (.sl .byte)))).wf a0_h) (w_1 : (Ty.kd (.sl (.sl .byte))).wf a1_parts) (hp : (1 + a1_parts.length) * 24 ≤ 140737488355328 ∧ (a0_h.2.2 ++ a1_parts.flatten).length ≤ 140737488355328) : qgE a0_h a1_parts (fun o0 => o0 = (qaB a0_h a1_parts)) := by
 obtain ⟨h1, h2⟩ := hp
 unfold qgE
 refine ⟨by simp only [List.length_cons, List.length_nil]; omega, by simpa using h2, fun _ => ⟨fun b => eat b.1 b.2.1 b.2.2 = qaB a0_h a1_parts, fun b => b.2.2.length, by simp [qaB], ?_⟩⟩
 rintro ⟨s, n, r⟩ hI hwf
 refine ⟨fun h64 => ?_, fun h64 => ?_⟩
 ·have hl : 64 ≤ r.length := by
   have h : (64 : Int) ≤ (r.length : Int) := h64
   omega
  have ht : (r.take 64).length = 64 := by rw [List.length_take]; omega
  have hd : (r.drop 64).length < r.length := by rw [List.length_drop]; omega
  dsimp only at hI ⊢
  rw [eat, if_pos hl] at hI
  refine ⟨fun h0 _ => ⟨⟨by omega, by omega⟩, ht, ⟨by omega, by omega⟩, ?_, hd⟩, fun h0 => ⟨⟨by omega, by omega⟩, ht, ⟨by omega, by omega⟩, ?_, hd⟩⟩
  ·rw [if_pos h0] at hI
   exact hI
  ·rw [if_neg h0] at hI
   exact hI
 ·have hl : ¬ (64 ≤ r.length) := fun h => h64 (by show (64 : Int) ≤ (r.length : Int); omega)
  dsimp only at hI ⊢
  rw [eat, if_neg hl] at hI
  exact hI
theorem qnO : (∀ a, qdi.pre a → PM.wfP qdi.pm a (fvc qlG 200 124 qdi a (eqO qdi a))) = (∀ a : ((List Int) × Int × List UInt8) × (List (List UInt8)) × Unit, ((1 + (a.2.1).length) * 24 ≤ 140737488355328 ∧ ((a.1).2.2 ++ (a.2.1).flatten).length ≤ 140737488355328) → (Ty.kd (.pr (.arr 8 (.int .u32)) (.pr (.int .u64) (.sl .byte)))).wf a.1 → (Ty.kd (.sl (.sl .byte))).wf a.2.1 → qgE a.1 a.2.1 (fun o0 => o0 = (qaB (a.1) (a.2.1)))) := by kernel_rfl
theorem qlH : qdi.valid Try.prog 124 := qat (X := qlG) (qaK qam (fun b hb => by cases hb; exact qar) qas ⟨qqu, quq, qwF, trivial⟩) 200 (qnO.mpr fun a hp w_0 w_1 => @qnP a.1 a.2.1 w_0 w_1 hp)
noncomputable def qhI : Ctr := ⟨[.bx (.pr (.arr 8 (.int .u32)) (.pr (.int .u64) (.sl .byte))) false], [.v (.arr 32 .byte)], some (fun a => (fun (a0_h : (List Int) × Int × List UInt8) => (a0_h.2.2.length < 64 : Prop)) a.1), fun a => (fun (a0_h : (List Int) × Int × List UInt8) => (((hSum a0_h), ()), (()))) a.1⟩
noncomputable def qsA : Fx := ⟨seat, some bkT, fns, [(123, qkD), (137, qff), (138, qhH), (139, qhZ), (124, qdi)], [], [(8, [8], [])], [(5, [0, 1, 2, 3, 4, 5, 6, 7, 8, 9, 10, 11, 12], [.o 0 2, .o 2 2, .o 3 2, .o 4 2, .o 5 2, .o 6 2, .o 7 2, .o 8 2, .o 10 2, .o 11 2, .par [1, 9, 12] (.alt 1 0 (.alt 9 0 (.one 12 0 .fin) (.alt 12 0 (.one 9 0 .fin) .fin)) (.alt 9 0 (.alt 1 0 (.one 12 0 .fin) (.alt 12 0 (.one 1 0 .fin) .fin)) (.alt 12 0 (.alt 1 0 (.one 9 0 .fin) (.alt 9 0 (.one 1 0 .fin) .fin)) .fin))), .o 13 0, .o 14 1]), (10, [0, 1, 2, 3, 4, 5, 6, 7, 8, 9, 10, 11, 12], [.o 0 2, .o 1 2, .o 2 2, .o 3 2, .o 4 2, .o 5 0, .o 6 2, .o 7 1])]⟩
def qkx (a0_h : (List Int) × Int × List UInt8) (Q : (List UInt8) → Prop) : Prop :=
 ((Ty.arr (8 : Nat) (Ty.int IntKind.u32)).pr ((Ty.int IntKind.u64).pr Ty.byte.sl)).kd.wf (List.replicate (8 : Nat) (0 : Int), (0 : Int), ([] : List UInt8)) → a0_h.snd.snd.length ≤ (140737488355328 : Nat) ∧ (((Ty.arr (8 : Nat) (Ty.int IntKind.u32)).pr ((Ty.int IntKind.u64).pr Ty.byte.sl)).kd.wf a0_h → (Ty.int IntKind.u64).kd.wf (hLen a0_h) → ((((0 : Int) ≤ (IntKind.i64.wrap ((119 : Int) - (a0_h.snd.snd.length : Int))).tmod (64 : Int) ∧ (IntKind.i64.wrap ((119 : Int) - (a0_h.snd.snd.length : Int))).tmod (64 : Int) ≤ (IntKind.i64.wrap ((119 : Int) - (a0_h.snd.snd.length : Int))).tmod (64 : Int) ∧ ((1 : Nat) : Int) * (IntKind.i64.wrap ((119 : Int) - (a0_h.snd.snd.length : Int))).tmod (64 : Int) ≤ (281474976710656 : Int) ∧ (IntKind.i64.wrap ((119 : Int) - (a0_h.snd.snd.length : Int))).tmod (64 : Int) ≤ (281474976710656 : Int)) ∧ (Ty.byte.kd.sl.wf (be (IntKind.u64.wrap ((8 : Int) * hLen a0_h)).toNat (8 : Nat)) → (((1 : Nat) + ((toB (128 : Int) :: ([] : List UInt8)) :: List.replicate ((IntKind.i64.wrap ((119 : Int) - (a0_h.snd.snd.length : Int))).tmod (64 : Int)).toNat Ty.byte.kd.z :: be (IntKind.u64.wrap ((8 : Int) * hLen a0_h)).toNat (8 : Nat) :: ([] : List (List UInt8))).length) * (24 : Nat) ≤ (140737488355328 : Nat) ∧ (a0_h.snd.snd ++ ((toB (128 : Int) :: ([] : List UInt8)) :: List.replicate ((IntKind.i64.wrap ((119 : Int) - (a0_h.snd.snd.length : Int))).tmod (64 : Int)).toNat Ty.byte.kd.z :: be (IntKind.u64.wrap ((8 : Int) * hLen a0_h)).toNat (8 : Nat) :: ([] : List (List UInt8))).flatten).length ≤ (140737488355328 : Nat)) ∧ ∃ (x0 : Int → List UInt8 → Prop), ∃ (x1 : Int → List UInt8 → Nat), x0 (0 : Int) (Ty.arr (32 : Nat) Ty.byte).kd.z ∧ ∀ (x2 : Int) (x3 : List UInt8), x0 x2 x3 → (Kd.int IntKind.i64).wf x2 → (Ty.arr (32 : Nat) Ty.byte).kd.wf x3 → (x2 < (8 : Int) → ((0 : Int) ≤ x2 ∧ x2 < ((8 : Nat) : Int)) ∧ ((0 : Int) ≤ IntKind.i64.wrap ((4 : Int) * x2) ∧ IntKind.i64.wrap ((4 : Int) * x2) ≤ ((32 : Nat) : Int) ∧ ((32 : Nat) : Int) ≤ ((32 : Nat) : Int) ∧ IntKind.i64.wrap ((4 : Int) * x2) < ((32 : Nat) : Int)) ∧ (Ty.byte.kd.sl.wf (be (ix (qaB a0_h ((toB (128 : Int) :: ([] : List UInt8)) :: List.replicate ((IntKind.i64.wrap ((119 : Int) - (a0_h.snd.snd.length : Int))).tmod (64 : Int)).toNat Ty.byte.kd.z :: be (IntKind.u64.wrap ((8 : Int) * hLen a0_h)).toNat (8 : Nat) :: ([] : List (List UInt8)))).fst x2).toNat (8 : Nat)) → ((0 : Int) ≤ (4 : Int) ∧ (4 : Int) ≤ ((be (ix (qaB a0_h ((toB (128 : Int) :: ([] : List UInt8)) :: List.replicate ((IntKind.i64.wrap ((119 : Int) - (a0_h.snd.snd.length : Int))).tmod (64 : Int)).toNat Ty.byte.kd.z :: be (IntKind.u64.wrap ((8 : Int) * hLen a0_h)).toNat (8 : Nat) :: ([] : List (List UInt8)))).fst x2).toNat (8 : Nat)).length : Int)) ∧ x2 < (9223372036854775807 : Int) ∧ x0 (x2 + (1 : Int)) (List.take (IntKind.i64.wrap ((4 : Int) * x2)).toNat x3 ++ List.take (((32 : Nat) : Int).toNat - (IntKind.i64.wrap ((4 : Int) * x2)).toNat) (List.drop (Int.toNat (4 : Int)) (be (ix (qaB a0_h ((toB (128 : Int) :: ([] : List UInt8)) :: List.replicate ((IntKind.i64.wrap ((119 : Int) - (a0_h.snd.snd.length : Int))).tmod (64 : Int)).toNat Ty.byte.kd.z :: be (IntKind.u64.wrap ((8 : Int) * hLen a0_h)).toNat (8 : Nat) :: ([] : List (List UInt8)))).fst x2).toNat (8 : Nat))) ++ List.drop ((IntKind.i64.wrap ((4 : Int) * x2)).toNat + min (List.drop (Int.toNat (4 : Int)) (be (ix (qaB a0_h ((toB (128 : Int) :: ([] : List UInt8)) :: List.replicate ((IntKind.i64.wrap ((119 : Int) - (a0_h.snd.snd.length : Int))).tmod (64 : Int)).toNat Ty.byte.kd.z :: be (IntKind.u64.wrap ((8 : Int) * hLen a0_h)).toNat (8 : Nat) :: ([] : List (List UInt8)))).fst x2).toNat (8 : Nat))).length (((32 : Nat) : Int).toNat - (IntKind.i64.wrap ((4 : Int) * x2)).toNat)) x3) ∧ x1 (x2 + (1 : Int)) (List.take (IntKind.i64.wrap ((4 : Int) * x2)).toNat x3 ++ List.take (((32 : Nat) : Int).toNat - (IntKind.i64.wrap ((4 : Int) * x2)).toNat) (List.drop (Int.toNat (4 : Int)) (be (ix (qaB a0_h ((toB (128 : Int) :: ([] : List UInt8)) :: List.replicate ((IntKind.i64.wrap ((119 : Int) - (a0_h.snd.snd.length : Int))).tmod (64 : Int)).toNat Ty.byte.kd.z :: be (IntKind.u64.wrap ((8 : Int) * hLen a0_h)).toNat (8 : Nat) :: ([] : List (List UInt8)))).fst x2).toNat (8 : Nat))) ++ List.drop ((IntKind.i64.wrap ((4 : Int) * x2)).toNat + min (List.drop (Int.toNat (4 : Int)) (be (ix (qaB a0_h ((toB (128 : Int) :: ([] : List UInt8)) :: List.replicate ((IntKind.i64.wrap ((119 : Int) - (a0_h.snd.snd.length : Int))).tmod (64 : Int)).toNat Ty.byte.kd.z :: be (IntKind.u64.wrap ((8 : Int) * hLen a0_h)).toNat (8 : Nat) :: ([] : List (List UInt8)))).fst x2).toNat (8 : Nat))).length (((32 : Nat) : Int).toNat - (IntKind.i64.wrap ((4 : Int) * x2)).toNat)) x3) < x1 x2 x3)) ∧ (¬x2 < (8 : Int) → Q x3))) ∧ (Ty.byte.kd.sl.wf (be (IntKind.u64.wrap ((8 : Int) * hLen a0_h)).toNat (8 : Nat)) → ((0 : Int) ≤ (IntKind.i64.wrap ((119 : Int) - (a0_h.snd.snd.length : Int))).tmod (64 : Int) ∧ (IntKind.i64.wrap ((119 : Int) - (a0_h.snd.snd.length : Int))).tmod (64 : Int) ≤ (IntKind.i64.wrap ((119 : Int) - (a0_h.snd.snd.length : Int))).tmod (64 : Int) ∧ ((1 : Nat) : Int) * (IntKind.i64.wrap ((119 : Int) - (a0_h.snd.snd.length : Int))).tmod (64 : Int) ≤ (281474976710656 : Int) ∧ (IntKind.i64.wrap ((119 : Int) - (a0_h.snd.snd.length : Int))).tmod (64 : Int) ≤ (281474976710656 : Int)) ∧ (((1 : Nat) + ((toB (128 : Int) :: ([] : List UInt8)) :: List.replicate ((IntKind.i64.wrap ((119 : Int) - (a0_h.snd.snd.length : Int))).tmod (64 : Int)).toNat Ty.byte.kd.z :: be (IntKind.u64.wrap ((8 : Int) * hLen a0_h)).toNat (8 : Nat) :: ([] : List (List UInt8))).length) * (24 : Nat) ≤ (140737488355328 : Nat) ∧ (a0_h.snd.snd ++ ((toB (128 : Int) :: ([] : List UInt8)) :: List.replicate ((IntKind.i64.wrap ((119 : Int) - (a0_h.snd.snd.length : Int))).tmod (64 : Int)).toNat Ty.byte.kd.z :: be (IntKind.u64.wrap ((8 : Int) * hLen a0_h)).toNat (8 : Nat) :: ([] : List (List UInt8))).flatten).length ≤ (140737488355328 : Nat)) ∧ ∃ (x0 : Int → List UInt8 → Prop), ∃ (x1 : Int → List UInt8 → Nat), x0 (0 : Int) (Ty.arr (32 : Nat) Ty.byte).kd.z ∧ ∀ (x2 : Int) (x3 : List UInt8), x0 x2 x3 → (Kd.int IntKind.i64).wf x2 → (Ty.arr (32 : Nat) Ty.byte).kd.wf x3 → (x2 < (8 : Int) → ((0 : Int) ≤ x2 ∧ x2 < ((8 : Nat) : Int)) ∧ ((0 : Int) ≤ IntKind.i64.wrap ((4 : Int) * x2) ∧ IntKind.i64.wrap ((4 : Int) * x2) ≤ ((32 : Nat) : Int) ∧ ((32 : Nat) : Int) ≤ ((32 : Nat) : Int) ∧ IntKind.i64.wrap ((4 : Int) * x2) < ((32 : Nat) : Int)) ∧ (Ty.byte.kd.sl.wf (be (ix (qaB a0_h ((toB (128 : Int) :: ([] : List UInt8)) :: List.replicate ((IntKind.i64.wrap ((119 : Int) - (a0_h.snd.snd.length : Int))).tmod (64 : Int)).toNat Ty.byte.kd.z :: be (IntKind.u64.wrap ((8 : Int) * hLen a0_h)).toNat (8 : Nat) :: ([] : List (List UInt8)))).fst x2).toNat (8 : Nat)) → ((0 : Int) ≤ (4 : Int) ∧ (4 : Int) ≤ ((be (ix (qaB a0_h ((toB (128 : Int) :: ([] : List UInt8)) :: List.replicate ((IntKind.i64.wrap ((119 : Int) - (a0_h.snd.snd.length : Int))).tmod (64 : Int)).toNat Ty.byte.kd.z :: be (IntKind.u64.wrap ((8 : Int) * hLen a0_h)).toNat (8 : Nat) :: ([] : List (List UInt8)))).fst x2).toNat (8 : Nat)).length : Int)) ∧ x2 < (9223372036854775807 : Int) ∧ x0 (x2 + (1 : Int)) (List.take (IntKind.i64.wrap ((4 : Int) * x2)).toNat x3 ++ List.take (((32 : Nat) : Int).toNat - (IntKind.i64.wrap ((4 : Int) * x2)).toNat) (List.drop (Int.toNat (4 : Int)) (be (ix (qaB a0_h ((toB (128 : Int) :: ([] : List UInt8)) :: List.replicate ((IntKind.i64.wrap ((119 : Int) - (a0_h.snd.snd.length : Int))).tmod (64 : Int)).toNat Ty.byte.kd.z :: be (IntKind.u64.wrap ((8 : Int) * hLen a0_h)).toNat (8 : Nat) :: ([] : List (List UInt8)))).fst x2).toNat (8 : Nat))) ++ List.drop ((IntKind.i64.wrap ((4 : Int) * x2)).toNat + min (List.drop (Int.toNat (4 : Int)) (be (ix (qaB a0_h ((toB (128 : Int) :: ([] : List UInt8)) :: List.replicate ((IntKind.i64.wrap ((119 : Int) - (a0_h.snd.snd.length : Int))).tmod (64 : Int)).toNat Ty.byte.kd.z :: be (IntKind.u64.wrap ((8 : Int) * hLen a0_h)).toNat (8 : Nat) :: ([] : List (List UInt8)))).fst x2).toNat (8 : Nat))).length (((32 : Nat) : Int).toNat - (IntKind.i64.wrap ((4 : Int) * x2)).toNat)) x3) ∧ x1 (x2 + (1 : Int)) (List.take (IntKind.i64.wrap ((4 : Int) * x2)).toNat x3 ++ List.take (((32 : Nat) : Int).toNat - (IntKind.i64.wrap ((4 : Int) * x2)).toNat) (List.drop (Int.toNat (4 : Int)) (be (ix (qaB a0_h ((toB (128 : Int) :: ([] : List UInt8)) :: List.replicate ((IntKind.i64.wrap ((119 : Int) - (a0_h.snd.snd.length : Int))).tmod (64 : Int)).toNat Ty.byte.kd.z :: be (IntKind.u64.wrap ((8 : Int) * hLen a0_h)).toNat (8 : Nat) :: ([] : List (List UInt8)))).fst x2).toNat (8 : Nat))) ++ List.drop ((IntKind.i64.wrap ((4 : Int) * x2)).toNat + min (List.drop (Int.toNat (4 : Int)) (be (ix (qaB a0_h ((toB (128 : Int) :: ([] : List UInt8)) :: List.replicate ((IntKind.i64.wrap ((119 : Int) - (a0_h.snd.snd.length : Int))).tmod (64 : Int)).toNat Ty.byte.kd.z :: be (IntKind.u64.wrap ((8 : Int) * hLen a0_h)).toNat (8 : Nat) :: ([] : List (List UInt8)))).fst x2).toNat (8 : Nat))).length (((32 : Nat) : Int).toNat - (IntKind.i64.wrap ((4 : Int) * x2)).toNat)) x3) < x1 x2 x3)) ∧ (¬x2 < (8 : Int) → Q x3)) ∧ True) ∧ (((0 : Int) ≤ (IntKind.i64.wrap ((119 : Int) - (a0_h.snd.snd.length : Int))).tmod (64 : Int) ∧ (IntKind.i64.wrap ((119 : Int) - (a0_h.snd.snd.length : Int))).tmod (64 : Int) ≤ (IntKind.i64.wrap ((119 : Int) - (a0_h.snd.snd.length : Int))).tmod (64 : Int) ∧ ((1 : Nat) : Int) * (IntKind.i64.wrap ((119 : Int) - (a0_h.snd.snd.length : Int))).tmod (64 : Int) ≤ (281474976710656 : Int) ∧ (IntKind.i64.wrap ((119 : Int) - (a0_h.snd.snd.length : Int))).tmod (64 : Int) ≤ (281474976710656 : Int)) ∧ (Ty.byte.kd.sl.wf (be (IntKind.u64.wrap ((8 : Int) * hLen a0_h)).toNat (8 : Nat)) → (((1 : Nat) + ((toB (128 : Int) :: ([] : List UInt8)) :: List.replicate ((IntKind.i64.wrap ((119 : Int) - (a0_h.snd.snd.length : Int))).tmod (64 : Int)).toNat Ty.byte.kd.z :: be (IntKind.u64.wrap ((8 : Int) * hLen a0_h)).toNat (8 : Nat) :: ([] : List (List UInt8))).length) * (24 : Nat) ≤ (140737488355328 : Nat) ∧ (a0_h.snd.snd ++ ((toB (128 : Int) :: ([] : List UInt8)) :: List.replicate ((IntKind.i64.wrap ((119 : Int) - (a0_h.snd.snd.length : Int))).tmod (64 : Int)).toNat Ty.byte.kd.z :: be (IntKind.u64.wrap ((8 : Int) * hLen a0_h)).toNat (8 : Nat) :: ([] : List (List UInt8))).flatten).length ≤ (140737488355328 : Nat)) ∧ ∃ (x0 : Int → List UInt8 → Prop), ∃ (x1 : Int → List UInt8 → Nat), x0 (0 : Int) (Ty.arr (32 : Nat) Ty.byte).kd.z ∧ ∀ (x2 : Int) (x3 : List UInt8), x0 x2 x3 → (Kd.int IntKind.i64).wf x2 → (Ty.arr (32 : Nat) Ty.byte).kd.wf x3 → (x2 < (8 : Int) → ((0 : Int) ≤ x2 ∧ x2 < ((8 : Nat) : Int)) ∧ ((0 : Int) ≤ IntKind.i64.wrap ((4 : Int) * x2) ∧ IntKind.i64.wrap ((4 : Int) * x2) ≤ ((32 : Nat) : Int) ∧ ((32 : Nat) : Int) ≤ ((32 : Nat) : Int) ∧ IntKind.i64.wrap ((4 : Int) * x2) < ((32 : Nat) : Int)) ∧ (Ty.byte.kd.sl.wf (be (ix (qaB a0_h ((toB (128 : Int) :: ([] : List UInt8)) :: List.replicate ((IntKind.i64.wrap ((119 : Int) - (a0_h.snd.snd.length : Int))).tmod (64 : Int)).toNat Ty.byte.kd.z :: be (IntKind.u64.wrap ((8 : Int) * hLen a0_h)).toNat (8 : Nat) :: ([] : List (List UInt8)))).fst x2).toNat (8 : Nat)) → ((0 : Int) ≤ (4 : Int) ∧ (4 : Int) ≤ ((be (ix (qaB a0_h ((toB (128 : Int) :: ([] : List UInt8)) :: List.replicate ((IntKind.i64.wrap ((119 : Int) - (a0_h.snd.snd.length : Int))).tmod (64 : Int)).toNat Ty.byte.kd.z :: be (IntKind.u64.wrap ((8 : Int) * hLen a0_h)).toNat (8 : Nat) :: ([] : List (List UInt8)))).fst x2).toNat (8 : Nat)).length : Int)) ∧ x2 < (9223372036854775807 : Int) ∧ x0 (x2 + (1 : Int)) (List.take (IntKind.i64.wrap ((4 : Int) * x2)).toNat x3 ++ List.take (((32 : Nat) : Int).toNat - (IntKind.i64.wrap ((4 : Int) * x2)).toNat) (List.drop (Int.toNat (4 : Int)) (be (ix (qaB a0_h ((toB (128 : Int) :: ([] : List UInt8)) :: List.replicate ((IntKind.i64.wrap ((119 : Int) - (a0_h.snd.snd.length : Int))).tmod (64 : Int)).toNat Ty.byte.kd.z :: be (IntKind.u64.wrap ((8 : Int) * hLen a0_h)).toNat (8 : Nat) :: ([] : List (List UInt8)))).fst x2).toNat (8 : Nat))) ++ List.drop ((IntKind.i64.wrap ((4 : Int) * x2)).toNat + min (List.drop (Int.toNat (4 : Int)) (be (ix (qaB a0_h ((toB (128 : Int) :: ([] : List UInt8)) :: List.replicate ((IntKind.i64.wrap ((119 : Int) - (a0_h.snd.snd.length : Int))).tmod (64 : Int)).toNat Ty.byte.kd.z :: be (IntKind.u64.wrap ((8 : Int) * hLen a0_h)).toNat (8 : Nat) :: ([] : List (List UInt8)))).fst x2).toNat (8 : Nat))).length (((32 : Nat) : Int).toNat - (IntKind.i64.wrap ((4 : Int) * x2)).toNat)) x3) ∧ x1 (x2 + (1 : Int)) (List.take (IntKind.i64.wrap ((4 : Int) * x2)).toNat x3 ++ List.take (((32 : Nat) : Int).toNat - (IntKind.i64.wrap ((4 : Int) * x2)).toNat) (List.drop (Int.toNat (4 : Int)) (be (ix (qaB a0_h ((toB (128 : Int) :: ([] : List UInt8)) :: List.replicate ((IntKind.i64.wrap ((119 : Int) - (a0_h.snd.snd.length : Int))).tmod (64 : Int)).toNat Ty.byte.kd.z :: be (IntKind.u64.wrap ((8 : Int) * hLen a0_h)).toNat (8 : Nat) :: ([] : List (List UInt8)))).fst x2).toNat (8 : Nat))) ++ List.drop ((IntKind.i64.wrap ((4 : Int) * x2)).toNat + min (List.drop (Int.toNat (4 : Int)) (be (ix (qaB a0_h ((toB (128 : Int) :: ([] : List UInt8)) :: List.replicate ((IntKind.i64.wrap ((119 : Int) - (a0_h.snd.snd.length : Int))).tmod (64 : Int)).toNat Ty.byte.kd.z :: be (IntKind.u64.wrap ((8 : Int) * hLen a0_h)).toNat (8 : Nat) :: ([] : List (List UInt8)))).fst x2).toNat (8 : Nat))).length (((32 : Nat) : Int).toNat - (IntKind.i64.wrap ((4 : Int) * x2)).toNat)) x3) < x1 x2 x3)) ∧ (¬x2 < (8 : Int) → Q x3)) ∧ (Ty.byte.kd.sl.wf (be (IntKind.u64.wrap ((8 : Int) * hLen a0_h)).toNat (8 : Nat)) → (((1 : Nat) + ((toB (128 : Int) :: ([] : List UInt8)) :: List.replicate ((IntKind.i64.wrap ((119 : Int) - (a0_h.snd.snd.length : Int))).tmod (64 : Int)).toNat Ty.byte.kd.z :: be (IntKind.u64.wrap ((8 : Int) * hLen a0_h)).toNat (8 : Nat) :: ([] : List (List UInt8))).length) * (24 : Nat) ≤ (140737488355328 : Nat) ∧ (a0_h.snd.snd ++ ((toB (128 : Int) :: ([] : List UInt8)) :: List.replicate ((IntKind.i64.wrap ((119 : Int) - (a0_h.snd.snd.length : Int))).tmod (64 : Int)).toNat Ty.byte.kd.z :: be (IntKind.u64.wrap ((8 : Int) * hLen a0_h)).toNat (8 : Nat) :: ([] : List (List UInt8))).flatten).length ≤ (140737488355328 : Nat)) ∧ ∃ (x0 : Int → List UInt8 → Prop), ∃ (x1 : Int → List UInt8 → Nat), x0 (0 : Int) (Ty.arr (32 : Nat) Ty.byte).kd.z ∧ ∀ (x2 : Int) (x3 : List UInt8), x0 x2 x3 → (Kd.int IntKind.i64).wf x2 → (Ty.arr (32 : Nat) Ty.byte).kd.wf x3 → (x2 < (8 : Int) → ((0 : Int) ≤ x2 ∧ x2 < ((8 : Nat) : Int)) ∧ ((0 : Int) ≤ IntKind.i64.wrap ((4 : Int) * x2) ∧ IntKind.i64.wrap ((4 : Int) * x2) ≤ ((32 : Nat) : Int) ∧ ((32 : Nat) : Int) ≤ ((32 : Nat) : Int) ∧ IntKind.i64.wrap ((4 : Int) * x2) < ((32 : Nat) : Int)) ∧ (Ty.byte.kd.sl.wf (be (ix (qaB a0_h ((toB (128 : Int) :: ([] : List UInt8)) :: List.replicate ((IntKind.i64.wrap ((119 : Int) - (a0_h.snd.snd.length : Int))).tmod (64 : Int)).toNat Ty.byte.kd.z :: be (IntKind.u64.wrap ((8 : Int) * hLen a0_h)).toNat (8 : Nat) :: ([] : List (List UInt8)))).fst x2).toNat (8 : Nat)) → ((0 : Int) ≤ (4 : Int) ∧ (4 : Int) ≤ ((be (ix (qaB a0_h ((toB (128 : Int) :: ([] : List UInt8)) :: List.replicate ((IntKind.i64.wrap ((119 : Int) - (a0_h.snd.snd.length : Int))).tmod (64 : Int)).toNat Ty.byte.kd.z :: be (IntKind.u64.wrap ((8 : Int) * hLen a0_h)).toNat (8 : Nat) :: ([] : List (List UInt8)))).fst x2).toNat (8 : Nat)).length : Int)) ∧ x2 < (9223372036854775807 : Int) ∧ x0 (x2 + (1 : Int)) (List.take (IntKind.i64.wrap ((4 : Int) * x2)).toNat x3 ++ List.take (((32 : Nat) : Int).toNat - (IntKind.i64.wrap ((4 : Int) * x2)).toNat) (List.drop (Int.toNat (4 : Int)) (be (ix (qaB a0_h ((toB (128 : Int) :: ([] : List UInt8)) :: List.replicate ((IntKind.i64.wrap ((119 : Int) - (a0_h.snd.snd.length : Int))).tmod (64 : Int)).toNat Ty.byte.kd.z :: be (IntKind.u64.wrap ((8 : Int) * hLen a0_h)).toNat (8 : Nat) :: ([] : List (List UInt8)))).fst x2).toNat (8 : Nat))) ++ List.drop ((IntKind.i64.wrap ((4 : Int) * x2)).toNat + min (List.drop (Int.toNat (4 : Int)) (be (ix (qaB a0_h ((toB (128 : Int) :: ([] : List UInt8)) :: List.replicate ((IntKind.i64.wrap ((119 : Int) - (a0_h.snd.snd.length : Int))).tmod (64 : Int)).toNat Ty.byte.kd.z :: be (IntKind.u64.wrap ((8 : Int) * hLen a0_h)).toNat (8 : Nat) :: ([] : List (List UInt8)))).fst x2).toNat (8 : Nat))).length (((32 : Nat) : Int).toNat - (IntKind.i64.wrap ((4 : Int) * x2)).toNat)) x3) ∧ x1 (x2 + (1 : Int)) (List.take (IntKind.i64.wrap ((4 : Int) * x2)).toNat x3 ++ List.take (((32 : Nat) : Int).toNat - (IntKind.i64.wrap ((4 : Int) * x2)).toNat) (List.drop (Int.toNat (4 : Int)) (be (ix (qaB a0_h ((toB (128 : Int) :: ([] : List UInt8)) :: List.replicate ((IntKind.i64.wrap ((119 : Int) - (a0_h.snd.snd.length : Int))).tmod (64 : Int)).toNat Ty.byte.kd.z :: be (IntKind.u64.wrap ((8 : Int) * hLen a0_h)).toNat (8 : Nat) :: ([] : List (List UInt8)))).fst x2).toNat (8 : Nat))) ++ List.drop ((IntKind.i64.wrap ((4 : Int) * x2)).toNat + min (List.drop (Int.toNat (4 : Int)) (be (ix (qaB a0_h ((toB (128 : Int) :: ([] : List UInt8)) :: List.replicate ((IntKind.i64.wrap ((119 : Int) - (a0_h.snd.snd.length : Int))).tmod (64 : Int)).toNat Ty.byte.kd.z :: be (IntKind.u64.wrap ((8 : Int) * hLen a0_h)).toNat (8 : Nat) :: ([] : List (List UInt8)))).fst x2).toNat (8 : Nat))).length (((32 : Nat) : Int).toNat - (IntKind.i64.wrap ((4 : Int) * x2)).toNat)) x3) < x1 x2 x3)) ∧ (¬x2 < (8 : Int) → Q x3)) ∧ True) ∧ (Ty.byte.kd.sl.wf (be (IntKind.u64.wrap ((8 : Int) * hLen a0_h)).toNat (8 : Nat)) → (((0 : Int) ≤ (IntKind.i64.wrap ((119 : Int) - (a0_h.snd.snd.length : Int))).tmod (64 : Int) ∧ (IntKind.i64.wrap ((119 : Int) - (a0_h.snd.snd.length : Int))).tmod (64 : Int) ≤ (IntKind.i64.wrap ((119 : Int) - (a0_h.snd.snd.length : Int))).tmod (64 : Int) ∧ ((1 : Nat) : Int) * (IntKind.i64.wrap ((119 : Int) - (a0_h.snd.snd.length : Int))).tmod (64 : Int) ≤ (281474976710656 : Int) ∧ (IntKind.i64.wrap ((119 : Int) - (a0_h.snd.snd.length : Int))).tmod (64 : Int) ≤ (281474976710656 : Int)) ∧ (((1 : Nat) + ((toB (128 : Int) :: ([] : List UInt8)) :: List.replicate ((IntKind.i64.wrap ((119 : Int) - (a0_h.snd.snd.length : Int))).tmod (64 : Int)).toNat Ty.byte.kd.z :: be (IntKind.u64.wrap ((8 : Int) * hLen a0_h)).toNat (8 : Nat) :: ([] : List (List UInt8))).length) * (24 : Nat) ≤ (140737488355328 : Nat) ∧ (a0_h.snd.snd ++ ((toB (128 : Int) :: ([] : List UInt8)) :: List.replicate ((IntKind.i64.wrap ((119 : Int) - (a0_h.snd.snd.length : Int))).tmod (64 : Int)).toNat Ty.byte.kd.z :: be (IntKind.u64.wrap ((8 : Int) * hLen a0_h)).toNat (8 : Nat) :: ([] : List (List UInt8))).flatten).length ≤ (140737488355328 : Nat)) ∧ ∃ (x0 : Int → List UInt8 → Prop), ∃ (x1 : Int → List UInt8 → Nat), x0 (0 : Int) (Ty.arr (32 : Nat) Ty.byte).kd.z ∧ ∀ (x2 : Int) (x3 : List UInt8), x0 x2 x3 → (Kd.int IntKind.i64).wf x2 → (Ty.arr (32 : Nat) Ty.byte).kd.wf x3 → (x2 < (8 : Int) → ((0 : Int) ≤ x2 ∧ x2 < ((8 : Nat) : Int)) ∧ ((0 : Int) ≤ IntKind.i64.wrap ((4 : Int) * x2) ∧ IntKind.i64.wrap ((4 : Int) * x2) ≤ ((32 : Nat) : Int) ∧ ((32 : Nat) : Int) ≤ ((32 : Nat) : Int) ∧ IntKind.i64.wrap ((4 : Int) * x2) < ((32 : Nat) : Int)) ∧ (Ty.byte.kd.sl.wf (be (ix (qaB a0_h ((toB (128 : Int) :: ([] : List UInt8)) :: List.replicate ((IntKind.i64.wrap ((119 : Int) - (a0_h.snd.snd.length : Int))).tmod (64 : Int)).toNat Ty.byte.kd.z :: be (IntKind.u64.wrap ((8 : Int) * hLen a0_h)).toNat (8 : Nat) :: ([] : List (List UInt8)))).fst x2).toNat (8 : Nat)) → ((0 : Int) ≤ (4 : Int) ∧ (4 : Int) ≤ ((be (ix (qaB a0_h ((toB (128 : Int) :: ([] : List UInt8)) :: List.replicate ((IntKind.i64.wrap ((119 : Int) - (a0_h.snd.snd.length : Int))).tmod (64 : Int)).toNat Ty.byte.kd.z :: be (IntKind.u64.wrap ((8 : Int) * hLen a0_h)).toNat (8 : Nat) :: ([] : List (List UInt8)))).fst x2).toNat (8 : Nat)).length : Int)) ∧ x2 < (9223372036854775807 : Int) ∧ x0 (x2 + (1 : Int)) (List.take (IntKind.i64.wrap ((4 : Int) * x2)).toNat x3 ++ List.take (((32 : Nat) : Int).toNat - (IntKind.i64.wrap ((4 : Int) * x2)).toNat) (List.drop (Int.toNat (4 : Int)) (be (ix (qaB a0_h ((toB (128 : Int) :: ([] : List UInt8)) :: List.replicate ((IntKind.i64.wrap ((119 : Int) - (a0_h.snd.snd.length : Int))).tmod (64 : Int)).toNat Ty.byte.kd.z :: be (IntKind.u64.wrap ((8 : Int) * hLen a0_h)).toNat (8 : Nat) :: ([] : List (List UInt8)))).fst x2).toNat (8 : Nat))) ++ List.drop ((IntKind.i64.wrap ((4 : Int) * x2)).toNat + min (List.drop (Int.toNat (4 : Int)) (be (ix (qaB a0_h ((toB (128 : Int) :: ([] : List UInt8)) :: List.replicate ((IntKind.i64.wrap ((119 : Int) - (a0_h.snd.snd.length : Int))).tmod (64 : Int)).toNat Ty.byte.kd.z :: be (IntKind.u64.wrap ((8 : Int) * hLen a0_h)).toNat (8 : Nat) :: ([] : List (List UInt8)))).fst x2).toNat (8 : Nat))).length (((32 : Nat) : Int).toNat - (IntKind.i64.wrap ((4 : Int) * x2)).toNat)) x3) ∧ x1 (x2 + (1 : Int)) (List.take (IntKind.i64.wrap ((4 : Int) * x2)).toNat x3 ++ List.take (((32 : Nat) : Int).toNat - (IntKind.i64.wrap ((4 : Int) * x2)).toNat) (List.drop (Int.toNat (4 : Int)) (be (ix (qaB a0_h ((toB (128 : Int) :: ([] : List UInt8)) :: List.replicate ((IntKind.i64.wrap ((119 : Int) - (a0_h.snd.snd.length : Int))).tmod (64 : Int)).toNat Ty.byte.kd.z :: be (IntKind.u64.wrap ((8 : Int) * hLen a0_h)).toNat (8 : Nat) :: ([] : List (List UInt8)))).fst x2).toNat (8 : Nat))) ++ List.drop ((IntKind.i64.wrap ((4 : Int) * x2)).toNat + min (List.drop (Int.toNat (4 : Int)) (be (ix (qaB a0_h ((toB (128 : Int) :: ([] : List UInt8)) :: List.replicate ((IntKind.i64.wrap ((119 : Int) - (a0_h.snd.snd.length : Int))).tmod (64 : Int)).toNat Ty.byte.kd.z :: be (IntKind.u64.wrap ((8 : Int) * hLen a0_h)).toNat (8 : Nat) :: ([] : List (List UInt8)))).fst x2).toNat (8 : Nat))).length (((32 : Nat) : Int).toNat - (IntKind.i64.wrap ((4 : Int) * x2)).toNat)) x3) < x1 x2 x3)) ∧ (¬x2 < (8 : Int) → Q x3)) ∧ (((0 : Int) ≤ (IntKind.i64.wrap ((119 : Int) - (a0_h.snd.snd.length : Int))).tmod (64 : Int) ∧ (IntKind.i64.wrap ((119 : Int) - (a0_h.snd.snd.length : Int))).tmod (64 : Int) ≤ (IntKind.i64.wrap ((119 : Int) - (a0_h.snd.snd.length : Int))).tmod (64 : Int) ∧ ((1 : Nat) : Int) * (IntKind.i64.wrap ((119 : Int) - (a0_h.snd.snd.length : Int))).tmod (64 : Int) ≤ (281474976710656 : Int) ∧ (IntKind.i64.wrap ((119 : Int) - (a0_h.snd.snd.length : Int))).tmod (64 : Int) ≤ (281474976710656 : Int)) ∧ (((1 : Nat) + ((toB (128 : Int) :: ([] : List UInt8)) :: List.replicate ((IntKind.i64.wrap ((119 : Int) - (a0_h.snd.snd.length : Int))).tmod (64 : Int)).toNat Ty.byte.kd.z :: be (IntKind.u64.wrap ((8 : Int) * hLen a0_h)).toNat (8 : Nat) :: ([] : List (List UInt8))).length) * (24 : Nat) ≤ (140737488355328 : Nat) ∧ (a0_h.snd.snd ++ ((toB (128 : Int) :: ([] : List UInt8)) :: List.replicate ((IntKind.i64.wrap ((119 : Int) - (a0_h.snd.snd.length : Int))).tmod (64 : Int)).toNat Ty.byte.kd.z :: be (IntKind.u64.wrap ((8 : Int) * hLen a0_h)).toNat (8 : Nat) :: ([] : List (List UInt8))).flatten).length ≤ (140737488355328 : Nat)) ∧ ∃ (x0 : Int → List UInt8 → Prop), ∃ (x1 : Int → List UInt8 → Nat), x0 (0 : Int) (Ty.arr (32 : Nat) Ty.byte).kd.z ∧ ∀ (x2 : Int) (x3 : List UInt8), x0 x2 x3 → (Kd.int IntKind.i64).wf x2 → (Ty.arr (32 : Nat) Ty.byte).kd.wf x3 → (x2 < (8 : Int) → ((0 : Int) ≤ x2 ∧ x2 < ((8 : Nat) : Int)) ∧ ((0 : Int) ≤ IntKind.i64.wrap ((4 : Int) * x2) ∧ IntKind.i64.wrap ((4 : Int) * x2) ≤ ((32 : Nat) : Int) ∧ ((32 : Nat) : Int) ≤ ((32 : Nat) : Int) ∧ IntKind.i64.wrap ((4 : Int) * x2) < ((32 : Nat) : Int)) ∧ (Ty.byte.kd.sl.wf (be (ix (qaB a0_h ((toB (128 : Int) :: ([] : List UInt8)) :: List.replicate ((IntKind.i64.wrap ((119 : Int) - (a0_h.snd.snd.length : Int))).tmod (64 : Int)).toNat Ty.byte.kd.z :: be (IntKind.u64.wrap ((8 : Int) * hLen a0_h)).toNat (8 : Nat) :: ([] : List (List UInt8)))).fst x2).toNat (8 : Nat)) → ((0 : Int) ≤ (4 : Int) ∧ (4 : Int) ≤ ((be (ix (qaB a0_h ((toB (128 : Int) :: ([] : List UInt8)) :: List.replicate ((IntKind.i64.wrap ((119 : Int) - (a0_h.snd.snd.length : Int))).tmod (64 : Int)).toNat Ty.byte.kd.z :: be (IntKind.u64.wrap ((8 : Int) * hLen a0_h)).toNat (8 : Nat) :: ([] : List (List UInt8)))).fst x2).toNat (8 : Nat)).length : Int)) ∧ x2 < (9223372036854775807 : Int) ∧ x0 (x2 + (1 : Int)) (List.take (IntKind.i64.wrap ((4 : Int) * x2)).toNat x3 ++ List.take (((32 : Nat) : Int).toNat - (IntKind.i64.wrap ((4 : Int) * x2)).toNat) (List.drop (Int.toNat (4 : Int)) (be (ix (qaB a0_h ((toB (128 : Int) :: ([] : List UInt8)) :: List.replicate ((IntKind.i64.wrap ((119 : Int) - (a0_h.snd.snd.length : Int))).tmod (64 : Int)).toNat Ty.byte.kd.z :: be (IntKind.u64.wrap ((8 : Int) * hLen a0_h)).toNat (8 : Nat) :: ([] : List (List UInt8)))).fst x2).toNat (8 : Nat))) ++ List.drop ((IntKind.i64.wrap ((4 : Int) * x2)).toNat + min (List.drop (Int.toNat (4 : Int)) (be (ix (qaB a0_h ((toB (128 : Int) :: ([] : List UInt8)) :: List.replicate ((IntKind.i64.wrap ((119 : Int) - (a0_h.snd.snd.length : Int))).tmod (64 : Int)).toNat Ty.byte.kd.z :: be (IntKind.u64.wrap ((8 : Int) * hLen a0_h)).toNat (8 : Nat) :: ([] : List (List UInt8)))).fst x2).toNat (8 : Nat))).length (((32 : Nat) : Int).toNat - (IntKind.i64.wrap ((4 : Int) * x2)).toNat)) x3) ∧ x1 (x2 + (1 : Int)) (List.take (IntKind.i64.wrap ((4 : Int) * x2)).toNat x3 ++ List.take (((32 : Nat) : Int).toNat - (IntKind.i64.wrap ((4 : Int) * x2)).toNat) (List.drop (Int.toNat (4 : Int)) (be (ix (qaB a0_h ((toB (128 : Int) :: ([] : List UInt8)) :: List.replicate ((IntKind.i64.wrap ((119 : Int) - (a0_h.snd.snd.length : Int))).tmod (64 : Int)).toNat Ty.byte.kd.z :: be (IntKind.u64.wrap ((8 : Int) * hLen a0_h)).toNat (8 : Nat) :: ([] : List (List UInt8)))).fst x2).toNat (8 : Nat))) ++ List.drop ((IntKind.i64.wrap ((4 : Int) * x2)).toNat + min (List.drop (Int.toNat (4 : Int)) (be (ix (qaB a0_h ((toB (128 : Int) :: ([] : List UInt8)) :: List.replicate ((IntKind.i64.wrap ((119 : Int) - (a0_h.snd.snd.length : Int))).tmod (64 : Int)).toNat Ty.byte.kd.z :: be (IntKind.u64.wrap ((8 : Int) * hLen a0_h)).toNat (8 : Nat) :: ([] : List (List UInt8)))).fst x2).toNat (8 : Nat))).length (((32 : Nat) : Int).toNat - (IntKind.i64.wrap ((4 : Int) * x2)).toNat)) x3) < x1 x2 x3)) ∧ (¬x2 < (8 : Int) → Q x3)) ∧ True) ∧ True)
theorem qtr {a0_h : (List Int) × Int × List UInt8} (w_0 : (Ty.kd (.pr (.arr 8 (.int .u32)) (.pr (.int .u64) (.sl .byte)))).wf a0_h) (hp : a0_h.2.2.length < 64) : qkx a0_h (fun o0 => o0 = (hSum a0_h)) := by
 have wr : ∀ a : Int, -1000 ≤ a → a ≤ 1000 → IntKind.i64.wrap a = a := fun a h1 h2 => qan (wf64 (by omega) (by omega))
 have hk : Int.tmod (IntKind.i64.wrap (119 - (a0_h.2.2.length : Int))) 64 = ((119 - (a0_h.2.2.length : Int)) % 64) := by
  rw [wr _ (by omega) (by omega), Int.tmod_eq_emod_of_nonneg (by omega)]
 have hsum : ∀ n, (sumN (qaB a0_h (qnn a0_h)).1 n).length = 32 := by
  intro n
  induction n with
  | zero => simp [sumN]
  | succ n ih =>
    simp only [sumN, List.length_append, List.length_take, List.length_drop, ih, qaQ]
    omega
 have hp' : [[toB 128], List.replicate ((119 - (a0_h.2.2.length : Int)) % 64).toNat Ty.byte.kd.z, be (IntKind.u64.wrap (8 * hLen a0_h)).toNat 8] = qnn a0_h := by unfold qnn; rw [hk]; rfl
 unfold qkx
 rw [hk, hp']
 intro _
 refine ⟨by omega, fun _ _ => ?_⟩
 repeat' (first | apply And.intro | intro _)
 all_goals first | trivial | omega | (simp only [← hp', List.length_cons, List.length_nil, List.length_append, List.flatten_cons, List.flatten_nil, List.length_replicate, qaQ]; omega) | skip
 all_goals
  refine ⟨fun i b => ∃ n : Nat, i = (n : Int) ∧ n ≤ 8 ∧ b = sumN (qaB a0_h (qnn a0_h)).1 n, fun i _ => 8 - i.toNat, ⟨0, rfl, by omega, rfl⟩, ?_⟩
  rintro i b ⟨n, rfl, hn, rfl⟩ _ _
  refine ⟨fun hlt => ?_, fun hge => ?_⟩
  ·rw [wr (4 * (n : Int)) (by omega) (by omega)]
   have e4 : (4 * (n : Int)).toNat = 4 * n := by omega
   rw [e4]
   refine ⟨⟨by omega, hlt⟩, ⟨by omega, by omega, by omega, by omega⟩, fun _ => ⟨⟨by omega, by rw [qaQ]; omega⟩, by omega, ⟨n + 1, by omega, by omega, rfl⟩, ?_⟩⟩
   show 8 - ((n : Int) + 1).toNat < 8 - (n : Int).toNat
   omega
  ·have : n = 8 := by omega
   subst this
   rfl
theorem qtq : (∀ a, qhI.pre a → PM.wfP qhI.pm a (fvc qsA 200 125 qhI a (eqO qhI a))) = (∀ a : ((List Int) × Int × List UInt8) × Unit, ((a.1).2.2.length < 64) → (Ty.kd (.pr (.arr 8 (.int .u32)) (.pr (.int .u64) (.sl .byte)))).wf a.1 → qkx a.1 (fun o0 => o0 = (hSum (a.1)))) := by kernel_rfl
theorem qvj : qhI.valid Try.prog 125 := qat (X := qsA) (qaK qam (fun b hb => by cases hb; exact qar) qas ⟨qvo, qtn, qvi, qws, qlH, trivial⟩) 200 (qtq.mpr fun a hp w_0 => @qtr a.1 w_0 hp)
noncomputable def qeO : Ctr := ⟨[.v (.sl (.sl .byte))], [.v (.arr 32 .byte)], some (fun a => (fun (a0_parts : List (List UInt8)) => ((1 + a0_parts.length) * 24 ≤ 140737488355328 ∧ a0_parts.flatten.length ≤ 140737488355328 : Prop)) a.1), fun a => (fun (a0_parts : List (List UInt8)) => (((qbn a0_parts), ()), (()))) a.1⟩
noncomputable def qlR : Fx := ⟨seat, some bkT, fns, [(123, qkD), (124, qdi), (125, qhI)], [], [], []⟩
def qgM (a0_parts : List (List UInt8)) (Q : (List UInt8) → Prop) : Prop :=
 ((Ty.arr (8 : Nat) (Ty.int IntKind.u32)).pr ((Ty.int IntKind.u64).pr Ty.byte.sl)).kd.wf (List.replicate (8 : Nat) (0 : Int), (0 : Int), ([] : List UInt8)) → (((1 : Nat) + a0_parts.length) * (24 : Nat) ≤ (140737488355328 : Nat) ∧ (([] : List UInt8) ++ a0_parts.flatten).length ≤ (140737488355328 : Nat)) ∧ (qaB (List.replicate (8 : Nat) (0 : Int), (0 : Int), ([] : List UInt8)) a0_parts).snd.snd.length < (64 : Nat) ∧ ((Ty.arr (32 : Nat) Ty.byte).kd.wf (hSum (qaB (List.replicate (8 : Nat) (0 : Int), (0 : Int), ([] : List UInt8)) a0_parts)) → Q (hSum (qaB (List.replicate (8 : Nat) (0 : Int), (0 : Int), ([] : List UInt8)) a0_parts)))
theorem qol {a0_parts : List (List UInt8)} (w_0 : (Ty.kd (.sl (.sl .byte))).wf a0_parts) (hp : (1 + a0_parts.length) * 24 ≤ 140737488355328 ∧ a0_parts.flatten.length ≤ 140737488355328) : qgM a0_parts (fun o0 => o0 = (qbn a0_parts)) := by
 unfold qgM
 exact fun _ => ⟨⟨hp.1, hp.2⟩, qrr _ _ _, fun _ => rfl⟩
theorem qok : (∀ a, qeO.pre a → PM.wfP qeO.pm a (fvc qlR 200 110 qeO a (eqO qeO a))) = (∀ a : (List (List UInt8)) × Unit, ((1 + (a.1).length) * 24 ≤ 140737488355328 ∧ (a.1).flatten.length ≤ 140737488355328) → (Ty.kd (.sl (.sl .byte))).wf a.1 → qgM a.1 (fun o0 => o0 = (qbn (a.1)))) := by kernel_rfl
theorem qq1 : qeO.valid Try.prog 110 := qat (X := qlR) (qaK qam (fun b hb => by cases hb; exact qar) qas ⟨qvo, qlH, qvj, trivial⟩) 200 (qok.mpr fun a hp w_0 => @qol a.1 w_0 hp)
end Go.Proofs.Ytmjjkpiglbpkhaa

set_option linter.unusedVariables false
set_option maxRecDepth 100000
set_option maxHeartbeats 2000000
namespace Go.Proofs.Ytmjjkpiglbpkhaa
open Go Go.RowKit Go.Inc
theorem qr4 {θ : Th} {n : Nat} {K : Ghost} {s : SVal} {v : Value} (h : s.rel θ n K v) : SVal.relL θ n K [s] [v] := ⟨v, [], rfl, h, rfl⟩
theorem qwB {θ : Th} {n : Nat} {K : Ghost} {s s' : SVal} {v v' : Value} (h : s.rel θ n K v) (h' : s'.rel θ n K v') : SVal.relL θ n K [s, s'] [v, v'] := ⟨v, [v'], rfl, h, qr4 h'⟩
theorem qtf {w0 : World} {K0 : Ghost} {a0_s_v : Value} {a0_s : (List UInt8)} (hM0 : Models w0 K0) (h_a0_s : qaD.V K0 a0_s a0_s_v) (hp : a0_s.length ≤ 140737488355328) : Calls Try.prog 69 #[a0_s_v] w0 (fun e w' => ∃ (K' : Ghost) (r0 : Value), e = .returned r0 ∧ Ext NX w0 K0 w' K' ∧ Models w' K' ∧ Own Kd.byte 5 w' K' a0_s r0 ∧ (∀ g, ob r0 = some g → w0.heap.size ≤ g)) :=
 qwO (k := .byte) qdJ (fun _ => rfl) (a := (a0_s, ())) (vs := [a0_s_v]) hp hM0 fun θ => qr4 (SVal.of_rel (t := .sl .byte) h_a0_s)
theorem qti {w0 : World} {K0 : Ghost} {a0_a_v : Value} {a0_a : (List UInt8)} {a1_b_v : Value} {a1_b : (List UInt8)} (hM0 : Models w0 K0) (h_a0_a : qaD.V K0 a0_a a0_a_v) (h_a1_b : qaD.V K0 a1_b a1_b_v) : Calls Try.prog 85 #[a0_a_v, a1_b_v] w0 (fun e w' => ∃ (K' : Ghost) (r0 : Value), e = .returned r0 ∧ Ext NX w0 K0 w' K' ∧ Models w' K' ∧ Kd.bool.V K' (decide (a0_a = a1_b)) r0) :=
 un_v (t := .bool) qtj (fun _ => rfl) (fun _ => rfl) (a := (a0_a, a1_b, ())) (vs := [a0_a_v, a1_b_v]) trivial hM0 fun θ => qwB (SVal.of_rel (t := .sl .byte) h_a0_a) (SVal.of_rel (t := .sl .byte) h_a1_b)
theorem qhL {w0 : World} {K0 : Ghost} {a0_kind_v : Value} {a0_kind : Int} {a1_parts_v : Value} {a1_parts : (List (List UInt8))} (hM0 : Models w0 K0) (h_a0_kind : (Kd.int .i64).V K0 a0_kind a0_kind_v) (h_a1_parts : qbc.V K0 a1_parts a1_parts_v) (hp : 1 + qaj a1_parts ≤ 140737488355328) : Calls Try.prog 98 #[a0_kind_v, a1_parts_v] w0 (fun e w' => ∃ (K' : Ghost) (r0 : Value), e = .returned r0 ∧ Ext NX w0 K0 w' K' ∧ Models w' K' ∧ Own Kd.byte 5 w' K' (preimage a0_kind a1_parts) r0 ∧ (∀ g, ob r0 = some g → w0.heap.size ≤ g)) :=
 qwO (k := .byte) qmX (fun _ => rfl) (a := (a0_kind, a1_parts, ())) (vs := [a0_kind_v, a1_parts_v]) hp hM0 fun θ => qwB (SVal.of_rel (t := .int .i64) h_a0_kind) (SVal.of_rel (t := .sl (.sl .byte)) h_a1_parts)
theorem qlS {w0 : World} {K0 : Ghost} {a0_parts_v : Value} {a0_parts : (List (List UInt8))} (hM0 : Models w0 K0) (h_a0_parts : qbc.V K0 a0_parts a0_parts_v) (hp : (1 + a0_parts.length) * 24 ≤ 140737488355328 ∧ a0_parts.flatten.length ≤ 140737488355328) : Calls Try.prog 110 #[a0_parts_v] w0 (fun e w' => ∃ (K' : Ghost) (r0 : Value), e = .returned r0 ∧ Ext NX w0 K0 w' K' ∧ Models w' K' ∧ (Kd.arr 32 Kd.byte).V K' (qbn a0_parts) r0) :=
 un_v (t := .arr 32 .byte) qq1 (fun _ => rfl) (fun _ => rfl) (a := (a0_parts, ())) (vs := [a0_parts_v]) hp hM0 fun θ => qr4 (SVal.of_rel (t := .sl (.sl .byte)) h_a0_parts)
end Go.Proofs.Ytmjjkpiglbpkhaa

set_option linter.unusedVariables false
set_option maxRecDepth 100000
set_option maxHeartbeats 2000000
namespace Go.Proofs.Ytmjjkpiglbpkhaa
open Go Go.RowKit Go.Inc
theorem ty3 : TyOk Try.prog 3 (Kd.int .i64) 8 := ⟨⟨Try.t3, _, Try.type3, rfl, rfl, rfl, rfl, rfl⟩, ⟨_, Try.underlying3, rfl⟩⟩
abbrev qae : Kd (List UInt8) := (Kd.arr 32 Kd.byte)
abbrev qaq : Kd ((List UInt8) × (List UInt8)) := (Kd.pr qae qaD)
theorem ty24 : TyOk Try.prog 24 qae 32 := ⟨⟨Try.t24, _, Try.type24, rfl, rfl, rfl, rfl, rfl⟩, ⟨_, Try.underlying24, rfl⟩⟩
def qg4 (a0_x : ((List UInt8) × (List UInt8))) (a1_x : (List UInt8)) (a2_x : (List UInt8)) (Q : Bool → Prop) : Prop :=
 Q (decide ((a0_x.1 = a1_x) ∧ (a0_x.2 = a2_x)))
theorem qo8 {a0_x : ((List UInt8) × (List UInt8))} {a1_x : (List UInt8)} {a2_x : (List UInt8)} (w_0 : qaq.wf a0_x) (w_1 : qae.wf a1_x) (w_2 : qaD.wf a2_x) : qg4 a0_x a1_x a2_x (fun o0 => o0 = decide (a0_x.1 = a1_x ∧ a0_x.2 = a2_x)) := by
 show decide _ = decide _
 simp
theorem qk7 {w0 : World} {K0 : Ghost} {a0_x_v : Value} {a0_x : ((List UInt8) × (List UInt8))} {a1_x_b : Nat} {a1_x_pre a1_x_post : List Value} {a1_x : (List UInt8)} {a2_x_b : Nat} {a2_x_pre a2_x_post : List Value} {a2_x : (List UInt8)} {Q : Bool → Prop} (hM0 : Models w0 K0) (h_a0_x : qaq.V K0 a0_x a0_x_v) (h_a1_x_B : Bx qae w0 K0 a1_x_b a1_x_pre a1_x_post a1_x) (h_a2_x_B : Bx qaD w0 K0 a2_x_b a2_x_pre a2_x_post a2_x) (hsp2_3 : ¬ (a1_x_b = a2_x_b)) (h : qg4 a0_x a1_x a2_x Q) : Calls Try.prog 133 #[a0_x_v, (.pointer (some ⟨a1_x_b, a1_x_pre.length, none⟩)), (.pointer (some ⟨a2_x_b, a2_x_pre.length, none⟩))] w0 (fun e w' => ∃ (K' : Ghost) (r0 : Value) (o0 : Bool), e = .returned r0 ∧ Q o0 ∧ Ext NX w0 K0 w' K' ∧ Models w' K' ∧ Kd.bool.V K' o0 r0) := by
 unfold qg4 at h
 have hE0 : Ext NX w0 K0 w0 K0 := Ext.refl _ _ _
 refine qbz fun R hR => ?_
 refine qa4 (args := [a0_x_v, (.pointer (some ⟨a1_x_b, a1_x_pre.length, none⟩)), (.pointer (some ⟨a2_x_b, a2_x_pre.length, none⟩))]) Try.func133 rfl (Nat.le_of_ble_eq_true rfl) ?_
 refine qap ?_
 refine qaf ?_
 refine qaY rfl rfl (St_B (qkK hM0 rfl h_a0_x) ?_)
 rintro b4 w4 (hB4 : Bx qaq _ _ _ _ _ a0_x) hS4 hM4 hge4
 have hE4 := hE0.andN hS4
 refine qaa (.bool false) (R_as rfl) rfl rfl ?_
 refine qay ?_
 refine qap ?_
 refine qsL (K := K0) NX [.o 0 2, .o 1 2, .o 2 2, .o 3 2, .o 4 2, .o 5 2, .o 6 2, .o 7 2, .o 8 0, .o 9 2, .o 10 2] (by kernel_rfl) hM4 ?_
 refine qax (.pointer (some ⟨b4, 0 + 0, none⟩)) rfl l0 hM4 (fun _ => R_fa rfl Try.underlying146 rfl rfl ty24 rfl) rfl (gN rfl) rfl ?_
 refine qeP hM4 (qcP (Foc.fst qae qaD) rfl ty24 hB4 (by first | rfl | simp | omega) (fun h => h)) rfl (gN rfl) rfl ?_
 rintro v6 (hV6 : qae.V _ a0_x.1 _)
 have hR9 := (h_a1_x_B.extN hS4)
 refine qeP hM4 (qcP (Foc.id _) rfl ty24 hR9 (by first | rfl | simp | omega) (fun h => h)) rfl (gN rfl) rfl ?_
 rintro v8 (hV8 : qae.V _ a1_x _)
 refine qax (.bool (decide (a0_x.1 = a1_x))) rfl l0 hM4 (fun _ => qvx rfl rfl hV6 hV8 Try.underlying24 Try.underlying5 ty5b (by kernel_rfl)) rfl (gN rfl) rfl ?_
 refine qax (.bool (decide (a0_x.1 = a1_x))) rfl l0 hM4 (fun _ => R_mv rfl) rfl (gN rfl) rfl ?_
 refine qt0 (al := true) (l1 := [.o 5 2, .o 6 2, .o 7 2, .o 8 0, .o 9 2]) [10, 11, 12, 13, 14] NX (fun l w K => l = [(14, (.bool (decide ((a0_x.1 = a1_x) ∧ (a0_x.2 = a2_x)))))] ∧ Ext NX w4 K0 w K ∧ Models w K) ?_ ?_
 ·rcases Classical.em (a0_x.1 = a1_x) with hp11 | hp11
  ·skip
   refine qax (.pointer (some ⟨b4, 0 + 32, none⟩)) rfl l0 hM4 (fun _ => R_fa rfl Try.underlying146 rfl rfl ty32 rfl) rfl (gY rfl rfl rfl (decide_eq_true hp11)) rfl ?_
   refine qeP hM4 (qcP (Foc.snd qae qaD) rfl ty32 hB4 (by first | rfl | simp | omega) (fun h => h)) rfl (gY rfl rfl rfl (decide_eq_true hp11)) rfl ?_
   rintro v12 (hV12 : qaD.V _ a0_x.2 _)
   have hR15 := (h_a2_x_B.extN hS4)
   refine qeP hM4 (qcP (Foc.id _) rfl ty32 hR15 (by first | rfl | simp | omega) (fun h => h)) rfl (gY rfl rfl rfl (decide_eq_true hp11)) rfl ?_
   rintro v14 (hV14 : qaD.V _ a2_x _)
   refine qkO rfl (gY rfl rfl rfl (decide_eq_true hp11)) rfl (qbR (qdL Try.call85 rfl) ((qti hM4 hV12 hV14).mono ?_))
   rintro _ w17 ⟨K17, v17_0, rfl, hS17, hM17, hV17_0⟩
   refine ⟨v17_0, rfl, ?_⟩
   refine ⟨K17, hS17, hM17, ?_⟩
   have hE17 := hE4.andN hS17
   obtain rfl := qco hV17_0
   refine qax (.bool (decide ((a0_x.1 = a1_x) ∧ (a0_x.2 = a2_x)))) rfl l0 hM17 (fun _ => qtK rfl (decide_eq_true hp11) rfl (qxr hp11)) rfl (gN rfl) rfl ?_
   exact qsK [(14, (.bool (decide ((a0_x.1 = a1_x) ∧ (a0_x.2 = a2_x)))))] K17 rfl ⟨rfl, ((Ext.refl _ _ _).andN hS17), hM17⟩ (by repeat (first | exact Off.refl _ _ | refine Off.updO ?_ rfl _ | refine Off.updN ?_ _ | refine Off.lay ?_ rfl)) ⟨rfl, trivial⟩
  ·skip
   refine qgN _ hM4 l0 rfl (gF rfl rfl rfl (decide_eq_false hp11)) rfl ?_
   refine qgN _ hM4 l0 rfl (gF rfl rfl rfl (decide_eq_false hp11)) rfl ?_
   refine qgN _ hM4 l0 rfl (gF rfl rfl rfl (decide_eq_false hp11)) rfl ?_
   refine qgN _ hM4 l0 rfl (gF rfl rfl rfl (decide_eq_false hp11)) rfl ?_
   refine qax (.bool (decide ((a0_x.1 = a1_x) ∧ (a0_x.2 = a2_x)))) rfl l0 hM4 (fun _ => qtL rfl (decide_eq_false hp11) rfl (qxq hp11)) rfl (gN rfl) rfl ?_
   exact qsK [(14, (.bool (decide ((a0_x.1 = a1_x) ∧ (a0_x.2 = a2_x)))))] K0 rfl ⟨rfl, (Ext.refl _ _ _), hM4⟩ (by repeat (first | exact Off.refl _ _ | refine Off.updO ?_ rfl _ | refine Off.updN ?_ _ | refine Off.lay ?_ rfl)) ⟨rfl, trivial⟩
 rintro l σ18 w18 K18 ⟨rfl, hS18, hM18⟩
 have hE18 := hE4.andN hS18
 refine qax (.bool (decide ((a0_x.1 = a1_x) ∧ (a0_x.2 = a2_x)))) rfl l0 hM18 (fun _ => R_as rfl) rfl (gN rfl) rfl ?_
 refine qhO ?_
 refine qcE ?_
 exact qbJ hR (v := (.bool (decide ((a0_x.1 = a1_x) ∧ (a0_x.2 = a2_x))))) (qeq rfl rfl) ⟨K18, (.bool (decide ((a0_x.1 = a1_x) ∧ (a0_x.2 = a2_x)))), (decide ((a0_x.1 = a1_x) ∧ (a0_x.2 = a2_x))), rfl, h, hE18, hM18, qgU⟩
theorem qrA {w0 : World} {K0 : Ghost} {a0_x_v : Value} {a0_x : ((List UInt8) × (List UInt8))} {a1_x_b : Nat} {a1_x_pre a1_x_post : List Value} {a1_x : (List UInt8)} {a2_x_b : Nat} {a2_x_pre a2_x_post : List Value} {a2_x : (List UInt8)} (hM0 : Models w0 K0) (h_a0_x : qaq.V K0 a0_x a0_x_v) (h_a1_x_B : Bx qae w0 K0 a1_x_b a1_x_pre a1_x_post a1_x) (h_a2_x_B : Bx qaD w0 K0 a2_x_b a2_x_pre a2_x_post a2_x) (hsp2_3 : ¬ (a1_x_b = a2_x_b)) : Calls Try.prog 133 #[a0_x_v, (.pointer (some ⟨a1_x_b, a1_x_pre.length, none⟩)), (.pointer (some ⟨a2_x_b, a2_x_pre.length, none⟩))] w0 (fun e w' => ∃ (K' : Ghost) (r0 : Value), e = .returned r0 ∧ Ext NX w0 K0 w' K' ∧ Models w' K' ∧ Kd.bool.V K' (decide (a0_x.1 = a1_x ∧ a0_x.2 = a2_x)) r0) := by
 refine (qk7 hM0 h_a0_x h_a1_x_B h_a2_x_B hsp2_3 (qo8 h_a0_x.wf h_a1_x_B.wf h_a2_x_B.wf)).mono ?_
 rintro _ w' ⟨K', r0, o0, rfl, rfl, hF⟩
 exact ⟨K', r0, rfl, hF⟩
abbrev qaU : Kd (List ((List UInt8) × (List UInt8))) := (Kd.sl qaq)
theorem qnx : TyOk Try.prog 146 qaq 56 := ⟨⟨Try.t146, _, Try.type146, rfl, rfl, rfl, rfl, rfl⟩, ⟨_, Try.underlying146, rfl⟩⟩
def qcD (a0_s : (List ((List UInt8) × (List UInt8)))) (a1_f_0 : (List UInt8)) (a1_f_1 : (List UInt8)) (Q : Int → Prop) : Prop :=
 ∃ (I4 : Int → Int → Prop) (μ4 : Int → Int → Nat), I4 0 0 ∧ ∀ (i4 : Int) (i4' : Int), I4 i4 i4' → ((Kd.int .i64).wf i4) → ((Kd.int .i64).wf i4') → (((i4' < (a0_s.length : Int)) → (0 ≤ i4' ∧ i4' < (a0_s.length : Int)) ∧ ((((ix a0_s i4').1 = a1_f_0 ∧ (ix a0_s i4').2 = a1_f_1) → Q i4') ∧ ((¬ ((ix a0_s i4').1 = a1_f_0 ∧ (ix a0_s i4').2 = a1_f_1)) → I4 i4 (i4' + 1) ∧ μ4 i4 (i4' + 1) < μ4 i4 i4'))) ∧ ((¬ (i4' < (a0_s.length : Int))) → Q (-1)))
theorem qju {a0_s : (List ((List UInt8) × (List UInt8)))} {a1_f_0 : (List UInt8)} {a1_f_1 : (List UInt8)} (w_0 : qaU.wf a0_s) : qcD a0_s a1_f_0 a1_f_1 (fun o0 => o0 = (qbk a1_f_0 a1_f_1 a0_s 0)) := by
 unfold qcD
 refine ⟨fun _ i => ∃ j : Nat, i = (j : Int) ∧ j ≤ a0_s.length ∧ qbk a1_f_0 a1_f_1 a0_s 0 = qbk a1_f_0 a1_f_1 (a0_s.drop j) (j : Int), fun _ i => a0_s.length - i.toNat, ⟨0, rfl, by omega, by simp⟩, ?_⟩
 rintro _ i ⟨j, rfl, hj, he⟩ _ _
 refine ⟨fun hlt => ⟨⟨by omega, hlt⟩, fun h => ?_, fun h => ⟨⟨j + 1, by omega, by omega, ?_⟩, ?_⟩⟩, fun hge => ?_⟩
 ·rw [qhe hlt, if_pos (h)] at he
  exact he.symm
 ·rw [qhe hlt, if_neg (h)] at he
  rw [he]
  congr 1
 ·show a0_s.length - ((j : Int) + 1).toNat < a0_s.length - (j : Int).toNat
  omega
 ·have : j = a0_s.length := by omega
  subst this
  rw [List.drop_length] at he
  exact he.symm
theorem qht {w0 : World} {K0 : Ghost} {a0_s_v : Value} {a0_s : (List ((List UInt8) × (List UInt8)))} {a1_f_0_b : Nat} {a1_f_0_pre a1_f_0_post : List Value} {a1_f_0 : (List UInt8)} {a1_f_1_b : Nat} {a1_f_1_pre a1_f_1_post : List Value} {a1_f_1 : (List UInt8)} {Q : Int → Prop} (hM0 : Models w0 K0) (h_a0_s : qaU.V K0 a0_s a0_s_v) (h_a1_f_0_B : Bx qae w0 K0 a1_f_0_b a1_f_0_pre a1_f_0_post a1_f_0) (h_a1_f_1_B : Bx qaD w0 K0 a1_f_1_b a1_f_1_pre a1_f_1_post a1_f_1) (hsp2_3 : ¬ (a1_f_0_b = a1_f_1_b)) (h : qcD a0_s a1_f_0 a1_f_1 Q) : Calls Try.prog 144 #[a0_s_v, (.func (.func 133) #[] #[(.pointer (some ⟨a1_f_0_b, a1_f_0_pre.length, none⟩)), (.pointer (some ⟨a1_f_1_b, a1_f_1_pre.length, none⟩))])] w0 (fun e w' => ∃ (K' : Ghost) (r0 : Value) (o0 : Int), e = .returned r0 ∧ Q o0 ∧ Ext NX w0 K0 w' K' ∧ Models w' K' ∧ (Kd.int .i64).V K' o0 r0) := by
 unfold qcD at h
 have hE0 : Ext NX w0 K0 w0 K0 := Ext.refl _ _ _
 refine qbz fun R hR => ?_
 refine qa4 (args := [a0_s_v, (.func (.func 133) #[] #[(.pointer (some ⟨a1_f_0_b, a1_f_0_pre.length, none⟩)), (.pointer (some ⟨a1_f_1_b, a1_f_1_pre.length, none⟩))])]) Try.func144 rfl (Nat.le_of_ble_eq_true rfl) ?_
 refine qap ?_
 refine qaf ?_
 refine qaa (.int .i64 0) (R_as rfl) rfl rfl ?_
 refine qay ?_
 refine qap ?_
 refine qap ?_
 refine qaf ?_
 refine qaa a0_s_v (R_mv rfl) rfl rfl ?_
 refine qaa (.int .i64 (a0_s.length : Int)) (qgK rfl h_a0_s Try.underlying36) rfl rfl ?_
 refine qaa (.int .i64 0) (R_mv rfl) rfl rfl ?_
 refine qay ?_
 refine qcb ?_
 obtain ⟨I4, μ4, h0, h⟩ := h
 refine qiA (ι := Int × Int) [4, 5, 8, 9, 10, 11, 12, 13, 14, 15, 16, 17, 18] (fun s l w => ∃ K, I4 s.1 s.2 ∧ l = [(4, (.int .i64 s.1)), (8, (.int .i64 s.2))] ∧ Ext NX w0 K0 w K ∧ Models w K ∧ (Kd.int .i64).wf s.1 ∧ (Kd.int .i64).wf s.2) (fun s => μ4 s.1 s.2) (0, 0) [(4, (.int .i64 0)), (8, (.int .i64 0))]
  ⟨K0, h0, rfl, Ext.refl _ _ _, hM0, (show (Kd.int .i64).wf 0 from by constructor <;> decide), (show (Kd.int .i64).wf 0 from by constructor <;> decide)⟩ (by repeat (first | exact trivial | refine ⟨rfl, ?_⟩)) ?_
 rintro ⟨i4, i4'⟩ l σ4 w5 ⟨K5, hI, rfl, hX5, hM5, hw4_4, hw4_8⟩
 dsimp only at hI hw4_4 hw4_8
 have hE5 := hE0.andN hX5
 have h := h i4 i4' hI hw4_4 hw4_8
 refine qap ?_
 refine qaf ?_
 refine qaa (.bool (decide (i4' < (a0_s.length : Int)))) (qm0 rfl rfl) rfl rfl ?_
 refine qay ?_
 refine qap ?_
 refine qa9 (decide (i4' < (a0_s.length : Int))) rfl (fun hc6 => ?_) (fun hc6 => ?_)
 ·have hd6 : i4' < (a0_s.length : Int) := qjL hc6
  have h := h.1 hd6
  refine qbS ?_
  refine qap ?_
  refine qcb ?_
  refine qap ?_
  refine qaf ?_
  refine qaa (.int .i64 i4') (R_mv rfl) rfl rfl ?_
  refine qaa (.int .i64 i4') (R_as rfl) rfl rfl ?_
  refine qay ?_
  refine qap ?_
  refine qaf ?_
  refine qaa (.func (.func 133) #[] #[(.pointer (some ⟨a1_f_0_b, a1_f_0_pre.length, none⟩)), (.pointer (some ⟨a1_f_1_b, a1_f_1_pre.length, none⟩))]) (R_mv rfl) rfl rfl ?_
  refine qaa a0_s_v (R_mv rfl) rfl rfl ?_
  refine qaa (.int .i64 i4') (R_mv rfl) rfl rfl ?_
  obtain ⟨hp8, h⟩ := h
  refine WL_P (qoj rfl (h_a0_s.mono hX5.le) rfl Try.underlying36 qnx hp8.1 hp8.2) rfl rfl ?_
  rintro b7 o7 hP7
  refine WL_L hM5 (S_ld rfl qnx hP7) rfl rfl ?_
  rintro v10 (hV10 : qaq.V _ (ix a0_s i4') _)
  have hR12 := (h_a1_f_0_B.extN hX5)
  have hR13 := (h_a1_f_1_B.extN hX5)
  refine qaY rfl rfl (qbR (qoa rfl Try.call133 rfl) ((qrA hM5 hV10 hR12 hR13 hsp2_3).mono ?_))
  rintro _ w14 ⟨K14, v14_0, rfl, hS14, hM14, hV14_0⟩
  refine ⟨v14_0, rfl, ?_⟩
  have hE14 := hE5.andN hS14
  obtain rfl := qco hV14_0
  refine qay ?_
  refine qa9 (decide ((ix a0_s i4').1 = a1_f_0 ∧ (ix a0_s i4').2 = a1_f_1)) rfl (fun hc15 => ?_) (fun hc15 => ?_)
  ·have hd15 : (ix a0_s i4').1 = a1_f_0 ∧ (ix a0_s i4').2 = a1_f_1 := qjL hc15
   have h := h.1 hd15
   refine qap ?_
   refine qaf ?_
   refine qaa (.int .i64 i4') (R_mv rfl) rfl rfl ?_
   refine qaa (.int .i64 i4') (R_as rfl) rfl rfl ?_
   refine qay ?_
   refine qcE ?_
   exact qbJ hR (v := (.int .i64 i4')) (qeq rfl rfl) ⟨K14, (.int .i64 i4'), i4', rfl, h, hE14, hM14, (qhz hw4_8)⟩
  ·have hd15 : ¬ ((ix a0_s i4').1 = a1_f_0 ∧ (ix a0_s i4').2 = a1_f_1) := qjK hc15
   have h := h.2 hd15
   refine qbS ?_
   refine qaf ?_
   refine qaa (.int .i64 (i4' + 1)) (qtI rfl rfl hw4_8 hd6 (qc6 (h_a0_s).wf.1)) rfl rfl ?_
   refine qaa (.int .i64 (i4' + 1)) (R_mv rfl) rfl rfl ?_
   refine qay ?_
   refine qks.mk (i4, (i4' + 1)) [(4, (.int .i64 i4)), (8, (.int .i64 (i4' + 1)))] ?_ ?_ ?_ ?_
   rotate_left
   ·exact h.2
   ·repeat (first | exact Off.lay0 rfl | refine Off.updO ?_ rfl _ | refine Off.updN ?_ _ | refine Off.lay ?_ rfl)
   ·repeat (first | exact trivial | refine ⟨rfl, ?_⟩)
   exact ⟨K14, h.1, rfl, (((Ext.refl _ _ _).andN hX5).andN hS14), hM14, hw4_4, (qpc hw4_8 hd6 (qc6 (h_a0_s).wf.1))⟩
 ·have hd6 : ¬ (i4' < (a0_s.length : Int)) := qjK hc6
  have h := h.2 hd6
  refine qiz ?_
  refine qap ?_
  refine qaf ?_
  refine qaa (.int .i64 (-1)) (R_as rfl) rfl rfl ?_
  refine qay ?_
  refine qcE ?_
  exact qbJ hR (v := (.int .i64 (-1))) (qeq rfl rfl) ⟨K5, (.int .i64 (-1)), (-1), rfl, h, hE5, hM5, (qhz (show (Kd.int .i64).wf (-1) from by constructor <;> decide))⟩
theorem qkz {w0 : World} {K0 : Ghost} {a0_s_v : Value} {a0_s : (List ((List UInt8) × (List UInt8)))} {a1_f_0_b : Nat} {a1_f_0_pre a1_f_0_post : List Value} {a1_f_0 : (List UInt8)} {a1_f_1_b : Nat} {a1_f_1_pre a1_f_1_post : List Value} {a1_f_1 : (List UInt8)} (hM0 : Models w0 K0) (h_a0_s : qaU.V K0 a0_s a0_s_v) (h_a1_f_0_B : Bx qae w0 K0 a1_f_0_b a1_f_0_pre a1_f_0_post a1_f_0) (h_a1_f_1_B : Bx qaD w0 K0 a1_f_1_b a1_f_1_pre a1_f_1_post a1_f_1) (hsp2_3 : ¬ (a1_f_0_b = a1_f_1_b)) : Calls Try.prog 144 #[a0_s_v, (.func (.func 133) #[] #[(.pointer (some ⟨a1_f_0_b, a1_f_0_pre.length, none⟩)), (.pointer (some ⟨a1_f_1_b, a1_f_1_pre.length, none⟩))])] w0 (fun e w' => ∃ (K' : Ghost) (r0 : Value), e = .returned r0 ∧ Ext NX w0 K0 w' K' ∧ Models w' K' ∧ (Kd.int .i64).V K' (qbk a1_f_0 a1_f_1 a0_s 0) r0) := by
 refine (qht hM0 h_a0_s h_a1_f_0_B h_a1_f_1_B hsp2_3 (qju h_a0_s.wf)).mono ?_
 rintro _ w' ⟨K', r0, o0, rfl, rfl, hF⟩
 exact ⟨K', r0, rfl, hF⟩
def qfg (a0_s : (List ((List UInt8) × (List UInt8)))) (a1_f_0 : (List UInt8)) (a1_f_1 : (List UInt8)) (Q : Bool → Prop) : Prop :=
 ((Kd.int .i64).wf (qbk a1_f_0 a1_f_1 a0_s 0)) → (Q (decide (0 ≤ (qbk a1_f_0 a1_f_1 a0_s 0))))
theorem qmW {a0_s : (List ((List UInt8) × (List UInt8)))} {a1_f_0 : (List UInt8)} {a1_f_1 : (List UInt8)} (w_0 : qaU.wf a0_s) : qfg a0_s a1_f_0 a1_f_1 (fun o0 => o0 = decide (0 ≤ qbk a1_f_0 a1_f_1 a0_s 0)) := by
 exact fun _ => rfl
theorem qjt {w0 : World} {K0 : Ghost} {a0_s_v : Value} {a0_s : (List ((List UInt8) × (List UInt8)))} {a1_f_0_b : Nat} {a1_f_0_pre a1_f_0_post : List Value} {a1_f_0 : (List UInt8)} {a1_f_1_b : Nat} {a1_f_1_pre a1_f_1_post : List Value} {a1_f_1 : (List UInt8)} {Q : Bool → Prop} (hM0 : Models w0 K0) (h_a0_s : qaU.V K0 a0_s a0_s_v) (h_a1_f_0_B : Bx qae w0 K0 a1_f_0_b a1_f_0_pre a1_f_0_post a1_f_0) (h_a1_f_1_B : Bx qaD w0 K0 a1_f_1_b a1_f_1_pre a1_f_1_post a1_f_1) (hsp2_3 : ¬ (a1_f_0_b = a1_f_1_b)) (h : qfg a0_s a1_f_0 a1_f_1 Q) : Calls Try.prog 132 #[a0_s_v, (.func (.func 133) #[] #[(.pointer (some ⟨a1_f_0_b, a1_f_0_pre.length, none⟩)), (.pointer (some ⟨a1_f_1_b, a1_f_1_pre.length, none⟩))])] w0 (fun e w' => ∃ (K' : Ghost) (r0 : Value) (o0 : Bool), e = .returned r0 ∧ Q o0 ∧ Ext NX w0 K0 w' K' ∧ Models w' K' ∧ Kd.bool.V K' o0 r0) := by
 unfold qfg at h
 have hE0 : Ext NX w0 K0 w0 K0 := Ext.refl _ _ _
 refine qbz fun R hR => ?_
 refine qa4 (args := [a0_s_v, (.func (.func 133) #[] #[(.pointer (some ⟨a1_f_0_b, a1_f_0_pre.length, none⟩)), (.pointer (some ⟨a1_f_1_b, a1_f_1_pre.length, none⟩))])]) Try.func132 rfl (Nat.le_of_ble_eq_true rfl) ?_
 refine qap ?_
 refine qaf ?_
 refine qaa (.bool false) (R_as rfl) rfl rfl ?_
 refine qay ?_
 refine qap ?_
 refine qaf ?_
 refine qaa a0_s_v (R_mv rfl) rfl rfl ?_
 refine qaa (.func (.func 133) #[] #[(.pointer (some ⟨a1_f_0_b, a1_f_0_pre.length, none⟩)), (.pointer (some ⟨a1_f_1_b, a1_f_1_pre.length, none⟩))]) (R_mv rfl) rfl rfl ?_
 refine qaY rfl rfl (qbR (qdL Try.call144 rfl) ((qkz hM0 h_a0_s h_a1_f_0_B h_a1_f_1_B hsp2_3).mono ?_))
 rintro _ w4 ⟨K4, v4_0, rfl, hS4, hM4, hV4_0⟩
 refine ⟨v4_0, rfl, ?_⟩
 have hE4 := hE0.andN hS4
 obtain rfl := qbY hV4_0
 have h := h hV4_0.wf
 refine qaa (.bool (decide (0 ≤ (qbk a1_f_0 a1_f_1 a0_s 0)))) (qvB rfl rfl) rfl rfl ?_
 refine qaa (.bool (decide (0 ≤ (qbk a1_f_0 a1_f_1 a0_s 0)))) (R_as rfl) rfl rfl ?_
 refine qay ?_
 refine qcE ?_
 exact qbJ hR (v := (.bool (decide (0 ≤ (qbk a1_f_0 a1_f_1 a0_s 0))))) (qeq rfl rfl) ⟨K4, (.bool (decide (0 ≤ (qbk a1_f_0 a1_f_1 a0_s 0)))), (decide (0 ≤ (qbk a1_f_0 a1_f_1 a0_s 0))), rfl, h, hE4, hM4, qgU⟩
theorem qnR {w0 : World} {K0 : Ghost} {a0_s_v : Value} {a0_s : (List ((List UInt8) × (List UInt8)))} {a1_f_0_b : Nat} {a1_f_0_pre a1_f_0_post : List Value} {a1_f_0 : (List UInt8)} {a1_f_1_b : Nat} {a1_f_1_pre a1_f_1_post : List Value} {a1_f_1 : (List UInt8)} (hM0 : Models w0 K0) (h_a0_s : qaU.V K0 a0_s a0_s_v) (h_a1_f_0_B : Bx qae w0 K0 a1_f_0_b a1_f_0_pre a1_f_0_post a1_f_0) (h_a1_f_1_B : Bx qaD w0 K0 a1_f_1_b a1_f_1_pre a1_f_1_post a1_f_1) (hsp2_3 : ¬ (a1_f_0_b = a1_f_1_b)) : Calls Try.prog 132 #[a0_s_v, (.func (.func 133) #[] #[(.pointer (some ⟨a1_f_0_b, a1_f_0_pre.length, none⟩)), (.pointer (some ⟨a1_f_1_b, a1_f_1_pre.length, none⟩))])] w0 (fun e w' => ∃ (K' : Ghost) (r0 : Value), e = .returned r0 ∧ Ext NX w0 K0 w' K' ∧ Models w' K' ∧ Kd.bool.V K' (decide (0 ≤ qbk a1_f_0 a1_f_1 a0_s 0)) r0) := by
 refine (qjt hM0 h_a0_s h_a1_f_0_B h_a1_f_1_B hsp2_3 (qmW h_a0_s.wf)).mono ?_
 rintro _ w' ⟨K', r0, o0, rfl, rfl, hF⟩
 exact ⟨K', r0, rfl, hF⟩
abbrev qav : Kd (Value × Value) := (Kd.pr Kd.rsl Kd.rmp)
theorem qhD : TyOk Try.prog 37 Kd.rmp 8 := ⟨⟨Try.t37, _, Try.type37, rfl, rfl, rfl, rfl, rfl⟩, ⟨_, Try.underlying37, rfl⟩⟩
theorem qkn : TyOk Try.prog 36 Kd.rsl 24 := ⟨⟨Try.t36, _, Try.type36, rfl, rfl, rfl, rfl, rfl⟩, ⟨_, Try.underlying36, rfl⟩⟩
def qmi (a0_n_0 : (List ((List UInt8) × (List UInt8)))) (a0_n_1 : (List ((List UInt8) × Int))) (a1_s : (List UInt8)) (a2_b : (List UInt8)) (Q : Bool → Prop) : Prop :=
 ((¬ (((mfind a1_s a0_n_1).isSome) = true)) → Q false) ∧ ((((mfind a1_s a0_n_1).isSome) = true) → (0 ≤ ((mfind a1_s a0_n_1).getD 0) ∧ ((mfind a1_s a0_n_1).getD 0) ≤ (a0_n_0.length : Int)) ∧ (Q (decide (0 ≤ qbk a1_s a2_b (a0_n_0.drop ((mfind a1_s a0_n_1).getD 0).toNat) 0))))
theorem qwr {a0_n_0 : (List ((List UInt8) × (List UInt8)))} {a0_n_1 : (List ((List UInt8) × Int))} {a1_s : (List UInt8)} {a2_b : (List UInt8)} (w_0 : qae.wf a1_s) (w_1 : qaD.wf a2_b) (hp : qb6 a0_n_0 a0_n_1) : qmi a0_n_0 a0_n_1 a1_s a2_b (fun o0 => o0 = decide ((a1_s, a2_b) ∈ a0_n_0)) := by
 unfold qmi
 rw [hp a1_s]
 refine ⟨fun h => ?_, fun h => ?_⟩
 ·have hn : qa6 a1_s a0_n_0 0 = none := by
   cases hf : qa6 a1_s a0_n_0 0 with
   | none => rfl
   | some a => rw [hf] at h; exact absurd rfl h
  have := qga hn a2_b
  simp [this]
 ·cases hf : qa6 a1_s a0_n_0 0 with
  | none => rw [hf] at h; cases h
  | some a =>
    obtain ⟨j, rfl, hl, hm⟩ := qgb hf
    simp only [Option.getD_some, Int.zero_add, Int.toNat_natCast]
    refine ⟨⟨by omega, by omega⟩, ?_⟩
    rw [decide_eq_decide, qj9 _ _ (Int.le_refl _)]
    exact (hm a2_b).symm
theorem qrB {w0 : World} {K0 : Ghost} {a0_n_b : Nat} {a0_n_pre a0_n_post : List Value} {a0_n_0v : Value} {a0_n_0 : (List ((List UInt8) × (List UInt8)))} {a0_n_1v : Value} {a0_n_1 : (List ((List UInt8) × Int))} {a1_s_v : Value} {a1_s : (List UInt8)} {a2_b_v : Value} {a2_b : (List UInt8)} {Q : Bool → Prop} (hM0 : Models w0 K0) (h_a0_n_B : Bx qav w0 K0 a0_n_b a0_n_pre a0_n_post (a0_n_0v, a0_n_1v)) (h_a0_n_0 : Own qaq 146 w0 K0 a0_n_0 a0_n_0v) (h_a0_n_1 : Mp qae (Kd.int .i64) w0 K0 a0_n_1 a0_n_1v) (h_a1_s : qae.V K0 a1_s a1_s_v) (h_a2_b : qaD.V K0 a2_b a2_b_v) (h : qmi a0_n_0 a0_n_1 a1_s a2_b Q) : Calls Try.prog 120 #[(.pointer (some ⟨a0_n_b, a0_n_pre.length, none⟩)), a1_s_v, a2_b_v] w0 (fun e w' => ∃ (K' : Ghost) (r0 : Value) (o0 : Bool), e = .returned r0 ∧ Q o0 ∧ Ext NX w0 K0 w' K' ∧ Models w' K' ∧ Kd.bool.V K' o0 r0) := by
 unfold qmi at h
 have hE0 : Ext NX w0 K0 w0 K0 := Ext.refl _ _ _
 refine qbz fun R hR => ?_
 refine qa4 (args := [(.pointer (some ⟨a0_n_b, a0_n_pre.length, none⟩)), a1_s_v, a2_b_v]) Try.func120 rfl (Nat.le_of_ble_eq_true rfl) ?_
 refine qap ?_
 refine qaf ?_
 refine qaY rfl rfl (St_B (qkK hM0 rfl h_a1_s) ?_)
 rintro b6 w6 (hB6 : Bx qae _ _ _ _ _ a1_s) hS6 hM6 hge6
 have hE6 := hE0.andN hS6
 refine qaY rfl rfl (St_B (qkK hM6 rfl (h_a2_b.mono hS6.le)) ?_)
 rintro b8 w8 (hB8 : Bx qaD _ _ _ _ _ a2_b) hS8 hM8 hge8
 have hE8 := hE6.andN hS8
 have hR10 := (h_a0_n_B.extN hS6)
 refine qaa (.bool false) (R_as rfl) rfl rfl ?_
 refine qay ?_
 refine qap ?_
 refine qft (K := K0) NX [.o 0 2, .o 1 2, .o 2 2, .o 3 2, .o 4 2, .o 5 2, .o 6 2, .o 7 2, .o 8 2, .o 9 2, .o 10 2] (by kernel_rfl) (by kernel_rfl) hM8 ?_
 rintro w11 hS11 hM11
 have hE11 := hE8.andN hS11
 refine qax (.pointer (some ⟨a0_n_b, a0_n_pre.length, none⟩)) rfl l0 hM11 (fun _ => R_mv rfl) rfl (gN rfl) rfl ?_
 refine qax (.pointer (some ⟨a0_n_b, a0_n_pre.length, none⟩)) rfl l0 hM11 (fun _ => qbC rfl) rfl (gN rfl) rfl ?_
 refine qax (.pointer (some ⟨a0_n_b, a0_n_pre.length + 1, none⟩)) rfl l0 hM11 (fun _ => R_fa rfl Try.underlying39 rfl rfl qhD rfl) rfl (gN rfl) rfl ?_
 have hR13 := (((h_a0_n_B.extN hS6).extN hS8).extN hS11)
 refine qeP hM11 (qcP (Foc.snd Kd.rsl Kd.rmp) rfl qhD hR13 (by first | rfl | simp | omega) (fun h => h)) rfl (gN rfl) rfl ?_
 rintro v12 (hV12 : Kd.rmp.V _ a0_n_1v _)
 obtain rfl := qeG hV12
 have hR15 := ((hB6.extN hS8).extN hS11)
 refine qeP hM11 (qcP (Foc.id _) rfl ty24 hR15 (by first | rfl | simp | omega) (fun h => h)) rfl (gN rfl) rfl ?_
 rintro v14 (hV14 : qae.V _ a1_s _)
 have hR18 := (((h_a0_n_1.extN hS6).extN hS8).extN hS11)
 refine qsJ hM11 (qtW (kv := (Kd.int .i64)) rfl rfl hR18 hV14 Try.underlying37 (qeZ Try.underlying24 Try.underlying5 ty5b) ty3 (fun _ _ h => h)) rfl (gN rfl) rfl ?_
 rintro v17 (hV17 : (Kd.int .i64).V _ ((mfind a1_s a0_n_1).getD 0) _)
 obtain rfl := qbY hV17
 refine qax (.tuple #[(.int .i64 ((mfind a1_s a0_n_1).getD 0)), (.bool ((mfind a1_s a0_n_1).isSome))]) rfl l0 hM11 (fun _ => R_mv rfl) rfl (gN rfl) rfl ?_
 refine qax (.int .i64 ((mfind a1_s a0_n_1).getD 0)) rfl l0 hM11 (fun _ => qob rfl rfl) rfl (gN rfl) rfl ?_
 refine qax (.bool ((mfind a1_s a0_n_1).isSome)) rfl l0 hM11 (fun _ => qob rfl rfl) rfl (gN rfl) rfl ?_
 refine qax (.int .i64 ((mfind a1_s a0_n_1).getD 0)) rfl l0 hM11 (fun _ => R_as rfl) rfl (gN rfl) rfl ?_
 refine qax (.bool ((mfind a1_s a0_n_1).isSome)) rfl l0 hM11 (fun _ => R_as rfl) rfl (gN rfl) rfl ?_
 refine qhO ?_
 refine qap ?_
 refine qap ?_
 refine qaf ?_
 refine qaa (.bool ((mfind a1_s a0_n_1).isSome)) (R_mv rfl) rfl rfl ?_
 refine qaa (.bool (!((mfind a1_s a0_n_1).isSome))) (qm1 rfl) rfl rfl ?_
 refine qay ?_
 refine qa9 (!((mfind a1_s a0_n_1).isSome)) rfl (fun hc19 => ?_) (fun hc19 => ?_)
 ·have hd19 : ¬ (((mfind a1_s a0_n_1).isSome) = true) := qww hc19
  have h := h.1 hd19
  refine qap ?_
  refine qaf ?_
  refine qaa (.bool false) (R_as rfl) rfl rfl ?_
  refine qay ?_
  refine qcE ?_
  exact qbJ hR (v := (.bool false)) (qeq rfl rfl) ⟨K0, (.bool false), false, rfl, h, hE11, hM11, qgU⟩
 ·have hd19 : ((mfind a1_s a0_n_1).isSome) = true := qwv hc19
  have h := h.2 hd19
  refine qbS ?_
  refine qap ?_
  refine qaf ?_
  refine qaa (.pointer (some ⟨a0_n_b, a0_n_pre.length, none⟩)) (R_mv rfl) rfl rfl ?_
  refine qaa (.pointer (some ⟨a0_n_b, a0_n_pre.length, none⟩)) (qbC rfl) rfl rfl ?_
  refine qaa (.pointer (some ⟨a0_n_b, a0_n_pre.length + 0, none⟩)) (R_fa rfl Try.underlying39 rfl rfl qkn rfl) rfl rfl ?_
  refine WL_L hM11 (qcP (Foc.fst Kd.rsl Kd.rmp) rfl qkn hR13 (by first | rfl | simp | omega) (fun h => h)) rfl rfl ?_
  rintro v20 (hV20 : Kd.rsl.V _ a0_n_0v _)
  obtain rfl := qeG hV20
  refine qaa (.int .i64 ((mfind a1_s a0_n_1).getD 0)) (R_mv rfl) rfl rfl ?_
  obtain ⟨hp22, h⟩ := h
  refine WL_V (qv9 rfl (h_a0_n_0.V.mono (hS6.le.trans (hS8.le.trans hS11.le))) Try.underlying36 qnx rfl hp22.1 hp22.2) rfl rfl ?_
  rintro v21 (hV21 : qaU.V _ (a0_n_0.drop ((mfind a1_s a0_n_1).getD 0).toNat) _)
  refine qaa (.func (.func 133) #[] #[(.pointer (some ⟨b6, 0, none⟩)), (.pointer (some ⟨b8, 0, none⟩))]) (qvA rfl) rfl rfl ?_
  have hR25 := (hB8.extN hS11)
  refine qaY rfl rfl (qbR (qdL Try.call132 rfl) ((qnR hM11 hV21 hR15 hR25 (fun he => (qdR hge8 hB6.lt) he.symm)).mono ?_))
  rintro _ w24 ⟨K24, v24_0, rfl, hS24, hM24, hV24_0⟩
  refine ⟨v24_0, rfl, ?_⟩
  have hE24 := hE11.andN hS24
  obtain rfl := qco hV24_0
  refine qaa (.bool (decide (0 ≤ qbk a1_s a2_b (a0_n_0.drop ((mfind a1_s a0_n_1).getD 0).toNat) 0))) (R_as rfl) rfl rfl ?_
  refine qay ?_
  refine qcE ?_
  exact qbJ hR (v := (.bool (decide (0 ≤ qbk a1_s a2_b (a0_n_0.drop ((mfind a1_s a0_n_1).getD 0).toNat) 0)))) (qeq rfl rfl) ⟨K24, (.bool (decide (0 ≤ qbk a1_s a2_b (a0_n_0.drop ((mfind a1_s a0_n_1).getD 0).toNat) 0))), (decide (0 ≤ qbk a1_s a2_b (a0_n_0.drop ((mfind a1_s a0_n_1).getD 0).toNat) 0)), rfl, h, hE24, hM24, qgU⟩
theorem qxA {w0 : World} {K0 : Ghost} {a0_n_b : Nat} {a0_n_pre a0_n_post : List Value} {a0_n_0v : Value} {a0_n_0 : (List ((List UInt8) × (List UInt8)))} {a0_n_1v : Value} {a0_n_1 : (List ((List UInt8) × Int))} {a1_s_v : Value} {a1_s : (List UInt8)} {a2_b_v : Value} {a2_b : (List UInt8)} (hM0 : Models w0 K0) (h_a0_n_B : Bx qav w0 K0 a0_n_b a0_n_pre a0_n_post (a0_n_0v, a0_n_1v)) (h_a0_n_0 : Own qaq 146 w0 K0 a0_n_0 a0_n_0v) (h_a0_n_1 : Mp qae (Kd.int .i64) w0 K0 a0_n_1 a0_n_1v) (h_a1_s : qae.V K0 a1_s a1_s_v) (h_a2_b : qaD.V K0 a2_b a2_b_v) (hp : qb6 a0_n_0 a0_n_1) : Calls Try.prog 120 #[(.pointer (some ⟨a0_n_b, a0_n_pre.length, none⟩)), a1_s_v, a2_b_v] w0 (fun e w' => ∃ (K' : Ghost) (r0 : Value), e = .returned r0 ∧ Ext NX w0 K0 w' K' ∧ Models w' K' ∧ Kd.bool.V K' (decide ((a1_s, a2_b) ∈ a0_n_0)) r0) := by
 refine (qrB hM0 h_a0_n_B h_a0_n_0 h_a0_n_1 h_a1_s h_a2_b (qwr h_a1_s.wf h_a2_b.wf hp)).mono ?_
 rintro _ w' ⟨K', r0, o0, rfl, rfl, hF⟩
 exact ⟨K', r0, rfl, hF⟩
theorem qxz {fs : Array Field} (h : Try.prog.underlying 146 = some (.struct fs)) : ∀ f ∈ fs.toList, ∃ i, Try.prog.info? f.type = some i := by
 have h2 := (Try.underlying146).symm.trans h
 cases h2
 intro f hf
 simp only [List.mem_cons, List.not_mem_nil, or_false] at hf
 rcases hf with rfl | rfl
 ·exact ⟨_, Try.type24⟩
 ·exact ⟨_, Try.type32⟩
def qlX (a0_n_0 : (List ((List UInt8) × (List UInt8)))) (a0_n_1 : (List ((List UInt8) × Int))) (a1_s : (List UInt8)) (a2_b : (List UInt8)) (Q : (List ((List UInt8) × (List UInt8))) → (List ((List UInt8) × Int)) → Prop) : Prop :=
 (qb6 a0_n_0 a0_n_1) ∧ ((((a1_s, a2_b) ∈ a0_n_0) → Q a0_n_0 a0_n_1) ∧ ((¬ ((a1_s, a2_b) ∈ a0_n_0)) → ∀ (r21 : Bool), (r21 = true → a0_n_1 = []) → (∃ (J23 : (List ((List UInt8) × Int)) → Prop), (((r21 = true) → J23 ([] : List ((List UInt8) × Int))) ∧ ((r21 = false) → J23 a0_n_1)) ∧ ∀ (y23 : (List ((List UInt8) × Int))), J23 y23 → (∃ (J42 : (List ((List UInt8) × Int)) → Prop), (((¬ (((mfind a1_s y23).isSome) = true)) → J42 (mset a1_s (a0_n_0.length : Int) y23)) ∧ ((((mfind a1_s y23).isSome) = true) → J42 y23)) ∧ ∀ (y42 : (List ((List UInt8) × Int))), J42 y42 → ((a2_b.length ≤ 140737488355328) ∧ ((qaD.wf a2_b) → (((a0_n_0.length + [(a1_s, a2_b)].length) * 56 ≤ 140737488355328) ∧ (Q (a0_n_0 ++ [(a1_s, a2_b)]) y42))))))))
theorem qwg {a0_n_0 : (List ((List UInt8) × (List UInt8)))} {a0_n_1 : (List ((List UInt8) × Int))} {a1_s : (List UInt8)} {a2_b : (List UInt8)} (w_0 : qae.wf a1_s) (w_1 : qaD.wf a2_b) (hp : qb6 a0_n_0 a0_n_1 ∧ a2_b.length ≤ 140737488355328 ∧ (a0_n_0.length + 1) * 64 ≤ 140737488355328) : qlX a0_n_0 a0_n_1 a1_s a2_b (fun o0 o1 => o0 = (addL a0_n_0 a1_s a2_b) ∧ o1 = (addM a0_n_0 a0_n_1 a1_s a2_b)) := by
 obtain ⟨h1, h2, h3⟩ := hp
 have hlen : (a0_n_0.length + [(a1_s, a2_b)].length) * 56 ≤ 140737488355328 := by
  simp only [List.length_cons, List.length_nil]
  omega
 unfold qlX
 refine ⟨h1, fun h => ?_, fun h r hr => ?_⟩
 ·have hm := h
  exact ⟨by simp [addL, hm], by simp [addM, hm]⟩
 ·have hm := h
  refine ⟨fun m => m = a0_n_1, ⟨fun h => (hr h).symm, fun _ => rfl⟩, ?_⟩
  rintro m rfl
  refine ⟨fun m' => m' = if (mfind a1_s m).isSome then m else mset a1_s (a0_n_0.length : Int) m, ⟨fun h => by rw [if_neg h], fun h => by rw [if_pos h]⟩, ?_⟩
  rintro m' rfl
  exact ⟨h2, fun _ => ⟨hlen, by simp [addL, hm], by simp [addM, hm]⟩⟩
theorem qq9 {w0 : World} {K0 : Ghost} {a0_n_b : Nat} {a0_n_pre a0_n_post : List Value} {a0_n_0v : Value} {a0_n_0 : (List ((List UInt8) × (List UInt8)))} {a0_n_1v : Value} {a0_n_1 : (List ((List UInt8) × Int))} {a1_s_v : Value} {a1_s : (List UInt8)} {a2_b_v : Value} {a2_b : (List UInt8)} {Q : (List ((List UInt8) × (List UInt8))) → (List ((List UInt8) × Int)) → Prop} (hM0 : Models w0 K0) (h_a0_n_B : Bx qav w0 K0 a0_n_b a0_n_pre a0_n_post (a0_n_0v, a0_n_1v)) (h_a0_n_0 : Own qaq 146 w0 K0 a0_n_0 a0_n_0v) (h_a0_n_1 : Mp qae (Kd.int .i64) w0 K0 a0_n_1 a0_n_1v) (h_a1_s : qae.V K0 a1_s a1_s_v) (h_a2_b : qaD.V K0 a2_b a2_b_v) (h : qlX a0_n_0 a0_n_1 a1_s a2_b Q) : Calls Try.prog 86 #[(.pointer (some ⟨a0_n_b, a0_n_pre.length, none⟩)), a1_s_v, a2_b_v] w0 (fun e w' => ∃ (K' : Ghost) (u0_0 : Value) (u0_1 : Value) (o0 : (List ((List UInt8) × (List UInt8)))) (o1 : (List ((List UInt8) × Int))), e = .returned (.tuple #[]) ∧ Q o0 o1 ∧ Ext (fun c => c = a0_n_b ∨ ob a0_n_0v = some c ∨ mb a0_n_1v = some c) w0 K0 w' K' ∧ Models w' K' ∧ Bx qav w' K' a0_n_b a0_n_pre a0_n_post (u0_0, u0_1) ∧ Own qaq 146 w' K' o0 u0_0 ∧ (∀ g, ob u0_0 = some g → ob a0_n_0v = some g ∨ w0.heap.size ≤ g) ∧ Mp qae (Kd.int .i64) w' K' o1 u0_1 ∧ (∀ g, mb u0_1 = some g → mb a0_n_1v = some g ∨ w0.heap.size ≤ g)) := by
 unfold qlX at h
 have hE0 : Ext (fun c => c = a0_n_b ∨ ob a0_n_0v = some c ∨ mb a0_n_1v = some c) w0 K0 w0 K0 := Ext.refl _ _ _
 refine qbz fun R hR => ?_
 refine qa4 (args := [(.pointer (some ⟨a0_n_b, a0_n_pre.length, none⟩)), a1_s_v, a2_b_v]) Try.func86 rfl (Nat.le_of_ble_eq_true rfl) ?_
 refine qap ?_
 refine qaf ?_
 refine qaY rfl rfl (St_B (qkK hM0 rfl h_a1_s) ?_)
 rintro b6 w6 (hB6 : Bx qae _ _ _ _ _ a1_s) hS6 hM6 hge6
 have hE6 := hE0.andN hS6
 refine qay ?_
 refine qap ?_
 refine qap ?_
 refine qaf ?_
 refine qaa (.pointer (some ⟨a0_n_b, a0_n_pre.length, none⟩)) (R_mv rfl) rfl rfl ?_
 refine WL_L hM6 (qcP (Foc.id _) rfl ty24 hB6 (by first | rfl | simp | omega) (fun h => h)) rfl rfl ?_
 rintro v8 (hV8 : qae.V _ a1_s _)
 refine qaa a2_b_v (R_mv rfl) rfl rfl ?_
 have hR10 := (h_a0_n_0.extN hS6)
 have hR11 := (h_a0_n_1.extN hS6)
 have hR12 := (h_a0_n_B.extN hS6)
 obtain ⟨hp14, h⟩ := h
 refine qaY rfl rfl (qbR (qdL Try.call120 rfl) ((qxA hM6 hR12 hR10 hR11 hV8 (h_a2_b.mono hS6.le) hp14).mono ?_))
 rintro _ w13 ⟨K13, v13_0, rfl, hS13, hM13, hV13_0⟩
 refine ⟨v13_0, rfl, ?_⟩
 have hE13 := hE6.andN hS13
 obtain rfl := qco hV13_0
 refine qay ?_
 refine qa9 (decide ((a1_s, a2_b) ∈ a0_n_0)) rfl (fun hc15 => ?_) (fun hc15 => ?_)
 ·have hd15 : (a1_s, a2_b) ∈ a0_n_0 := qjL hc15
  have h := h.1 hd15
  refine qcE ?_
  have hR16 := (hR10.extN hS13)
  have hR17 := (hR11.extN hS13)
  have hR18 := (hR12.extN hS13)
  exact qbJ hR (v := (.tuple #[])) (qpP rfl) ⟨K13, a0_n_0v, a0_n_1v, a0_n_0, a0_n_1, rfl, h, hE13, hM13, hR18, hR16, (fun g hg => (.inl hg)), hR17, (fun g hg => (.inl hg))⟩
 ·have hd15 : ¬ ((a1_s, a2_b) ∈ a0_n_0) := qjK hc15
  have h := h.2 hd15
  refine qbS ?_
  refine qap ?_
  refine qap ?_
  refine qaf ?_
  refine qaa (.pointer (some ⟨a0_n_b, a0_n_pre.length, none⟩)) (R_mv rfl) rfl rfl ?_
  refine qaa (.pointer (some ⟨a0_n_b, a0_n_pre.length, none⟩)) (qbC rfl) rfl rfl ?_
  refine qaa (.pointer (some ⟨a0_n_b, a0_n_pre.length + 1, none⟩)) (R_fa rfl Try.underlying39 rfl rfl qhD rfl) rfl rfl ?_
  have hR20 := (hR12.extN hS13)
  refine WL_L hM13 (qcP (Foc.snd Kd.rsl Kd.rmp) rfl qhD hR20 (by first | rfl | simp | omega) (fun h => h)) rfl rfl ?_
  rintro v19 (hV19 : Kd.rmp.V _ a0_n_1v _)
  obtain rfl := qeG hV19
  have hR22 := (hR11.extN hS13)
  refine qxo (qsI rfl rfl hR22 Try.underlying37) rfl rfl ?_
  rintro r21 ⟨hn21, hnn21⟩
  have h := h r21 (fun hx => (hn21 hx).2)
  refine qay ?_
  obtain ⟨J23, h, hJ23⟩ := h
  refine qon [17, 18, 19, 20] (fun l w => ∃ y23 K z1_1, J23 y23 ∧ l = [] ∧ Ext (fun c => mb a0_n_1v = some c ∨ c = a0_n_b) w13 K13 w K ∧ Models w K ∧ Mp qae (Kd.int .i64) w K y23 (.map (some z1_1)) ∧ (∀ g, mb (.map (some z1_1)) = some g → mb a0_n_1v = some g ∨ w13.heap.size ≤ g) ∧ Bx qav w K a0_n_b a0_n_pre a0_n_post (a0_n_0v, (.map (some z1_1)))) ?_ ?_
  ·skip
   refine qa9 r21 rfl (fun hc24 => ?_) (fun hc24 => ?_)
   ·have hd24 : r21 = true := hc24
    have h := h.1 hd24
    refine qaf ?_
    refine qaa (.pointer (some ⟨a0_n_b, a0_n_pre.length, none⟩)) (R_mv rfl) rfl rfl ?_
    refine qaY rfl rfl (qxl (qv5 (kk := qae) (kv := (Kd.int .i64)) hM13) ?_)
    rintro b25 w25 hO25 hS25 hM25 hge25
    have hf25 : ∀ g, mb (.map (some b25)) = some g → w0.heap.size ≤ g := fun g hg => by cases hg; exact Nat.le_trans hE13.size hge25
    have hE25 := hE13.andN hS25
    have hs27 : ∀ g, mb (.map (some b25)) = some g → ¬ (mb a0_n_1v = some g) := fun g hg hx => by cases hg; exact absurd (hR22.lt _ hx) (Nat.not_lt.2 hge25)
    refine qaa (.pointer (some ⟨a0_n_b, a0_n_pre.length, none⟩)) (qbC rfl) rfl rfl ?_
    refine qaa (.pointer (some ⟨a0_n_b, a0_n_pre.length + 1, none⟩)) (R_fa rfl Try.underlying39 rfl rfl qhD rfl) rfl rfl ?_
    have hR29 := (hR20.extN hS25)
    refine qaY rfl rfl (qkN (qkM (Foc.snd Kd.rsl Kd.rmp) hM25 rfl rfl (rw_V hO25.one) qhD hR29 (by first | rfl | simp | omega)) ?_)
    rintro w28 (hB28 : Bx qav _ _ a0_n_b a0_n_pre a0_n_post (a0_n_0v, (.map (some b25)))) hS28 hM28
    have hE28 := hE25.comp hS28 (fun c hx hlt => (by subst hx; exact (fun _ => (.inl rfl)) hlt))
    refine qay ?_
    have hR30 := (hO25.ext hS28 (fun g hg hx => (fun g hg hx => hO25.box hR29 (hg.trans (congrArg some hx))) g hg hx))
    exact qkC.mk [] ⟨([] : List ((List UInt8) × Int)), K13, b25, h, rfl, (((Ext.refl _ _ _).andN hS25).comp hS28 (fun c hx hlt => (.inr (hx)))), hM28, hR30, (fun g hg => .inr ((fun g hg => by cases hg; exact hge25) g hg)), hB28⟩ (by repeat (first | exact Off.lay0 rfl | exact Off.refl _ _ | refine Off.updO ?_ rfl _ | refine Off.updN ?_ _ | refine Off.lay ?_ rfl)) (by repeat (first | exact trivial | refine ⟨rfl, ?_⟩))
   ·have hd24 : r21 = false := hc24
    have h := h.2 hd24
    obtain ⟨b24, hv24⟩ := hnn21 hd24
    subst hv24
    refine qbS ?_
    exact qkC.mk [] ⟨a0_n_1, K13, b24, h, rfl, (Ext.refl _ _ _), hM13, hR22, (fun g hg => (.inl hg)), hR20⟩ (by repeat (first | exact Off.lay0 rfl | exact Off.refl _ _ | refine Off.updO ?_ rfl _ | refine Off.updN ?_ _ | refine Off.lay ?_ rfl)) (by repeat (first | exact trivial | refine ⟨rfl, ?_⟩))
  rintro l σ23 w31 ⟨y23, K31, z1_1_23, hI, rfl, hX31, hM31, hL23_z1_1, ho23_z1_1, hL23_1⟩
  have h := hJ23 y23 hI
  have hE31 := hE13.comp hX31 (fun c hx hlt => Or.elim hx (fun hx => (fun g hg _ => (.inr (.inr (hg)))) c hx hlt) (fun hx => (by subst hx; exact (fun _ => (.inl rfl)) hlt)))
  have hf32 : ∀ g, mb (.map (some z1_1_23)) = some g → g < w0.heap.size → g = a0_n_b ∨ ob a0_n_0v = some g ∨ mb a0_n_1v = some g := fun g hg hlt => (ho23_z1_1 g hg).elim (fun hx => (fun g hg _ => (.inr (.inr (hg)))) g hx hlt) (fun hx => absurd hlt (Nat.not_lt.2 (Nat.le_trans hE13.size hx)))
  refine qap ?_
  refine qap ?_
  refine qft (K := K31) NX [.o 0 2, .o 1 2, .o 2 2, .o 3 2, .o 4 2, .o 5 2, .o 6 2, .o 7 2, .o 8 2, .o 9 2, .o 10 2] (by kernel_rfl) (by kernel_rfl) hM31 ?_
  rintro w33 hS33 hM33
  have hE33 := hE31.andN hS33
  refine qax (.pointer (some ⟨a0_n_b, a0_n_pre.length, none⟩)) rfl l0 hM33 (fun _ => R_mv rfl) rfl (gN rfl) rfl ?_
  refine qax (.pointer (some ⟨a0_n_b, a0_n_pre.length, none⟩)) rfl l0 hM33 (fun _ => qbC rfl) rfl (gN rfl) rfl ?_
  refine qax (.pointer (some ⟨a0_n_b, a0_n_pre.length + 1, none⟩)) rfl l0 hM33 (fun _ => R_fa rfl Try.underlying39 rfl rfl qhD rfl) rfl (gN rfl) rfl ?_
  have hR35 := (hL23_1.extN hS33)
  refine qeP hM33 (qcP (Foc.snd Kd.rsl Kd.rmp) rfl qhD hR35 (by first | rfl | simp | omega) (fun h => h)) rfl (gN rfl) rfl ?_
  rintro v34 (hV34 : Kd.rmp.V _ (.map (some z1_1_23)) _)
  obtain rfl := qeG hV34
  have hR37 := (hB6.extN hS13)
  have hR38 := ((hR37.ext hX31 (fun hx => Or.elim hx (fun hx => (hR22.box hR37) hx) (fun hx => (qdR hge6 h_a0_n_B.lt) hx))).extN hS33)
  refine qeP hM33 (qcP (Foc.id _) rfl ty24 hR38 (by first | rfl | simp | omega) (fun h => h)) rfl (gN rfl) rfl ?_
  rintro v36 (hV36 : qae.V _ a1_s _)
  have hR41 := (hL23_z1_1.extN hS33)
  refine qsJ hM33 (qtW (kv := (Kd.int .i64)) rfl rfl hR41 hV36 Try.underlying37 (qeZ Try.underlying24 Try.underlying5 ty5b) ty3 (fun _ _ h => h)) rfl (gN rfl) rfl ?_
  rintro v40 (hV40 : (Kd.int .i64).V _ ((mfind a1_s y23).getD 0) _)
  obtain rfl := qbY hV40
  refine qax (.tuple #[(.int .i64 ((mfind a1_s y23).getD 0)), (.bool ((mfind a1_s y23).isSome))]) rfl l0 hM33 (fun _ => R_mv rfl) rfl (gN rfl) rfl ?_
  refine qax (.int .i64 ((mfind a1_s y23).getD 0)) rfl l0 hM33 (fun _ => qob rfl rfl) rfl (gN rfl) rfl ?_
  refine qax (.bool ((mfind a1_s y23).isSome)) rfl l0 hM33 (fun _ => qob rfl rfl) rfl (gN rfl) rfl ?_
  refine qax (.int .i64 ((mfind a1_s y23).getD 0)) rfl l0 hM33 (fun _ => R_as rfl) rfl (gN rfl) rfl ?_
  refine qax (.bool ((mfind a1_s y23).isSome)) rfl l0 hM33 (fun _ => R_as rfl) rfl (gN rfl) rfl ?_
  refine qhO ?_
  refine qap ?_
  refine qaf ?_
  refine qaa (.bool ((mfind a1_s y23).isSome)) (R_mv rfl) rfl rfl ?_
  refine qaa (.bool (!((mfind a1_s y23).isSome))) (qm1 rfl) rfl rfl ?_
  refine qay ?_
  obtain ⟨J42, h, hJ42⟩ := h
  refine qon [32, 33, 34, 35, 36, 37, 38, 39, 40, 41] (fun l w => ∃ y42 K z1_1, J42 y42 ∧ l = [] ∧ Ext (fun c => mb (.map (some z1_1_23)) = some c ∨ c = a0_n_b) w33 K31 w K ∧ Models w K ∧ Mp qae (Kd.int .i64) w K y42 (.map (some z1_1)) ∧ (∀ g, mb (.map (some z1_1)) = some g → mb (.map (some z1_1_23)) = some g ∨ w33.heap.size ≤ g) ∧ Bx qav w K a0_n_b a0_n_pre a0_n_post (a0_n_0v, (.map (some z1_1)))) ?_ ?_
  ·skip
   refine qa9 (!((mfind a1_s y23).isSome)) rfl (fun hc43 => ?_) (fun hc43 => ?_)
   ·have hd43 : ¬ (((mfind a1_s y23).isSome) = true) := qww hc43
    have h := h.1 hd43
    refine qft (K := K31) (fun c => mb (.map (some z1_1_23)) = some c ∨ w33.heap.size ≤ c) [.o 0 2, .o 1 2, .o 2 2, .o 3 2, .o 4 2, .o 5 2, .o 6 2, .o 7 2, .o 8 2, .o 9 2, .o 10 1] (by kernel_rfl) (by kernel_rfl) hM33 ?_
    rintro w44 hS44 hM44
    have hE44 := hE33.andN hS44
    refine qax (.pointer (some ⟨a0_n_b, a0_n_pre.length, none⟩)) rfl l0 hM44 (fun _ => R_mv rfl) rfl (gN rfl) rfl ?_
    refine qax (.pointer (some ⟨a0_n_b, a0_n_pre.length, none⟩)) rfl l0 hM44 (fun _ => qbC rfl) rfl (gN rfl) rfl ?_
    refine qax (.pointer (some ⟨a0_n_b, a0_n_pre.length + 1, none⟩)) rfl l0 hM44 (fun _ => R_fa rfl Try.underlying39 rfl rfl qhD rfl) rfl (gN rfl) rfl ?_
    have hR46 := (hR35.extN hS44)
    refine qeP hM44 (qcP (Foc.snd Kd.rsl Kd.rmp) rfl qhD hR46 (by first | rfl | simp | omega) (fun h => h)) rfl (gN rfl) rfl ?_
    rintro v45 (hV45 : Kd.rmp.V _ (.map (some z1_1_23)) _)
    obtain rfl := qeG hV45
    have hR48 := (hR38.extN hS44)
    refine qeP hM44 (qcP (Foc.id _) rfl ty24 hR48 (by first | rfl | simp | omega) (fun h => h)) rfl (gN rfl) rfl ?_
    rintro v47 (hV47 : qae.V _ a1_s _)
    refine qax (.pointer (some ⟨a0_n_b, a0_n_pre.length, none⟩)) rfl l0 hM44 (fun _ => R_mv rfl) rfl (gN rfl) rfl ?_
    refine qax (.pointer (some ⟨a0_n_b, a0_n_pre.length, none⟩)) rfl l0 hM44 (fun _ => qbC rfl) rfl (gN rfl) rfl ?_
    refine qax (.pointer (some ⟨a0_n_b, a0_n_pre.length + 0, none⟩)) rfl l0 hM44 (fun _ => R_fa rfl Try.underlying39 rfl rfl qkn rfl) rfl (gN rfl) rfl ?_
    refine qeP hM44 (qcP (Foc.fst Kd.rsl Kd.rmp) rfl qkn hR46 (by first | rfl | simp | omega) (fun h => h)) rfl (gN rfl) rfl ?_
    rintro v50 (hV50 : Kd.rsl.V _ a0_n_0v _)
    obtain rfl := qeG hV50
    refine qax (.int .i64 (a0_n_0.length : Int)) rfl l0 hM44 (fun _ => qgK rfl (hR10.V.mono (hS13.le.trans (hX31.le.trans (hS33.le.trans hS44.le)))) Try.underlying36) rfl (gN rfl) rfl ?_
    have hR52 := (hR41.extN hS44)
    refine qlU rfl (gN rfl) rfl (qxm (qv6 hM44 rfl rfl rfl hR52 hV47 (qhz (qc6 ((hR10).V).wf.1)) Try.underlying37 (qeZ Try.underlying24 Try.underlying5 ty5b)) ?_)
    rintro w51 hO51 hS51 hM51
    have hS51 : Ext (fun c => mb (.map (some z1_1_23)) = some c) w44 K31 w51 K31 := hS51.weak (fun c _ hc => congrArg some hc.symm)
    refine ⟨K31, (hS51.weak (fun c hlt hx => (.inl (hx)))), hM51, ?_⟩
    have hE51 := hE44.comp hS51 (fun c hx hlt => hf32 c hx hlt)
    refine qhO ?_
    have hR53 := (hR46.ext hS51 (fun hx => (hR52.box hR46) hx))
    exact qkC.mk [] ⟨(mset a1_s (a0_n_0.length : Int) y23), K31, z1_1_23, h, rfl, (((Ext.refl _ _ _).andN hS44).comp hS51 (fun c hx hlt => (.inl (hx)))), hM51, hO51, (fun g hg => (.inl hg)), hR53⟩ (by repeat (first | exact Off.lay0 rfl | exact Off.refl _ _ | refine Off.updO ?_ rfl _ | refine Off.updN ?_ _ | refine Off.lay ?_ rfl)) (by repeat (first | exact trivial | refine ⟨rfl, ?_⟩))
   ·have hd43 : ((mfind a1_s y23).isSome) = true := qwv hc43
    have h := h.2 hd43
    refine qbS ?_
    exact qkC.mk [] ⟨y23, K31, z1_1_23, h, rfl, (Ext.refl _ _ _), hM33, hR41, (fun g hg => (.inl hg)), hR35⟩ (by repeat (first | exact Off.lay0 rfl | exact Off.refl _ _ | refine Off.updO ?_ rfl _ | refine Off.updN ?_ _ | refine Off.lay ?_ rfl)) (by repeat (first | exact trivial | refine ⟨rfl, ?_⟩))
  rintro l σ42 w54 ⟨y42, K54, z1_1_42, hI, rfl, hX54, hM54, hL42_z1_1, ho42_z1_1, hL42_1⟩
  have h := hJ42 y42 hI
  have hE54 := hE33.comp hX54 (fun c hx hlt => Or.elim hx (fun hx => hf32 c hx hlt) (fun hx => (by subst hx; exact (fun _ => (.inl rfl)) hlt)))
  have hf55 : ∀ g, mb (.map (some z1_1_42)) = some g → g < w0.heap.size → g = a0_n_b ∨ ob a0_n_0v = some g ∨ mb a0_n_1v = some g := fun g hg hlt => (ho42_z1_1 g hg).elim (fun hx => hf32 g hx hlt) (fun hx => absurd hlt (Nat.not_lt.2 (Nat.le_trans hE33.size hx)))
  have hR56 := (hR10.extN hS13)
  have hR57 := ((hR56.ext hX31 (fun g hg hx => Or.elim hx (fun hx => (fun g hg => hR22.own hR56 g hg) g hg hx) (fun hx => (fun g hg hx => hR56.box hR20 (hg.trans (congrArg some hx))) g hg hx))).extN hS33)
  have hR58 := (hR57.ext hX54 (fun g hg hx => Or.elim hx (fun hx => (fun g hg => hR41.own hR57 g hg) g hg hx) (fun hx => (fun g hg hx => hR57.box hR35 (hg.trans (congrArg some hx))) g hg hx)))
  have hR59 := (hR38.ext hX54 (fun hx => Or.elim hx (fun hx => (hR41.box hR38) hx) (fun hx => (qdR hge6 h_a0_n_B.lt) hx)))
  refine qft (K := K54) (fun c => c = a0_n_b ∨ ob a0_n_0v = some c ∨ w54.heap.size ≤ c) [.o 0 3, .o 1 2, .o 2 2, .o 3 2, .o 4 2, .o 5 2, .o 6 2, .o 7 0, .o 8 2, .o 9 0, .o 10 1, .o 11 3, .o 12 3, .o 13 1] (by kernel_rfl) (by kernel_rfl) hM54 ?_
  rintro w60 hS60 hM60
  have hE60 := hE54.andN hS60
  refine qax (.pointer (some ⟨a0_n_b, a0_n_pre.length, none⟩)) rfl l3 hM60 (fun _ => R_mv rfl) rfl (gN rfl) rfl ?_
  refine qax (.pointer (some ⟨a0_n_b, a0_n_pre.length, none⟩)) rfl l0 hM60 (fun _ => R_mv rfl) rfl (gN rfl) rfl ?_
  refine qax (.pointer (some ⟨a0_n_b, a0_n_pre.length, none⟩)) rfl l0 hM60 (fun _ => qbC rfl) rfl (gN rfl) rfl ?_
  refine qax (.pointer (some ⟨a0_n_b, a0_n_pre.length + 0, none⟩)) rfl l0 hM60 (fun _ => R_fa rfl Try.underlying39 rfl rfl qkn rfl) rfl (gN rfl) rfl ?_
  have hR62 := (hL42_1.extN hS60)
  refine qeP hM60 (qcP (Foc.fst Kd.rsl Kd.rmp) rfl qkn hR62 (by first | rfl | simp | omega) (fun h => h)) rfl (gN rfl) rfl ?_
  rintro v61 (hV61 : Kd.rsl.V _ a0_n_0v _)
  obtain rfl := qeG hV61
  have hR64 := (hR59.extN hS60)
  refine qeP hM60 (qcP (Foc.id _) rfl ty24 hR64 (by first | rfl | simp | omega) (fun h => h)) rfl (gN rfl) rfl ?_
  rintro v63 (hV63 : qae.V _ a1_s _)
  refine qax a2_b_v rfl l0 hM60 (fun _ => R_mv rfl) rfl (gN rfl) rfl ?_
  have hR66 := (hR58.extN hS60)
  have hR67 := (hL42_z1_1.extN hS60)
  obtain ⟨hp69, h⟩ := h
  refine qkO rfl (gN rfl) rfl (qbR (qdL Try.call69 rfl) ((qtf hM60 (h_a2_b.mono (hS6.le.trans (hS13.le.trans (hX31.le.trans (hS33.le.trans (hX54.le.trans hS60.le)))))) hp69).mono ?_))
  rintro _ w68 ⟨K68, v68_0, rfl, hS68, hM68, hO68_0, hg68_0⟩
  refine ⟨v68_0, rfl, ?_⟩
  refine ⟨K68, hS68, hM68, ?_⟩
  have hE68 := hE60.andN hS68
  have h := h hO68_0.wf
  refine WO_V rfl l0 hM68 (qvY (K := K68) (vs := [(0, v63), (1, v68_0)]) (Z := (a1_s, a2_b)) qnx rfl Try.underlying146 (qxz Try.underlying146) rfl (Parts.cons rfl rfl ty24 (Foc.fst qae qaD) (hV63.mono hS68.le) (Parts.cons rfl rfl ty32 (Foc.snd qae qaD) hO68_0.V Parts.nil))) rfl (gN rfl) rfl ?_
  rintro v71 (hV71 : qaq.V _ (a1_s, a2_b) _)
  refine qkO rfl (gN rfl) rfl (qtX (qqZ (k := qaq) (l := [((a1_s, a2_b), v71)]) hM68 rfl (by intro p hp; simp only [List.mem_cons, List.not_mem_nil, or_false] at hp; subst hp; exact hV71) rfl Try.underlying36 qnx rfl rfl) ?_)
  rintro v73 w73 K73 (hO73 : Own qaq 146 w73 K73 [(a1_s, a2_b)] v73) hS73 hM73 hg73
  refine ⟨K73, hS73, hM73, ?_⟩
  have hE73 := hE68.andN hS73
  have hR75 := (hR66.extN hS68)
  have hR76 := ((hR66.extN hS68).extN hS73)
  obtain ⟨hp78, h⟩ := h
  refine qlU rfl (gN rfl) rfl (St_S (qvV hM73 rfl hR76 rfl hO73.V Try.underlying36 qnx rfl hp78) ?_)
  rintro v77 w77 K77 hO77 hS77 hM77 hob77
  refine ⟨K77, (hS77.weak (fun c hlt hx => (.inr (.inl (hx))))), hM77, ?_⟩
  have hE77 := hE73.comp hS77 (fun c hx hlt => (fun g hg _ => (.inr (.inl hg))) c hx hlt)
  have hR79 := (hO73.ext hS77 (fun g hg hx => (fun g hg hx => absurd (hR75.lt _ hx) (Nat.not_lt.2 (hg73 g hg))) g hg hx))
  have hfx77 : ∀ g, ob v77 = some g → g < w0.heap.size → g = a0_n_b ∨ ob a0_n_0v = some g ∨ mb a0_n_1v = some g := fun g hg hlt => by rcases hob77 with hq | hq <;> rw [hq] at hg; exact (fun g hg _ => (.inr (.inl hg))) g hg hlt; cases hg; exact absurd hlt (Nat.not_lt.2 hE73.size)
  have hs81 : ∀ g, ob v77 = some g → ¬ (ob v73 = some g) := fun g hg hx => by rcases hob77 with hq | hq <;> rw [hq] at hg; exact (fun g hg hx => (fun g hg hx => absurd (hR75.lt _ hx) (Nat.not_lt.2 (hg73 g hg))) g hx hg) g hg hx; cases hg; exact absurd (hO73.lt _ hx) (Nat.not_lt.2 (Nat.le_refl _))
  refine qax (.pointer (some ⟨a0_n_b, a0_n_pre.length, none⟩)) rfl l3 hM77 (fun _ => qbC rfl) rfl (gN rfl) rfl ?_
  refine qax (.pointer (some ⟨a0_n_b, a0_n_pre.length + 0, none⟩)) rfl l3 hM77 (fun _ => R_fa rfl Try.underlying39 rfl rfl qkn rfl) rfl (gN rfl) rfl ?_
  have hR83 := ((hR62.extN hS68).extN hS73)
  have hR84 := (hR83.ext hS77 (fun hx => (hR76.box hR83) hx))
  refine qlU rfl (gN rfl) rfl (qkN (qkM (Foc.fst Kd.rsl Kd.rmp) hM77 rfl rfl (rw_V hO77.one) qkn hR84 (by first | rfl | simp | omega)) ?_)
  rintro w82 (hB82 : Bx qav _ _ a0_n_b a0_n_pre a0_n_post (v77, (.map (some z1_1_42)))) hS82 hM82
  refine ⟨K77, (hS82.weak (fun c hlt hx => (.inl (hx)))), hM82, ?_⟩
  have hE82 := hE77.comp hS82 (fun c hx hlt => (by subst hx; exact (fun _ => (.inl rfl)) hlt))
  refine qhO ?_
  have hR85 := (hO77.ext hS82 (fun g hg hx => (fun g hg hx => hO77.box hR84 (hg.trans (congrArg some hx))) g hg hx))
  have hR86 := ((hR67.extN hS68).extN hS73)
  have hR87 := (hR86.ext hS77 (fun g hg hx => (fun g hg hx => hR86.own hR76 g hx hg) g hg hx))
  have hR88 := (hR87.ext hS82 (fun g hg hx => (fun g hg hx => hR87.box hR84 (hg.trans (congrArg some hx))) g hg hx))
  exact qrs hR (v := (.tuple #[])) (qpP rfl) ⟨K77, v77, (.map (some z1_1_42)), (a0_n_0 ++ [(a1_s, a2_b)]), y42, rfl, h, hE82, hM82, hB82, hR85, (fun g hg => (by have hg : ob v77 = some g := hg; rcases hob77 with hq | hq <;> rw [hq] at hg; exact (.inl hg); cases hg; exact .inr hE73.size)), hR88, (fun g hg => ((ho42_z1_1 g hg).elim (fun hz => ((ho23_z1_1 g hz).elim (fun hz => (.inl hz)) (fun hz => .inr (Nat.le_trans hE13.size hz)))) (fun hz => .inr (Nat.le_trans hE33.size hz))))⟩
theorem qxp {w0 : World} {K0 : Ghost} {a0_n_b : Nat} {a0_n_pre a0_n_post : List Value} {a0_n_0v : Value} {a0_n_0 : (List ((List UInt8) × (List UInt8)))} {a0_n_1v : Value} {a0_n_1 : (List ((List UInt8) × Int))} {a1_s_v : Value} {a1_s : (List UInt8)} {a2_b_v : Value} {a2_b : (List UInt8)} (hM0 : Models w0 K0) (h_a0_n_B : Bx qav w0 K0 a0_n_b a0_n_pre a0_n_post (a0_n_0v, a0_n_1v)) (h_a0_n_0 : Own qaq 146 w0 K0 a0_n_0 a0_n_0v) (h_a0_n_1 : Mp qae (Kd.int .i64) w0 K0 a0_n_1 a0_n_1v) (h_a1_s : qae.V K0 a1_s a1_s_v) (h_a2_b : qaD.V K0 a2_b a2_b_v) (hp : qb6 a0_n_0 a0_n_1 ∧ a2_b.length ≤ 140737488355328 ∧ (a0_n_0.length + 1) * 64 ≤ 140737488355328) : Calls Try.prog 86 #[(.pointer (some ⟨a0_n_b, a0_n_pre.length, none⟩)), a1_s_v, a2_b_v] w0 (fun e w' => ∃ (K' : Ghost) (u0_0 : Value) (u0_1 : Value), e = .returned (.tuple #[]) ∧ Ext (fun c => c = a0_n_b ∨ ob a0_n_0v = some c ∨ mb a0_n_1v = some c) w0 K0 w' K' ∧ Models w' K' ∧ Bx qav w' K' a0_n_b a0_n_pre a0_n_post (u0_0, u0_1) ∧ Own qaq 146 w' K' (addL a0_n_0 a1_s a2_b) u0_0 ∧ (∀ g, ob u0_0 = some g → ob a0_n_0v = some g ∨ w0.heap.size ≤ g) ∧ Mp qae (Kd.int .i64) w' K' (addM a0_n_0 a0_n_1 a1_s a2_b) u0_1 ∧ (∀ g, mb u0_1 = some g → mb a0_n_1v = some g ∨ w0.heap.size ≤ g)) := by
 refine (qq9 hM0 h_a0_n_B h_a0_n_0 h_a0_n_1 h_a1_s h_a2_b (qwg h_a1_s.wf h_a2_b.wf hp)).mono ?_
 rintro _ w' ⟨K', u0, u1, o0, o1, rfl, ⟨rfl, rfl⟩, hF⟩
 exact ⟨K', u0, u1, rfl, hF⟩
abbrev qbr : Kd ((Value × Value) × Int) := (Kd.pr qav (Kd.int .i64))
theorem ty39 : TyOk Try.prog 39 qav 32 := ⟨⟨Try.t39, _, Try.type39, rfl, rfl, rfl, rfl, rfl⟩, ⟨_, Try.underlying39, rfl⟩⟩
abbrev qvg := qa8 146
def qlI (a0_k_0_0 : (List ((List UInt8) × (List UInt8)))) (a0_k_0_1 : (List ((List UInt8) × Int))) (a0_k_1 : Int) (a1_kind : Int) (a2_parts : (List (List UInt8))) (Q : (List UInt8) → (List ((List UInt8) × (List UInt8))) → (List ((List UInt8) × Int)) → Int → Prop) : Prop :=
 (1 + qaj a2_parts ≤ 140737488355328) ∧ ((qaD.wf (preimage a1_kind a2_parts)) → (((1 + [(preimage a1_kind a2_parts)].length) * 24 ≤ 140737488355328 ∧ [(preimage a1_kind a2_parts)].flatten.length ≤ 140737488355328) ∧ ((qae.wf (qbn [(preimage a1_kind a2_parts)])) → ((qb6 a0_k_0_0 a0_k_0_1 ∧ (preimage a1_kind a2_parts).length ≤ 140737488355328 ∧ (a0_k_0_0.length + 1) * 64 ≤ 140737488355328) ∧ (Q (qbn [(preimage a1_kind a2_parts)]) (addL a0_k_0_0 (qbn [(preimage a1_kind a2_parts)]) (preimage a1_kind a2_parts)) (addM a0_k_0_0 a0_k_0_1 (qbn [(preimage a1_kind a2_parts)]) (preimage a1_kind a2_parts)) (IntKind.i64.wrap (a0_k_1 + 1)))))))
theorem qvt {a0_k_0_0 : (List ((List UInt8) × (List UInt8)))} {a0_k_0_1 : (List ((List UInt8) × Int))} {a0_k_1 : Int} {a1_kind : Int} {a2_parts : (List (List UInt8))} (w_0 : (Kd.int .i64).wf a1_kind) (w_1 : qbc.wf a2_parts) (hp : qb6 a0_k_0_0 a0_k_0_1 ∧ 1 + qaj a2_parts ≤ 140737488355328 ∧ (a0_k_0_0.length + 1) * 64 ≤ 140737488355328) : qlI a0_k_0_0 a0_k_0_1 a0_k_1 a1_kind a2_parts (fun o0 o1 o2 o3 => o0 = (qaw a1_kind a2_parts) ∧ o1 = (addL a0_k_0_0 (qaw a1_kind a2_parts) (preimage a1_kind a2_parts)) ∧ o2 = (addM a0_k_0_0 a0_k_0_1 (qaw a1_kind a2_parts) (preimage a1_kind a2_parts)) ∧ o3 = (IntKind.i64.wrap (a0_k_1 + 1))) := by
 obtain ⟨h1, h2, h3⟩ := hp
 have hl := qcI a1_kind h2
 unfold qlI
 exact ⟨h2, fun _ => ⟨⟨by simp, by simpa using by omega⟩, fun _ => ⟨⟨h1, by omega, h3⟩, rfl, rfl, rfl, rfl⟩⟩⟩
theorem qqE {w0 : World} {K0 : Ghost} {a0_k_b : Nat} {a0_k_pre a0_k_post : List Value} {a0_k_0_0v : Value} {a0_k_0_0 : (List ((List UInt8) × (List UInt8)))} {a0_k_0_1v : Value} {a0_k_0_1 : (List ((List UInt8) × Int))} {a0_k_1 : Int} {a1_kind_v : Value} {a1_kind : Int} {a2_parts_v : Value} {a2_parts : (List (List UInt8))} {Q : (List UInt8) → (List ((List UInt8) × (List UInt8))) → (List ((List UInt8) × Int)) → Int → Prop} (hM0 : Models w0 K0) (h_a0_k_B : Bx qbr w0 K0 a0_k_b a0_k_pre a0_k_post ((a0_k_0_0v, a0_k_0_1v), a0_k_1)) (h_a0_k_0_0 : Own qaq 146 w0 K0 a0_k_0_0 a0_k_0_0v) (h_a0_k_0_1 : Mp qae (Kd.int .i64) w0 K0 a0_k_0_1 a0_k_0_1v) (h_a1_kind : (Kd.int .i64).V K0 a1_kind a1_kind_v) (h_a2_parts : qbc.V K0 a2_parts a2_parts_v) (h : qlI a0_k_0_0 a0_k_0_1 a0_k_1 a1_kind a2_parts Q) : Calls Try.prog 67 #[(.pointer (some ⟨a0_k_b, a0_k_pre.length, none⟩)), a1_kind_v, a2_parts_v] w0 (fun e w' => ∃ (K' : Ghost) (r0 : Value) (u0_0_0 : Value) (u0_0_1 : Value) (o0 : (List UInt8)) (o1 : (List ((List UInt8) × (List UInt8)))) (o2 : (List ((List UInt8) × Int))) (o3 : Int), e = .returned r0 ∧ Q o0 o1 o2 o3 ∧ Ext (fun c => c = a0_k_b ∨ ob a0_k_0_0v = some c ∨ mb a0_k_0_1v = some c) w0 K0 w' K' ∧ Models w' K' ∧ qae.V K' o0 r0 ∧ Bx qbr w' K' a0_k_b a0_k_pre a0_k_post ((u0_0_0, u0_0_1), o3) ∧ Own qaq 146 w' K' o1 u0_0_0 ∧ (∀ g, ob u0_0_0 = some g → ob a0_k_0_0v = some g ∨ w0.heap.size ≤ g) ∧ Mp qae (Kd.int .i64) w' K' o2 u0_0_1 ∧ (∀ g, mb u0_0_1 = some g → mb a0_k_0_1v = some g ∨ w0.heap.size ≤ g)) := by
 unfold qlI at h
 obtain rfl := qbY h_a1_kind
 have hE0 : Ext (fun c => c = a0_k_b ∨ ob a0_k_0_0v = some c ∨ mb a0_k_0_1v = some c) w0 K0 w0 K0 := Ext.refl _ _ _
 refine qbz fun R hR => ?_
 refine qa4 (args := [(.pointer (some ⟨a0_k_b, a0_k_pre.length, none⟩)), (.int .i64 a1_kind), a2_parts_v]) Try.func67 rfl (Nat.le_of_ble_eq_true rfl) ?_
 refine qap ?_
 refine qaf ?_
 refine qaY rfl rfl (St_B (qgL hM0 ty24) ?_)
 rintro b5 w5 (hB5 : Bx qae _ _ _ _ _ (List.replicate 32 0)) hS5 hM5 hge5
 have hE5 := hE0.andN hS5
 refine qay ?_
 refine qap ?_
 refine qaf ?_
 refine qaa (.int .i64 a1_kind) (R_mv rfl) rfl rfl ?_
 refine qaa a2_parts_v (R_mv rfl) rfl rfl ?_
 have hR7 := (h_a0_k_0_0.extN hS5)
 have hR8 := (h_a0_k_0_1.extN hS5)
 have hR9 := (h_a0_k_B.extN hS5)
 obtain ⟨hp11, h⟩ := h
 refine qaY rfl rfl (qbR (qdL Try.call98 rfl) ((qhL hM5 (qhz (h_a1_kind).wf) (h_a2_parts.mono hS5.le) hp11).mono ?_))
 rintro _ w10 ⟨K10, v10_0, rfl, hS10, hM10, hO10_0, hg10_0⟩
 refine ⟨v10_0, rfl, ?_⟩
 have hE10 := hE5.andN hS10
 have h := h hO10_0.wf
 refine qaa v10_0 (R_as rfl) rfl rfl ?_
 refine qay ?_
 refine qap ?_
 refine qaf ?_
 refine qaa v10_0 (R_mv rfl) rfl rfl ?_
 refine qaY rfl rfl (qtX (qqZ (k := qaD) (l := [((preimage a1_kind a2_parts), v10_0)]) hM10 rfl (by intro p hp; simp only [List.mem_cons, List.not_mem_nil, or_false] at hp; subst hp; exact hO10_0.V) rfl Try.underlying96 ty32 rfl rfl) ?_)
 rintro v13 w13 K13 (hO13 : Own qaD 32 w13 K13 [(preimage a1_kind a2_parts)] v13) hS13 hM13 hg13
 have hE13 := hE10.andN hS13
 obtain ⟨hp16, h⟩ := h
 refine qaY rfl rfl (qbR (qdL Try.call110 rfl) ((qlS hM13 hO13.V hp16).mono ?_))
 rintro _ w15 ⟨K15, v15_0, rfl, hS15, hM15, hV15_0⟩
 refine ⟨v15_0, rfl, ?_⟩
 have hE15 := hE13.andN hS15
 have h := h hV15_0.wf
 refine qaY rfl rfl (St_B (qgL hM15 ty24) ?_)
 rintro b18 w18 (hB18 : Bx qae _ _ _ _ _ (List.replicate 32 0)) hS18 hM18 hge18
 have hE18 := hE15.andN hS18
 have hR20 := (((hR9.extN hS10).extN hS13).extN hS15)
 have hR21 := (((hB5.extN hS10).extN hS13).extN hS15)
 refine qaY rfl rfl (qkN (qkM (Foc.id _) hM18 rfl rfl (hV15_0.mono hS18.le) ty24 hB18 (by first | rfl | simp | omega)) ?_)
 rintro w22 (hB22 : Bx qae _ _ b18 [] [] (qbn [(preimage a1_kind a2_parts)])) hS22 hM22
 have hE22 := hE18.comp hS22 (fun c hx hlt => (by subst hx; exact (fun hlt => absurd hlt (Nat.not_lt.2 (Nat.le_trans hE15.size hge18))) hlt))
 refine qay ?_
 refine qap ?_
 refine qap ?_
 refine qaf ?_
 refine qaa (.pointer (some ⟨a0_k_b, a0_k_pre.length, none⟩)) (R_mv rfl) rfl rfl ?_
 refine qaa (.bool true) (qqU rfl rfl Try.underlying35) rfl rfl ?_
 refine qay ?_
 refine qa9 true rfl (fun _ => ?_) (fun hc => by cases hc)
 refine qap ?_
 refine qaf ?_
 refine qaa (.pointer (some ⟨a0_k_b, a0_k_pre.length, none⟩)) (R_mv rfl) rfl rfl ?_
 refine qaa (.pointer (some ⟨a0_k_b, a0_k_pre.length, none⟩)) (qbC rfl) rfl rfl ?_
 refine qaa (.pointer (some ⟨a0_k_b, a0_k_pre.length + 2, none⟩)) (R_fa rfl Try.underlying41 rfl rfl ty3 rfl) rfl rfl ?_
 have hR24 := ((((hR9.extN hS10).extN hS13).extN hS15).extN hS18)
 have hR25 := (hR24.ext hS22 (fun hx => (fun he => (qdR hge18 hR20.lt) he.symm) hx))
 refine WL_L hM22 (qcP (Foc.snd qav (Kd.int .i64)) rfl ty3 hR25 (by first | rfl | simp | omega) (fun h => h)) rfl rfl ?_
 rintro v23 (hV23 : (Kd.int .i64).V _ a0_k_1 _)
 obtain rfl := qbY hV23
 refine qaa (.int .i64 (IntKind.i64.wrap (a0_k_1 + 1))) (qn9 rfl rfl) rfl rfl ?_
 refine qaa (.pointer (some ⟨a0_k_b, a0_k_pre.length, none⟩)) (qbC rfl) rfl rfl ?_
 refine qaa (.pointer (some ⟨a0_k_b, a0_k_pre.length + 2, none⟩)) (R_fa rfl Try.underlying41 rfl rfl ty3 rfl) rfl rfl ?_
 refine qaY rfl rfl (qkN (qkM (Foc.snd qav (Kd.int .i64)) hM22 rfl rfl (qhz (qbO _ _)) ty3 hR25 (by first | rfl | simp | omega)) ?_)
 rintro w26 (hB26 : Bx qbr _ _ a0_k_b a0_k_pre a0_k_post ((a0_k_0_0v, a0_k_0_1v), (IntKind.i64.wrap (a0_k_1 + 1)))) hS26 hM26
 have hE26 := hE22.comp hS26 (fun c hx hlt => (by subst hx; exact (fun _ => (.inl rfl)) hlt))
 refine qay ?_
 have hR27 := (hB22.ext hS26 (fun hx => (qdR hge18 hR20.lt) hx))
 have hR28 := ((((hR7.extN hS10).extN hS13).extN hS15).extN hS18)
 have hR29 := (hR28.ext hS22 (fun g hg hx => (fun g hg hx => hR28.box hB18 (hg.trans (congrArg some hx))) g hg hx))
 have hR30 := (hR29.ext hS26 (fun g hg hx => (fun g hg hx => hR29.box hR25 (hg.trans (congrArg some hx))) g hg hx))
 have hR31 := ((((hR8.extN hS10).extN hS13).extN hS15).extN hS18)
 have hR32 := (hR31.ext hS22 (fun g hg hx => (fun g hg hx => hR31.box hB18 (hg.trans (congrArg some hx))) g hg hx))
 have hR33 := (hR32.ext hS26 (fun g hg hx => (fun g hg hx => hR32.box hR25 (hg.trans (congrArg some hx))) g hg hx))
 refine qft (K := K15) (fun c => c = a0_k_b ∨ ob a0_k_0_0v = some c ∨ mb a0_k_0_1v = some c ∨ w26.heap.size ≤ c) [.o 0 2, .o 1 2, .o 2 2, .o 3 2, .o 4 2, .o 5 1] (by kernel_rfl) (by kernel_rfl) hM26 ?_
 rintro w34 hS34 hM34
 have hE34 := hE26.andN hS34
 refine qax (.pointer (some ⟨a0_k_b, a0_k_pre.length, none⟩)) rfl l0 hM34 (fun _ => R_mv rfl) rfl (gN rfl) rfl ?_
 refine qax (.pointer (some ⟨a0_k_b, a0_k_pre.length, none⟩)) rfl l0 hM34 (fun _ => qbC rfl) rfl (gN rfl) rfl ?_
 refine qax (.pointer (some ⟨a0_k_b, a0_k_pre.length + 0, none⟩)) rfl l0 hM34 (fun _ => R_fa rfl Try.underlying41 rfl rfl ty39 rfl) rfl (gN rfl) rfl ?_
 have hR36 := (hR27.extN hS34)
 refine qeP hM34 (qcP (Foc.id _) rfl ty24 hR36 (by first | rfl | simp | omega) (fun h => h)) rfl (gN rfl) rfl ?_
 rintro v35 (hV35 : qae.V _ (qbn [(preimage a1_kind a2_parts)]) _)
 refine qax v10_0 rfl l0 hM34 (fun _ => R_mv rfl) rfl (gN rfl) rfl ?_
 have hR38 := (hR30.extN hS34)
 have hR39 := (hR33.extN hS34)
 have hR40 := (hB26.extN hS34)
 have hR41 := ((((hB5.extN hS10).extN hS13).extN hS15).extN hS18)
 have hR42 := (hR41.ext hS22 (fun hx => (fun he => (qdR hge18 hR21.lt) he.symm) hx))
 have hR43 := ((hR42.ext hS26 (fun hx => (qdR hge5 h_a0_k_B.lt) hx)).extN hS34)
 have hR44 := (((hO10_0.extN hS13).extN hS15).extN hS18)
 have hR45 := (hR44.ext hS22 (fun g hg hx => (fun g hg hx => hR44.box hB18 (hg.trans (congrArg some hx))) g hg hx))
 have hR46 := ((hR45.ext hS26 (fun g hg hx => (fun g hg hx => hR45.box hR25 (hg.trans (congrArg some hx))) g hg hx)).extN hS34)
 have hR47 := ((hO13.extN hS15).extN hS18)
 have hR48 := (hR47.ext hS22 (fun g hg hx => (fun g hg hx => hR47.box hB18 (hg.trans (congrArg some hx))) g hg hx))
 have hR49 := ((hR48.ext hS26 (fun g hg hx => (fun g hg hx => hR48.box hR25 (hg.trans (congrArg some hx))) g hg hx)).extN hS34)
 obtain ⟨p51, q51, hl51, hB51, hback51⟩ := Bx.sub (Foc.fst qav (Kd.int .i64)) hR40
 obtain ⟨hp52, h⟩ := h
 refine qlU rfl (gN rfl) rfl (qbR (qdL Try.call86 (mapC (show (Value.pointer (some ⟨a0_k_b, a0_k_pre.length + 0, none⟩)) = .pointer (some ⟨a0_k_b, ((a0_k_pre : List Value) ++ p51).length, none⟩) from by rw [List.length_append, hl51]; first | done | simp) (mapC rfl (mapC rfl mapN)))) ((qxp hM34 hB51 hR38 hR39 hV35 hR46.V hp52).mono ?_))
 rintro _ w50 ⟨K50, u50_0_0, u50_0_1, rfl, hS50, hM50, hB50_m0, hu50_0_0, hxu50_0_0, hu50_0_1, hxu50_0_1⟩
 refine ⟨(.tuple #[]), rfl, ?_⟩
 refine ⟨K50, (hS50.weak (fun c hlt hx => Or.elim hx (fun hx => (.inl (hx))) (fun hx => Or.elim hx (fun hx => (.inr (.inl (hx)))) (fun hx => (.inr (.inr (.inl (hx)))))))), hM50, ?_⟩
 have hE50 := hE34.comp hS50 (fun c hx hlt => Or.elim hx (fun hx => (by subst hx; exact (fun _ => (.inl rfl)) hlt)) (fun hx => Or.elim hx (fun hx => (fun g hg _ => (.inr (.inl hg))) c hx hlt) (fun hx => (fun g hg _ => (.inr (.inr (hg)))) c hx hlt)))
 have hf53 : ∀ g, ob u50_0_0 = some g → g < w0.heap.size → g = a0_k_b ∨ ob a0_k_0_0v = some g ∨ mb a0_k_0_1v = some g := fun g hg hlt => (hxu50_0_0 g hg).elim (fun hx => (fun g hg _ => (.inr (.inl hg))) g hx hlt) (fun hx => absurd hlt (Nat.not_lt.2 (Nat.le_trans hE34.size hx)))
 have hf54 : ∀ g, mb u50_0_1 = some g → g < w0.heap.size → g = a0_k_b ∨ ob a0_k_0_0v = some g ∨ mb a0_k_0_1v = some g := fun g hg hlt => (hxu50_0_1 g hg).elim (fun hx => (fun g hg _ => (.inr (.inr (hg)))) g hx hlt) (fun hx => absurd hlt (Nat.not_lt.2 (Nat.le_trans hE34.size hx)))
 have hB50_w : Bx qbr w50 K50 a0_k_b a0_k_pre a0_k_post ((u50_0_0, u50_0_1), (IntKind.i64.wrap (a0_k_1 + 1))) := hback51 hS50.le hB50_m0
 refine qhO ?_
 refine qap ?_
 refine qaf ?_
 have hR56 := (hR36.ext hS50 (fun hx => Or.elim hx (fun hx => (qdR hge18 hR20.lt) hx) (fun hx => Or.elim hx (fun hx => (hR38.box hR36) hx) (fun hx => (hR39.box hR36) hx))))
 refine WL_L hM50 (qcP (Foc.id _) rfl ty24 hR56 (by first | rfl | simp | omega) (fun h => h)) rfl rfl ?_
 rintro v55 (hV55 : qae.V _ (qbn [(preimage a1_kind a2_parts)]) _)
 have hR59 := (hR43.ext hS50 (fun hx => Or.elim hx (fun hx => (qdR hge5 h_a0_k_B.lt) hx) (fun hx => Or.elim hx (fun hx => (hR38.box hR43) hx) (fun hx => (hR39.box hR43) hx))))
 refine qaY rfl rfl (qkN (qkM (Foc.id _) hM50 rfl rfl hV55 ty24 hR59 (by first | rfl | simp | omega)) ?_)
 rintro w58 (hB58 : Bx qae _ _ b5 [] [] (qbn [(preimage a1_kind a2_parts)])) hS58 hM58
 have hE58 := hE50.comp hS58 (fun c hx hlt => (by subst hx; exact (fun hlt => absurd hlt (Nat.not_lt.2 (Nat.le_trans hE0.size hge5))) hlt))
 refine qay ?_
 refine qcE ?_
 refine ql6 hR (qs3 rfl rfl ty24 hB58) ?_
 rintro v60 hV60
 have hR61 := (hu50_0_0.ext hS58 (fun g hg hx => (fun g hg hx => hu50_0_0.box hR59 (hg.trans (congrArg some hx))) g hg hx))
 have hR62 := (hu50_0_1.ext hS58 (fun g hg hx => (fun g hg hx => hu50_0_1.box hR59 (hg.trans (congrArg some hx))) g hg hx))
 have hR63 := (hB50_w.ext hS58 (fun hx => (fun he => (qdR hge5 h_a0_k_B.lt) he.symm) hx))
 exact ⟨K50, v60, u50_0_0, u50_0_1, (qbn [(preimage a1_kind a2_parts)]), (addL a0_k_0_0 (qbn [(preimage a1_kind a2_parts)]) (preimage a1_kind a2_parts)), (addM a0_k_0_0 a0_k_0_1 (qbn [(preimage a1_kind a2_parts)]) (preimage a1_kind a2_parts)), (IntKind.i64.wrap (a0_k_1 + 1)), rfl, h, hE58, hM58, hV60, hR63, hR61, (fun g hg => ((hxu50_0_0 g hg).elim (fun hz => (.inl hz)) (fun hz => .inr (Nat.le_trans hE34.size hz)))), hR62, (fun g hg => ((hxu50_0_1 g hg).elim (fun hz => (.inl hz)) (fun hz => .inr (Nat.le_trans hE34.size hz))))⟩
theorem qwU {w0 : World} {K0 : Ghost} {a0_k_b : Nat} {a0_k_pre a0_k_post : List Value} {a0_k_0_0v : Value} {a0_k_0_0 : (List ((List UInt8) × (List UInt8)))} {a0_k_0_1v : Value} {a0_k_0_1 : (List ((List UInt8) × Int))} {a0_k_1 : Int} {a1_kind_v : Value} {a1_kind : Int} {a2_parts_v : Value} {a2_parts : (List (List UInt8))} (hM0 : Models w0 K0) (h_a0_k_B : Bx qbr w0 K0 a0_k_b a0_k_pre a0_k_post ((a0_k_0_0v, a0_k_0_1v), a0_k_1)) (h_a0_k_0_0 : Own qaq 146 w0 K0 a0_k_0_0 a0_k_0_0v) (h_a0_k_0_1 : Mp qae (Kd.int .i64) w0 K0 a0_k_0_1 a0_k_0_1v) (h_a1_kind : (Kd.int .i64).V K0 a1_kind a1_kind_v) (h_a2_parts : qbc.V K0 a2_parts a2_parts_v) (hp : qb6 a0_k_0_0 a0_k_0_1 ∧ 1 + qaj a2_parts ≤ 140737488355328 ∧ (a0_k_0_0.length + 1) * 64 ≤ 140737488355328) : Calls Try.prog 67 #[(.pointer (some ⟨a0_k_b, a0_k_pre.length, none⟩)), a1_kind_v, a2_parts_v] w0 (fun e w' => ∃ (K' : Ghost) (r0 : Value) (u0_0_0 : Value) (u0_0_1 : Value), e = .returned r0 ∧ Ext (fun c => c = a0_k_b ∨ ob a0_k_0_0v = some c ∨ mb a0_k_0_1v = some c) w0 K0 w' K' ∧ Models w' K' ∧ qae.V K' (qaw a1_kind a2_parts) r0 ∧ Bx qbr w' K' a0_k_b a0_k_pre a0_k_post ((u0_0_0, u0_0_1), (IntKind.i64.wrap (a0_k_1 + 1))) ∧ Own qaq 146 w' K' (addL a0_k_0_0 (qaw a1_kind a2_parts) (preimage a1_kind a2_parts)) u0_0_0 ∧ (∀ g, ob u0_0_0 = some g → ob a0_k_0_0v = some g ∨ w0.heap.size ≤ g) ∧ Mp qae (Kd.int .i64) w' K' (addM a0_k_0_0 a0_k_0_1 (qaw a1_kind a2_parts) (preimage a1_kind a2_parts)) u0_0_1 ∧ (∀ g, mb u0_0_1 = some g → mb a0_k_0_1v = some g ∨ w0.heap.size ≤ g)) := by
 refine (qqE hM0 h_a0_k_B h_a0_k_0_0 h_a0_k_0_1 h_a1_kind h_a2_parts (qvt h_a1_kind.wf h_a2_parts.wf hp)).mono ?_
 rintro _ w' ⟨K', r0, u0, u1, o0, o1, o2, o3, rfl, ⟨rfl, rfl, rfl, rfl⟩, hF⟩
 exact ⟨K', r0, u0, u1, rfl, hF⟩
def qlJ (a1_kind : Int) (a2_parts : (List (List UInt8))) (Q : (List UInt8) → Prop) : Prop :=
 (1 + qaj a2_parts ≤ 140737488355328) ∧ ((qaD.wf (preimage a1_kind a2_parts)) → (((1 + [(preimage a1_kind a2_parts)].length) * 24 ≤ 140737488355328 ∧ [(preimage a1_kind a2_parts)].flatten.length ≤ 140737488355328) ∧ ((qae.wf (qbn [(preimage a1_kind a2_parts)])) → (Q (qbn [(preimage a1_kind a2_parts)])))))
theorem qvu {a1_kind : Int} {a2_parts : (List (List UInt8))} (w_0 : (Kd.int .i64).wf a1_kind) (w_1 : qbc.wf a2_parts) (hp : 1 + qaj a2_parts ≤ 140737488355328) : qlJ a1_kind a2_parts (fun o0 => o0 = (qaw a1_kind a2_parts)) := by
 have hl := qcI a1_kind hp
 unfold qlJ
 exact ⟨hp, fun _ => ⟨⟨by simp, by simpa using by omega⟩, fun _ => rfl⟩⟩
theorem qqF {w0 : World} {K0 : Ghost} {a1_kind_v : Value} {a1_kind : Int} {a2_parts_v : Value} {a2_parts : (List (List UInt8))} {Q : (List UInt8) → Prop} (hM0 : Models w0 K0) (h_a1_kind : (Kd.int .i64).V K0 a1_kind a1_kind_v) (h_a2_parts : qbc.V K0 a2_parts a2_parts_v) (h : qlJ a1_kind a2_parts Q) : Calls Try.prog 67 #[(.pointer none), a1_kind_v, a2_parts_v] w0 (fun e w' => ∃ (K' : Ghost) (r0 : Value) (o0 : (List UInt8)), e = .returned r0 ∧ Q o0 ∧ Ext NX w0 K0 w' K' ∧ Models w' K' ∧ qae.V K' o0 r0) := by
 unfold qlJ at h
 obtain rfl := qbY h_a1_kind
 have hE0 : Ext NX w0 K0 w0 K0 := Ext.refl _ _ _
 refine qbz fun R hR => ?_
 refine qa4 (args := [(.pointer none), (.int .i64 a1_kind), a2_parts_v]) Try.func67 rfl (Nat.le_of_ble_eq_true rfl) ?_
 refine qap ?_
 refine qaf ?_
 refine qaY rfl rfl (St_B (qgL hM0 ty24) ?_)
 rintro b2 w2 (hB2 : Bx qae _ _ _ _ _ (List.replicate 32 0)) hS2 hM2 hge2
 have hE2 := hE0.andN hS2
 refine qay ?_
 refine qap ?_
 refine qaf ?_
 refine qaa (.int .i64 a1_kind) (R_mv rfl) rfl rfl ?_
 refine qaa a2_parts_v (R_mv rfl) rfl rfl ?_
 obtain ⟨hp5, h⟩ := h
 refine qaY rfl rfl (qbR (qdL Try.call98 rfl) ((qhL hM2 (qhz (h_a1_kind).wf) (h_a2_parts.mono hS2.le) hp5).mono ?_))
 rintro _ w4 ⟨K4, v4_0, rfl, hS4, hM4, hO4_0, hg4_0⟩
 refine ⟨v4_0, rfl, ?_⟩
 have hE4 := hE2.andN hS4
 have h := h hO4_0.wf
 refine qaa v4_0 (R_as rfl) rfl rfl ?_
 refine qay ?_
 refine qap ?_
 refine qaf ?_
 refine qaa v4_0 (R_mv rfl) rfl rfl ?_
 refine qaY rfl rfl (qtX (qqZ (k := qaD) (l := [((preimage a1_kind a2_parts), v4_0)]) hM4 rfl (by intro p hp; simp only [List.mem_cons, List.not_mem_nil, or_false] at hp; subst hp; exact hO4_0.V) rfl Try.underlying96 ty32 rfl rfl) ?_)
 rintro v7 w7 K7 (hO7 : Own qaD 32 w7 K7 [(preimage a1_kind a2_parts)] v7) hS7 hM7 hg7
 have hE7 := hE4.andN hS7
 obtain ⟨hp10, h⟩ := h
 refine qaY rfl rfl (qbR (qdL Try.call110 rfl) ((qlS hM7 hO7.V hp10).mono ?_))
 rintro _ w9 ⟨K9, v9_0, rfl, hS9, hM9, hV9_0⟩
 refine ⟨v9_0, rfl, ?_⟩
 have hE9 := hE7.andN hS9
 have h := h hV9_0.wf
 refine qaY rfl rfl (St_B (qgL hM9 ty24) ?_)
 rintro b12 w12 (hB12 : Bx qae _ _ _ _ _ (List.replicate 32 0)) hS12 hM12 hge12
 have hE12 := hE9.andN hS12
 have hR14 := (((hB2.extN hS4).extN hS7).extN hS9)
 refine qaY rfl rfl (qkN (qkM (Foc.id _) hM12 rfl rfl (hV9_0.mono hS12.le) ty24 hB12 (by first | rfl | simp | omega)) ?_)
 rintro w15 (hB15 : Bx qae _ _ b12 [] [] (qbn [(preimage a1_kind a2_parts)])) hS15 hM15
 have hE15 := hE12.comp hS15 (fun c hx hlt => (by subst hx; exact (fun hlt => absurd hlt (Nat.not_lt.2 (Nat.le_trans hE9.size hge12))) hlt))
 refine qay ?_
 refine qap ?_
 refine qap ?_
 refine qaf ?_
 refine qaa (.pointer none) (R_mv rfl) rfl rfl ?_
 refine qaa (.bool false) (qlO rfl rfl Try.underlying35) rfl rfl ?_
 refine qay ?_
 refine qa9 false rfl (fun hc => by cases hc) (fun _ => ?_)
 refine qbS ?_
 refine qap ?_
 refine qaf ?_
 refine WL_L hM15 (qcP (Foc.id _) rfl ty24 hB15 (by first | rfl | simp | omega) (fun h => h)) rfl rfl ?_
 rintro v16 (hV16 : qae.V _ (qbn [(preimage a1_kind a2_parts)]) _)
 have hR19 := ((((hB2.extN hS4).extN hS7).extN hS9).extN hS12)
 have hR20 := (hR19.ext hS15 (fun hx => (fun he => (qdR hge12 hR14.lt) he.symm) hx))
 refine qaY rfl rfl (qkN (qkM (Foc.id _) hM15 rfl rfl hV16 ty24 hR20 (by first | rfl | simp | omega)) ?_)
 rintro w18 (hB18 : Bx qae _ _ b2 [] [] (qbn [(preimage a1_kind a2_parts)])) hS18 hM18
 have hE18 := hE15.comp hS18 (fun c hx hlt => (by subst hx; exact (fun hlt => absurd hlt (Nat.not_lt.2 (Nat.le_trans hE0.size hge2))) hlt))
 refine qay ?_
 refine qcE ?_
 refine ql6 hR (qs3 rfl rfl ty24 hB18) ?_
 rintro v21 hV21
 exact ⟨K9, v21, (qbn [(preimage a1_kind a2_parts)]), rfl, h, hE18, hM18, hV21⟩
theorem qwV {w0 : World} {K0 : Ghost} {a1_kind_v : Value} {a1_kind : Int} {a2_parts_v : Value} {a2_parts : (List (List UInt8))} (hM0 : Models w0 K0) (h_a1_kind : (Kd.int .i64).V K0 a1_kind a1_kind_v) (h_a2_parts : qbc.V K0 a2_parts a2_parts_v) (hp : 1 + qaj a2_parts ≤ 140737488355328) : Calls Try.prog 67 #[(.pointer none), a1_kind_v, a2_parts_v] w0 (fun e w' => ∃ (K' : Ghost) (r0 : Value), e = .returned r0 ∧ Ext NX w0 K0 w' K' ∧ Models w' K' ∧ qae.V K' (qaw a1_kind a2_parts) r0) := by
 refine (qqF hM0 h_a1_kind h_a2_parts (qvu h_a1_kind.wf h_a2_parts.wf hp)).mono ?_
 rintro _ w' ⟨K', r0, o0, rfl, rfl, hF⟩
 exact ⟨K', r0, rfl, hF⟩
theorem Of_c {w0 : World} {K0 : Ghost} {a0_k_v : Value} {a0_k_F : Nat → Prop} {a0_k : qak} {a1_kind_v : Value} {a1_kind : Int} {a2_parts_v : Value} {a2_parts : (List (List UInt8))} (hM0 : Models w0 K0) (h_a0_k : qvg w0 K0 a0_k_v a0_k_F a0_k) (h_a1_kind : (Kd.int .i64).V K0 a1_kind a1_kind_v) (h_a2_parts : qbc.V K0 a2_parts a2_parts_v) (hp : 1 + qaj a2_parts ≤ 140737488355328 ∧ qaJ a0_k) : Calls Try.prog 67 #[a0_k_v, a1_kind_v, a2_parts_v] w0 (fun e w' => ∃ (K' : Ghost) (r0 : Value) (F0 : Nat → Prop), e = .returned r0 ∧ Ext a0_k_F w0 K0 w' K' ∧ Models w' K' ∧ qae.V K' (qaw a1_kind a2_parts) r0 ∧ qvg w' K' a0_k_v F0 (qaC a0_k a1_kind a2_parts) ∧ (∀ g, F0 g → a0_k_F g ∨ w0.heap.size ≤ g)) := by
 cases a0_k with
 | none =>
   obtain ⟨rfl, rfl⟩ := h_a0_k
   refine (qwV hM0 h_a1_kind h_a2_parts hp.1).mono ?_
   rintro _ w' ⟨K', r0, rfl, hE, hM, hr0⟩
   exact ⟨K', r0, NX, rfl, hE, hM, hr0, ⟨rfl, rfl⟩, fun g hg => hg.elim⟩
 | some x =>
   obtain ⟨b, pre, post, lv, mv, m, rfl, hB, hO, hm, hi, hF, hlt⟩ := h_a0_k
   refine (qwU hM0 hB hO hm h_a1_kind h_a2_parts ⟨hi, hp.1, hp.2 x rfl⟩).mono ?_
   rintro _ w' ⟨K', r0, u0, u1, rfl, hE, hM, hr0, hB', hO', hx, hm', hy⟩
   refine ⟨K', r0, _, rfl, hE.weak (fun g hg hx => hF g hx), hM, hr0, qa8.mk hB' hO' hm' (qwf hi _ _), fun g hg => ?_⟩
   rcases hg with rfl | hg | hg
   ·exact .inl (hF _ (.inl rfl))
   ·exact (hx g hg).imp (fun h => hF g (.inr (.inl h))) id
   ·exact (hy g hg).imp (fun h => hF g (.inr (.inr h))) id
end Go.Proofs.Ytmjjkpiglbpkhaa

set_option linter.unusedVariables false
set_option maxRecDepth 100000
set_option maxHeartbeats 2000000
namespace Go.Proofs.Ytmjjkpiglbpkhaa
open Go Go.RowKit Go.Inc
noncomputable def Of_C : Ctr := ⟨[.bk 146 true, .v (.int .i64), .v (.sl (.sl .byte))], [.v (.arr 32 .byte)], some (fun a => (fun (a0_k : qak) (a1_kind : Int) (a2_parts : List (List UInt8)) => (1 + qaj a2_parts ≤ 140737488355328 ∧ qaJ a0_k : Prop)) a.1 a.2.1 a.2.2.1), fun a => (fun (a0_k : qak) (a1_kind : Int) (a2_parts : List (List UInt8)) => (((qaw a1_kind a2_parts), ()), ((qaC a0_k a1_kind a2_parts), ()))) a.1 a.2.1 a.2.2.1⟩
theorem Of_k : Of_C.valid Try.prog 67 := qxu (fun _ => rfl) (fun _ => rfl) fun a hp θ v F vs w K hM hB hv => by
 obtain ⟨v1, vs, rfl, h1, v2, vs, rfl, h2, hnil⟩ := hv
 have hnil' : vs = [] := hnil
 subst hnil'
 refine (Of_c hM hB (qdB (t := .int .i64) h1 rfl) (qdB (t := .sl (.sl .byte)) h2 rfl) hp).mono ?_
 rintro ed w' ⟨K', r0, F0, rfl, hE, hM', hr, hB', hg⟩
 exact ⟨K', [r0], F0, rfl, hE, hM', fun θ' => qr4 (SVal.of_rel (t := .arr 32 .byte) hr), hB', hg⟩
end Go.Proofs.Ytmjjkpiglbpkhaa

set_option linter.unusedVariables false
set_option maxRecDepth 100000
set_option maxHeartbeats 20000000
namespace Go.Proofs.Ytmjjkpiglbpkhaa
open Go Go.RowKit Go.Inc
noncomputable def qf6 : Ctr := ⟨[.v (.int .i64)], [.v (.int .i64)], none, fun a => (fun (a0_n : Int) => ((((half a0_n.toNat : Nat) : Int), ()), (()))) a.1⟩
noncomputable def qsB : Fx := ⟨seat, some bkT, fns, [], [], [], []⟩
def qky (a0_n : Int) (Q : Int → Prop) : Prop :=
 (a0_n < (2 : Int) → Q (0 : Int)) ∧ (¬a0_n < (2 : Int) → ∃ (x0 : Int → Prop), ∃ (x1 : Int → Nat), x0 (1 : Int) ∧ ∀ (x2 : Int), x0 x2 → (Kd.int IntKind.i64).wf x2 → (x2 ≤ IntKind.i64.wrap ((IntKind.i64.wrap (a0_n - (1 : Int))).tdiv (2 : Int)) → x0 (IntKind.i64.wrap (x2 * (2 : Int))) ∧ x1 (IntKind.i64.wrap (x2 * (2 : Int))) < x1 x2) ∧ (¬x2 ≤ IntKind.i64.wrap ((IntKind.i64.wrap (a0_n - (1 : Int))).tdiv (2 : Int)) → Q x2))
theorem qtt {a0_n : Int} (w_0 : (Ty.kd (.int .i64)).wf a0_n) : qky a0_n (fun o0 => o0 = ((half a0_n.toNat : Nat) : Int)) := by
 have hn1 : a0_n ≤ 9223372036854775807 := w_0.2
 unfold qky
 refine ⟨fun h => ?_, fun h => ?_⟩
 ·rw [qne (by omega)]
  rfl
 ·have e1 : IntKind.i64.wrap (a0_n - 1) = a0_n - 1 := qan (wf64 (by omega) (by omega))
  have e2 : (a0_n - 1).tdiv 2 = (a0_n - 1) / 2 := Int.tdiv_eq_ediv_of_nonneg (by omega)
  have e3 : IntKind.i64.wrap ((a0_n - 1) / 2) = (a0_n - 1) / 2 := qan (wf64 (by omega) (by omega))
  rw [e1, e2, e3]
  refine ⟨fun h => ∃ j p : Nat, p = 2 ^ j ∧ h = (p : Int) ∧ (p : Int) < a0_n, fun h => (a0_n - h).toNat, ⟨0, 1, rfl, rfl, by omega⟩, ?_⟩
  rintro x ⟨j, p, hp, rfl, hlt⟩ _
  have hp1 : 1 ≤ p := by rw [hp]; exact Nat.one_le_two_pow
  refine ⟨fun hle => ?_, fun hgt => ?_⟩
  ·have e4 : IntKind.i64.wrap ((p : Int) * 2) = ((2 * p : Nat) : Int) := by
    rw [qan (wf64 (by omega) (by omega))]
    omega
   rw [e4]
   exact ⟨⟨j + 1, 2 * p, by rw [hp, Nat.pow_succ]; omega, rfl, by omega⟩, by show (a0_n - ((2 * p : Nat) : Int)).toNat < (a0_n - (p : Int)).toNat; omega⟩
  ·have := qut (n := a0_n.toNat) (j := j) (by rw [← hp]; omega) (by rw [Nat.pow_succ, ← hp]; omega)
   show (p : Int) = ((half a0_n.toNat : Nat) : Int)
   rw [this, ← hp]
theorem qts : (∀ a, qf6.pre a → PM.wfP qf6.pm a (fvc qsB 200 105 qf6 a (eqO qf6 a))) = (∀ a : Int × Unit, True → (Ty.kd (.int .i64)).wf a.1 → qky a.1 (fun o0 => o0 = ((half (a.1).toNat : Nat) : Int))) := by kernel_rfl
theorem qnQ : qf6.valid Try.prog 105 := qat (X := qsB) (qaK qam (fun b hb => by cases hb; exact qar) qas trivial) 200 (qts.mpr fun a hp w_0 => @qtt a.1 w_0)
noncomputable def qeJ : Ctr := ⟨[.bk 146 true, .v (.sl (.arr 32 .byte))], [.v (.arr 32 .byte)], some (fun a => (fun (a0_k : qak) (a1_l : List (List UInt8)) => (a1_l.length ≤ 1048576 ∧ qaJ a0_k : Prop)) a.1 a.2.1), fun a => (fun (a0_k : qak) (a1_l : List (List UInt8)) => (((qaw 2 a1_l), ()), ((qaC a0_k 2 a1_l), ()))) a.1 a.2.1⟩
noncomputable def qp5 : Fx := ⟨seat, some bkT, fns, [(67, Of_C)], [], [], []⟩
def qjj (a0_k : qak) (a1_l : List (List UInt8)) (Q : (List UInt8) → qak → Prop) : Prop :=
 ∃ (x0 : List (List UInt8) → Int → Prop), ∃ (x1 : List (List UInt8) → Int → Nat), x0 ([] : List (List UInt8)) (0 : Int) ∧ ∀ (x2 : List (List UInt8)) (x3 : Int), x0 x2 x3 → Ty.byte.sl.kd.sl.wf x2 → (Kd.int IntKind.i64).wf x3 → (x3 < (a1_l.length : Int) → ((0 : Int) ≤ x3 ∧ x3 < (a1_l.length : Int)) ∧ (x2.length + (ix a1_l x3 :: ([] : List (List UInt8))).length) * (24 : Nat) ≤ (140737488355328 : Nat) ∧ x3 < (9223372036854775807 : Int) ∧ x0 (x2 ++ ix a1_l x3 :: ([] : List (List UInt8))) (x3 + (1 : Int)) ∧ x1 (x2 ++ ix a1_l x3 :: ([] : List (List UInt8))) (x3 + (1 : Int)) < x1 x2 x3) ∧ (¬x3 < (a1_l.length : Int) → ((1 : Nat) + qaj x2 ≤ (140737488355328 : Nat) ∧ qaJ a0_k) ∧ ((Ty.arr (32 : Nat) Ty.byte).kd.wf (qaw (2 : Int) x2) → Q (qaw (2 : Int) x2) (qaC a0_k (2 : Int) x2)))
theorem qsk {a0_k : qak} {a1_l : List (List UInt8)} (w_0 : (Ty.kd (.sl (.arr 32 .byte))).wf a1_l) (hp : a1_l.length ≤ 1048576 ∧ qaJ a0_k) : qjj a0_k a1_l (fun o0 o1 => o0 = (qaw 2 a1_l) ∧ o1 = (qaC a0_k 2 a1_l)) := by
 unfold qjj
 refine ⟨fun parts i => ∃ j : Nat, i = (j : Int) ∧ j ≤ a1_l.length ∧ parts = a1_l.take j, fun _ i => a1_l.length - i.toNat, ⟨0, rfl, by omega, rfl⟩, ?_⟩
 rintro parts i ⟨j, rfl, hj, rfl⟩ _ _
 have hp1 := hp.1
 refine ⟨fun hlt => ⟨⟨by omega, hlt⟩, by simp only [List.length_take, List.length_cons, List.length_nil]; omega, by omega, ⟨j + 1, by omega, by omega, (qbp hlt).symm⟩, by show a1_l.length - ((j : Int) + 1).toNat < a1_l.length - (j : Int).toNat; omega⟩, fun hge => ?_⟩
 have : j = a1_l.length := by omega
 subst this
 rw [List.take_length]
 have hr := qhQ (l := a1_l) (fun x hx => (w_0.2 x hx).1)
 exact ⟨⟨by omega, hp.2⟩, fun _ => ⟨rfl, rfl⟩⟩
theorem qsj : (∀ a, qeJ.pre a → PM.wfP qeJ.pm a (fvc qp5 200 104 qeJ a (eqO qeJ a))) = (∀ a : qak × (List (List UInt8)) × Unit, ((a.2.1).length ≤ 1048576 ∧ qaJ (a.1)) → (Ty.kd (.sl (.arr 32 .byte))).wf a.2.1 → qjj a.1 a.2.1 (fun o0 o1 => o0 = (qaw 2 (a.2.1)) ∧ o1 = (qaC (a.1) 2 (a.2.1)))) := by kernel_rfl
theorem qp6 : qeJ.valid Try.prog 104 := qat (X := qp5) (qaK qam (fun b hb => by cases hb; exact qar) qas ⟨Of_k, trivial⟩) 200 (qsj.mpr fun a hp w_0 => @qsk a.1 a.2.1 w_0 hp)
noncomputable def qlP : Ctr := ⟨[.bk 146 true, .v (.sl (.arr 32 .byte))], [.v (.arr 32 .byte)], some (fun a => (fun (a0_k : qak) (a1_l : List (List UInt8)) => (a1_l.length ≤ 1048576 ∧ qah a0_k a1_l.length : Prop)) a.1 a.2.1), fun a => (fun (a0_k : qak) (a1_l : List (List UInt8)) => (((qaL a1_l), ()), ((qaV a0_k a1_l), ()))) a.1 a.2.1⟩
noncomputable def qfs (nn : Nat) : Ctr := ⟨[.bk 146 true, .v (.sl (.arr 32 .byte))], [.v (.arr 32 .byte)], some (fun a => (fun (a0_k : qak) (a1_l : List (List UInt8)) => ((a1_l.length ≤ 1048576 ∧ qah a0_k a1_l.length) ∧ a1_l.length < nn : Prop)) a.1 a.2.1), fun a => (fun (a0_k : qak) (a1_l : List (List UInt8)) => (((qaL a1_l), ()), ((qaV a0_k a1_l), ()))) a.1 a.2.1⟩
noncomputable def qsF (nn : Nat) : Fx := ⟨seat, some bkT, fns, [(58, qfs nn), (104, qeJ), (105, qf6)], [], [], [(8, [0, 1], [.o 0 3, .o 1 3, .o 2 2, .o 3 2, .o 4 2, .o 5 2, .o 6 1, .o 7 1, .o 8 1, .o 9 1])]⟩
def qkJ (nn : Nat) (a0_k : qak) (a1_l : List (List UInt8)) (Q : (List UInt8) → qak → Prop) : Prop :=
 ((a1_l.length : Int) = (0 : Int) → (([] : List (List UInt8)).length ≤ (1048576 : Nat) ∧ qaJ a0_k) ∧ ((Ty.arr (32 : Nat) Ty.byte).kd.wf (qaw (2 : Int) ([] : List (List UInt8))) → Q (qaw (2 : Int) ([] : List (List UInt8))) (qaC a0_k (2 : Int) ([] : List (List UInt8))))) ∧ (¬(a1_l.length : Int) = (0 : Int) → ((a1_l.length : Int) = (1 : Int) → ((0 : Int) ≤ (0 : Int) ∧ (0 : Int) < (a1_l.length : Int)) ∧ Q (ix a1_l (0 : Int)) a0_k) ∧ (¬(a1_l.length : Int) = (1 : Int) → (Ty.int IntKind.i64).kd.wf (half (a1_l.length : Int).toNat : Int) → ((0 : Int) ≤ (half (a1_l.length : Int).toNat : Int) ∧ (half (a1_l.length : Int).toNat : Int) ≤ (a1_l.length : Int)) ∧ (((List.take (half (a1_l.length : Int).toNat : Int).toNat a1_l).length ≤ (1048576 : Nat) ∧ qah a0_k (List.take (half (a1_l.length : Int).toNat : Int).toNat a1_l).length) ∧ (List.take (half (a1_l.length : Int).toNat : Int).toNat a1_l).length < nn) ∧ ((Ty.arr (32 : Nat) Ty.byte).kd.wf (qaL (List.take (half (a1_l.length : Int).toNat : Int).toNat a1_l)) → ((0 : Int) ≤ (half (a1_l.length : Int).toNat : Int) ∧ (half (a1_l.length : Int).toNat : Int) ≤ (a1_l.length : Int)) ∧ (((List.drop (half (a1_l.length : Int).toNat : Int).toNat a1_l).length ≤ (1048576 : Nat) ∧ qah (qaV a0_k (List.take (half (a1_l.length : Int).toNat : Int).toNat a1_l)) (List.drop (half (a1_l.length : Int).toNat : Int).toNat a1_l).length) ∧ (List.drop (half (a1_l.length : Int).toNat : Int).toNat a1_l).length < nn) ∧ ((Ty.arr (32 : Nat) Ty.byte).kd.wf (qaL (List.drop (half (a1_l.length : Int).toNat : Int).toNat a1_l)) → ((qaL (List.take (half (a1_l.length : Int).toNat : Int).toNat a1_l) :: qaL (List.drop (half (a1_l.length : Int).toNat : Int).toNat a1_l) :: ([] : List (List UInt8))).length ≤ (1048576 : Nat) ∧ qaJ (qaV (qaV a0_k (List.take (half (a1_l.length : Int).toNat : Int).toNat a1_l)) (List.drop (half (a1_l.length : Int).toNat : Int).toNat a1_l))) ∧ ((Ty.arr (32 : Nat) Ty.byte).kd.wf (qaw (2 : Int) (qaL (List.take (half (a1_l.length : Int).toNat : Int).toNat a1_l) :: qaL (List.drop (half (a1_l.length : Int).toNat : Int).toNat a1_l) :: ([] : List (List UInt8)))) → Q (qaw (2 : Int) (qaL (List.take (half (a1_l.length : Int).toNat : Int).toNat a1_l) :: qaL (List.drop (half (a1_l.length : Int).toNat : Int).toNat a1_l) :: ([] : List (List UInt8)))) (qaC (qaV (qaV a0_k (List.take (half (a1_l.length : Int).toNat : Int).toNat a1_l)) (List.drop (half (a1_l.length : Int).toNat : Int).toNat a1_l)) (2 : Int) (qaL (List.take (half (a1_l.length : Int).toNat : Int).toNat a1_l) :: qaL (List.drop (half (a1_l.length : Int).toNat : Int).toNat a1_l) :: ([] : List (List UInt8)))))))))
theorem qtR {nn : Nat} {a0_k : qak} {a1_l : List (List UInt8)} (w_0 : (Ty.kd (.sl (.arr 32 .byte))).wf a1_l) (hp : (a1_l.length ≤ 1048576 ∧ qah a0_k a1_l.length) ∧ a1_l.length < nn + 1) : qkJ nn a0_k a1_l (fun o0 o1 => o0 = (qaL a1_l) ∧ o1 = (qaV a0_k a1_l)) := by
 unfold qkJ
 simp only [Int.toNat_natCast]
 refine ⟨fun h => ⟨⟨by simp, hp.1.2.room⟩, fun _ => ?_⟩, fun h => ⟨fun h1 => ⟨⟨by omega, by omega⟩, ?_⟩, fun h1 _ => ?_⟩⟩
 ·have e : a1_l = [] := List.length_eq_zero_iff.1 (by omega)
  subst e
  rw [qke, qbe]
  exact ⟨rfl, rfl⟩
 ·obtain ⟨x, rfl⟩ := List.length_eq_one_iff.1 (by omega : a1_l.length = 1)
  rw [qe5, qbV]
  exact ⟨rfl, rfl⟩
 ·have b2 : 2 ≤ a1_l.length := by omega
  have a1 := qaZ b2
  have a2 := qbg b2
  have hp1 := hp.1.1
  have hp2 := hp.2
  have l1 : (a1_l.take (half a1_l.length)).length = half a1_l.length := by rw [List.length_take]; omega
  have l2 : (a1_l.drop (half a1_l.length)).length = a1_l.length - half a1_l.length := List.length_drop
  have u1 : qah a0_k (a1_l.take (half a1_l.length)).length := hp.1.2.le (by omega)
  have u2 : qah (qaV a0_k (a1_l.take (half a1_l.length))) (a1_l.drop (half a1_l.length)).length := qah.root _ (Nat.le_refl _) (by omega) (hp.1.2.le (by omega))
  have u3 := (qah.root (n := 0) (l := a1_l.drop (half a1_l.length)) _ (Nat.le_refl _) (by omega) (u2.le (by omega))).room
  refine ⟨⟨by omega, by omega⟩, ⟨⟨by omega, u1⟩, by omega⟩, fun _ => ⟨⟨by omega, by omega⟩, ⟨⟨by omega, u2⟩, by omega⟩, fun _ => ⟨⟨by simp, u3⟩, fun _ => ?_⟩⟩⟩
  rw [qde b2, qbG _ b2]
  exact ⟨rfl, rfl⟩
theorem qtQ (nn : Nat) : (∀ a, (qfs (nn + 1)).pre a → PM.wfP (qfs (nn + 1)).pm a (fvc (qsF nn) 200 58 (qfs (nn + 1)) a (eqO (qfs (nn + 1)) a))) = (∀ a : qak × (List (List UInt8)) × Unit, (((a.2.1).length ≤ 1048576 ∧ qah (a.1) (a.2.1).length) ∧ (a.2.1).length < nn + 1) → (Ty.kd (.sl (.arr 32 .byte))).wf a.2.1 → qkJ nn a.1 a.2.1 (fun o0 o1 => o0 = (qaL (a.2.1)) ∧ o1 = (qaV (a.1) (a.2.1)))) := by kernel_rfl
theorem qof : ∀ nn, (qfs nn).valid Try.prog 58
 | 0 => fun a hp => absurd (And.right hp) (Nat.not_lt_zero _)
 | nn + 1 => qat (X := qsF nn) (qaK qam (fun b hb => by cases hb; exact qar) qas ⟨qof nn, qp6, qnQ, trivial⟩) 200 ((qtQ nn).mpr fun a hp w_0 => @qtR nn a.1 a.2.1 w_0 hp)
theorem qlQ : qlP.valid Try.prog 58 := qqo qof (fun a hp => ⟨_, And.intro hp (Nat.lt_succ_self _)⟩)
noncomputable def qiw : Ctr := ⟨[.nil, .v (.sl (.arr 32 .byte))], [.v (.arr 32 .byte)], some (fun a => (fun (a1_l : List (List UInt8)) => (a1_l.length ≤ 1048576 : Prop)) a.2.1), fun a => (fun (a1_l : List (List UInt8)) => (((qaL a1_l), ()), (()))) a.2.1⟩
theorem qkI : qiw.valid Try.prog 58 :=
 qwy qlQ (fun _ => rfl) (fun a θ θ' n n' K vs h => by
  obtain ⟨v0, vs, rfl, h0, h⟩ := h
  exact ⟨v0, _, rfl, SVal.of_rel (t := .sl (.arr 32 .byte)) (qdB (t := .sl (.arr 32 .byte)) h0 rfl), h⟩) (fun _ => rfl) (fun a hp => ⟨hp, fun y h => by cases h⟩) (fun a _ => rfl)
noncomputable def qdY : Ctr := ⟨[.v (.int .i64), .v (.int .i64)], [.v .bool], none, fun a => (fun (a0_n : Int) (a1_at : Int) => ((decide (0 ≤ a1_at ∧ a1_at < a0_n), ()), (()))) a.1 a.2.1⟩
noncomputable def qp0 : Fx := ⟨seat, some bkT, fns, [], [], [], []⟩
def qji (a0_n : Int) (a1_at : Int) (Q : Bool → Prop) : Prop :=
 ((0 : Int) ≤ a1_at → Q (decide (a1_at < a0_n))) ∧ (¬(0 : Int) ≤ a1_at → Q false)
theorem qsf {a0_n : Int} {a1_at : Int} (w_0 : (Ty.kd (.int .i64)).wf a0_n) (w_1 : (Ty.kd (.int .i64)).wf a1_at) : qji a0_n a1_at (fun o0 => o0 = decide (0 ≤ a1_at ∧ a1_at < a0_n)) := by
 unfold qji
 exact ⟨fun h => by simp [h], fun h => by simp [h]⟩
theorem qse : (∀ a, qdY.pre a → PM.wfP qdY.pm a (fvc qp0 200 115 qdY a (eqO qdY a))) = (∀ a : Int × Int × Unit, True → (Ty.kd (.int .i64)).wf a.1 → (Ty.kd (.int .i64)).wf a.2.1 → qji a.1 a.2.1 (fun o0 => o0 = decide (0 ≤ (a.2.1) ∧ (a.2.1) < (a.1)))) := by kernel_rfl
theorem qlt : qdY.valid Try.prog 115 := qat (X := qp0) (qaK qam (fun b hb => by cases hb; exact qar) qas trivial) 200 (qse.mpr fun a hp w_0 w_1 => @qsf a.1 a.2.1 w_0 w_1)
noncomputable def qdV : ICtr := ⟨fun xs => match xs with
 | [a0_n, a1_at] => (0 ≤ a1_at ∧ a1_at < a0_n : Prop)
 | _ => False, fun xs => match xs with
 | [a0_n, a1_at] => (qaE a0_n.toNat a1_at.toNat : List Int)
 | _ => []⟩
noncomputable def qpY : Fx := ⟨seat, some bkT, fns, [(105, qf6)], [], [], [(7, [0], [.o 0 2, .o 1 2, .o 2 2, .o 3 3, .o 4 3, .o 5 3, .o 6 1, .z 7])]⟩
def qjg (a0_n : Int) (a1_at : Int) : Prop :=
 ∃ (x0 : Nat → List Int → Prop), ∃ (x1 : List Int → Nat), x0 (0 : Nat) (a0_n :: a1_at :: ([] : List Int)) ∧ ∀ (x2 x3 : Nat) (x4 : Int), (Kd.int IntKind.i64).wf x4 → ∀ (x6 : Int), (Kd.int IntKind.i64).wf x6 → x0 x3 (x4 :: x6 :: ([] : List Int)) → ((1 : Int) < x4 → (Ty.int IntKind.i64).kd.wf (half x4.toNat : Int) → ((half x4.toNat : Int) ≤ x6 → (x2 = x2 ∧ (qaE a0_n.toNat a1_at.toNat)[x3]? = some (1 : Int)) ∧ x2 = x2 ∧ x0 (x3 + (1 : Nat)) (IntKind.i64.wrap (x4 - (half x4.toNat : Int)) :: IntKind.i64.wrap (x6 - (half x4.toNat : Int)) :: ([] : List Int)) ∧ x1 (IntKind.i64.wrap (x4 - (half x4.toNat : Int)) :: IntKind.i64.wrap (x6 - (half x4.toNat : Int)) :: ([] : List Int)) < x1 (x4 :: x6 :: ([] : List Int))) ∧ (¬(half x4.toNat : Int) ≤ x6 → (x2 = x2 ∧ (qaE a0_n.toNat a1_at.toNat)[x3]? = some (0 : Int)) ∧ x2 = x2 ∧ x0 (x3 + (1 : Nat)) ((half x4.toNat : Int) :: x6 :: ([] : List Int)) ∧ x1 ((half x4.toNat : Int) :: x6 :: ([] : List Int)) < x1 (x4 :: x6 :: ([] : List Int)))) ∧ (¬(1 : Int) < x4 → x3 = (qaE a0_n.toNat a1_at.toNat).length)
theorem qmJ {a0_n : Int} {a1_at : Int} (hp : 0 ≤ a1_at ∧ a1_at < a0_n) : (∀ x ∈ (qaE a0_n.toNat a1_at.toNat : List Int), (Kd.int .i64).wf x) ∧ qjg a0_n a1_at := by
 refine ⟨fun x hx => ?_, ?_⟩
 ·rcases qfX _ (Nat.le_refl _) x hx with rfl | rfl <;> exact wf64 (by omega) (by omega)
 unfold qjg
 refine ⟨fun j ys => (∀ y ∈ ys, (Kd.int .i64).wf y) → sdI a0_n (qaE a0_n.toNat a1_at.toNat) j (ys.getD 0 0) (ys.getD 1 0), fun ys => (ys.getD 0 0).toNat, fun _ => ⟨hp.1, hp.2, Int.le_refl _, Nat.zero_le _, rfl⟩, ?_⟩
 intro x2 j n hn a ha hI
 have hI : sdI a0_n (qaE a0_n.toNat a1_at.toNat) j n a := hI (by
  intro y hy
  rcases List.mem_cons.1 hy with rfl | hy
  ·exact hn
  rcases List.mem_cons.1 hy with rfl | hy
  ·exact ha
  ·cases hy)
 have hn1 := hn.1
 have hn2 := hn.2
 have ha1 := ha.1
 have ha2 := ha.2
 refine ⟨fun hlt _ => ?_, fun hge => quP hI hge⟩
 obtain ⟨b1, b2, b3, b4, b5⟩ := qr8 hI hlt
 have c1 := hI.1
 have c2 := hI.2.1
 refine ⟨fun hle => ?_, fun hgt => ?_⟩
 ·obtain ⟨d1, d2⟩ := b4 hle
  have e1 : IntKind.i64.wrap (n - ((half n.toNat : Nat) : Int)) = n - ((half n.toNat : Nat) : Int) := qan (wf64 (by have : (IntKind.i64.min : Int) = -9223372036854775808 := rfl; omega) (by have : (IntKind.i64.max : Int) = 9223372036854775807 := rfl; omega))
  have e2 : IntKind.i64.wrap (a - ((half n.toNat : Nat) : Int)) = a - ((half n.toNat : Nat) : Int) := qan (wf64 (by omega) (by have : (IntKind.i64.max : Int) = 9223372036854775807 := rfl; omega))
  rw [e1, e2]
  refine ⟨⟨rfl, d1⟩, ?_⟩
  have g : x2 = x2 ∧ ((∀ y ∈ ([n - ((half n.toNat : Nat) : Int), a - ((half n.toNat : Nat) : Int)] : List Int), (Kd.int .i64).wf y) → sdI a0_n (qaE a0_n.toNat a1_at.toNat) (j + 1) (n - ((half n.toNat : Nat) : Int)) (a - ((half n.toNat : Nat) : Int))) ∧ (n - ((half n.toNat : Nat) : Int)).toNat < n.toNat := ⟨rfl, fun _ => d2, by omega⟩
  exact g
 ·obtain ⟨d1, d2⟩ := b5 hgt
  exact ⟨⟨rfl, d1⟩, rfl, fun _ => d2, by show ((half n.toNat : Nat) : Int).toNat < n.toNat; omega⟩
theorem qsa (a0_n : Int) (a1_at : Int) : (itVC qpY 200 131 qdV [a0_n, a1_at]) = qjg a0_n a1_at := by kernel_rfl
theorem qlq : qdV.valid Try.prog 131 := quy (X := qpY) (fuel := 200) (qaK qam (fun b hb => by cases hb; exact qar) qas ⟨qnQ, trivial⟩) fun xs hp => match xs, hp with
 | [a0_n, a1_at], hp => ⟨(qmJ hp).1, (qsa a0_n a1_at).mpr (qmJ hp).2⟩
 | [], hp => hp.elim
 | [_], hp => hp.elim
 | _ :: _ :: _ :: _, hp => hp.elim
noncomputable def qfe : Ctr := ⟨[.v (.int .i64), .v (.int .i64)], [.v (.int .i64)], none, fun a => (fun (a0_n : Int) (a1_at : Int) => (((qc5 a0_n a1_at), ()), (()))) a.1 a.2.1⟩
noncomputable def qnI : Fx := ⟨seat, some bkT, fns, [(115, qdY)], [117, 118, 130], [(3, [3], [])], []⟩
def qij (a0_n : Int) (a1_at : Int) (Q : Int → Prop) : Prop :=
 (¬decide ((0 : Int) ≤ a1_at ∧ a1_at < a0_n) = true → Q (0 : Int)) ∧ (decide ((0 : Int) ≤ a1_at ∧ a1_at < a0_n) = true → ((0 : Int) ≤ a1_at ∧ a1_at < a0_n) ∧ ∃ (x0 : Nat → List Int → Unit → Prop), x0 (0 : Nat) ([] : List Int) (Ty.hsl (3 : Nat) (Ty.int IntKind.i64)).kd.z ∧ (∀ (x1 : Nat) (x2 : Int), (qaE a0_n.toNat a1_at.toNat)[x1]? = some x2 → (Kd.int IntKind.i64).wf x2 → ∀ (x5 : List Int) (x6 : Unit), x0 x1 x5 x6 → (Ty.int IntKind.i64).kd.sl.wf x5 → (x5.length + (x2 :: ([] : List Int)).length) * (8 : Nat) ≤ (140737488355328 : Nat) ∧ x0 (x1 + (1 : Nat)) (x5 ++ x2 :: ([] : List Int)) x6) ∧ ∀ (x1 : List Int) (x2 : Unit), x0 (qaE a0_n.toNat a1_at.toNat).length x1 x2 → (Ty.int IntKind.i64).kd.sl.wf x1 → Q (x1.length : Int))
theorem qqw {a0_n : Int} {a1_at : Int} (w_0 : (Ty.kd (.int .i64)).wf a0_n) (w_1 : (Ty.kd (.int .i64)).wf a1_at) : qij a0_n a1_at (fun o0 => o0 = (qc5 a0_n a1_at)) := by
 have hn1 : a0_n ≤ 9223372036854775807 := w_0.2
 unfold qij
 refine ⟨fun h => ?_, fun h => ?_⟩
 ·have h' : ¬ ((0 : Int) ≤ a1_at ∧ a1_at < a0_n) := fun hh => h (decide_eq_true hh)
  show (0 : Int) = qc5 a0_n a1_at
  rw [qc5, if_neg h']
 ·have h' := of_decide_eq_true h
  refine ⟨h', fun j l _ => l = (qaE a0_n.toNat a1_at.toNat).take j, rfl, ?_, ?_⟩
  ·rintro j x hx _ l u rfl hw
   have hj := (List.getElem?_eq_some_iff.1 hx).1
   have hlen := qcj 63 (n := a0_n.toNat) (a := a1_at.toNat) (by omega)
   refine ⟨by rw [List.length_take]; simp only [List.length_cons, List.length_nil]; omega, ?_⟩
   show List.take j _ ++ [x] = List.take (j + 1) _
   rw [List.take_add_one, hx]
   rfl
  ·rintro l u rfl _
   show ((List.take _ (qaE a0_n.toNat a1_at.toNat)).length : Int) = qc5 a0_n a1_at
   rw [List.take_length, qc5, if_pos h']
theorem qqv : (∀ a, qfe.pre a → PM.wfP qfe.pm a (fvcR qnI [(131, qdV)] 200 116 qfe a (eqO qfe a))) = (∀ a : Int × Int × Unit, True → (Ty.kd (.int .i64)).wf a.1 → (Ty.kd (.int .i64)).wf a.2.1 → qij a.1 a.2.1 (fun o0 => o0 = (qc5 (a.1) (a.2.1)))) := by kernel_rfl
theorem qth : qfe.valid Try.prog 116 := qkZ (X := qnI) (qaK qam (fun b hb => by cases hb; exact qar) qas ⟨qlt, trivial⟩) (its := [(131, qdV)]) ⟨qlq, trivial⟩ 200 (qqv.mpr fun a hp w_0 w_1 => @qqw a.1 a.2.1 w_0 w_1)
noncomputable def qfq : Ctr := ⟨[.rw 24 (.arr 32 .byte) true], [], none, fun a => (fun (a0_s : List (List UInt8)) => ((()), (a0_s.reverse, ()))) a.1⟩
noncomputable def qod : Fx := ⟨seat, some bkT, fns, [], [], [(1, [0], [])], [(3, [0], [.o 0 2, .o 1 2, .o 2 3, .o 3 3, .o 4 2, .o 5 2, .o 6 2, .o 7 2, .o 8 2, .o 9 2, .o 10 2, .o 11 2, .o 12 2, .o 13 1, .o 14 3, .o 15 1])]⟩
def qiv (a0_s : List (List UInt8)) (Q : (List (List UInt8)) → Prop) : Prop :=
 ∃ (x0 : Int → Int → List (List UInt8) → Prop), ∃ (x1 : Int → Int → List (List UInt8) → Nat), x0 (0 : Int) (IntKind.i64.wrap ((a0_s.length : Int) - (1 : Int))) a0_s ∧ ∀ (x2 x3 : Int) (x4 : List (List UInt8)), x0 x2 x3 x4 → (Kd.int IntKind.i64).wf x2 → (Kd.int IntKind.i64).wf x3 → (Ty.arr (32 : Nat) Ty.byte).kd.sl.wf x4 → (x2 < x3 → ((0 : Int) ≤ x3 ∧ x3 < (x4.length : Int)) ∧ ((0 : Int) ≤ x2 ∧ x2 < (x4.length : Int)) ∧ ((0 : Int) ≤ x2 ∧ x2 < (x4.length : Int)) ∧ ((0 : Int) ≤ x3 ∧ x3 < ((x4.set x2.toNat (ix x4 x3)).length : Int)) ∧ x2 < (9223372036854775807 : Int) ∧ x0 (x2 + (1 : Int)) (IntKind.i64.wrap (x3 - (1 : Int))) ((x4.set x2.toNat (ix x4 x3)).set x3.toNat (ix x4 x2)) ∧ x1 (x2 + (1 : Int)) (IntKind.i64.wrap (x3 - (1 : Int))) ((x4.set x2.toNat (ix x4 x3)).set x3.toNat (ix x4 x2)) < x1 x2 x3 x4) ∧ (¬x2 < x3 → Q x4)
theorem qqY {a0_s : List (List UInt8)} (w_0 : (Ty.kd (.sl (.arr 32 .byte))).wf a0_s) : qiv a0_s (fun o0 => o0 = a0_s.reverse) := by
 have hL : a0_s.length ≤ LM := w_0.1
 unfold LM at hL
 unfold qiv
 refine ⟨fun i j x => ∃ k : Nat, i = (k : Int) ∧ j = (a0_s.length : Int) - 1 - (k : Int) ∧ 2 * k ≤ a0_s.length + 1 ∧ x.length = a0_s.length ∧ ∀ t, t < a0_s.length → x[t]? = if t < k ∨ a0_s.length ≤ t + k then a0_s[a0_s.length - 1 - t]? else a0_s[t]?, fun i j _ => (j - i + 1).toNat,
  ⟨0, rfl, by rw [qan (wf64 (by omega) (by omega))]; omega, by omega, rfl, fun t ht => by rw [if_neg (by omega)]⟩, ?_⟩
 rintro i j x ⟨k, rfl, rfl, hk, hl, hx⟩ _ _ _
 refine ⟨fun hlt => ?_, fun hge => ?_⟩
 ·have hk1 : k < a0_s.length - 1 - k := by omega
  have ej : (a0_s.length : Int) - 1 - (k : Int) = ((a0_s.length - 1 - k : Nat) : Int) := by omega
  have ew : IntKind.i64.wrap ((a0_s.length : Int) - 1 - (k : Int) - 1) = (a0_s.length : Int) - 1 - ((k + 1 : Nat) : Int) := by
   rw [qan (wf64 (by omega) (by omega))]
   omega
  rw [ew, ej]
  simp only [Int.toNat_natCast]
  have hxk := hx k (by omega)
  rw [if_neg (by omega)] at hxk
  have hxj := hx (a0_s.length - 1 - k) (by omega)
  rw [if_neg (by omega)] at hxj
  have i0 : some (ix x (k : Int)) = a0_s[k]? := by rw [ixN (by omega), ← List.getElem?_eq_getElem, hxk]
  have i1 : some (ix x ((a0_s.length - 1 - k : Nat) : Int)) = a0_s[a0_s.length - 1 - k]? := by rw [ixN (by omega), ← List.getElem?_eq_getElem, hxj]
  refine ⟨⟨by omega, by omega⟩, ⟨by omega, by omega⟩, ⟨by omega, by omega⟩, ⟨by omega, by rw [List.length_set]; omega⟩, by omega, ⟨k + 1, by omega, rfl, by omega, by rw [List.length_set, List.length_set, hl], fun t ht => ?_⟩, ?_⟩
  ·by_cases t1 : a0_s.length - 1 - k = t
   ·subst t1
    rw [List.getElem?_set_self (by rw [List.length_set]; omega), i0, if_pos (by omega)]
    congr 1
    omega
   ·rw [List.getElem?_set_ne t1]
    by_cases t2 : k = t
    ·subst t2
     rw [List.getElem?_set_self (by omega), i1, if_pos (by omega)]
    ·rw [List.getElem?_set_ne t2, hx t ht]
     have : (t < k ∨ a0_s.length ≤ t + k) ↔ (t < k + 1 ∨ a0_s.length ≤ t + (k + 1)) := by omega
     simp only [this]
  ·show ((a0_s.length : Int) - 1 - ((k + 1 : Nat) : Int) - ((k : Int) + 1) + 1).toNat < (((a0_s.length - 1 - k : Nat) : Int) - (k : Int) + 1).toNat
   omega
 ·show x = a0_s.reverse
  apply List.ext_getElem?
  intro t
  rcases Nat.lt_or_ge t a0_s.length with ht | ht
  ·rw [hx t ht, List.getElem?_reverse ht]
   split
   ·rfl
   ·have : t = a0_s.length - 1 - t := by omega
    exact congrArg (fun q => a0_s[q]?) this
  ·rw [List.getElem?_eq_none (by omega), List.getElem?_eq_none (by rw [List.length_reverse]; omega)]
theorem qqX : (∀ a, qfq.pre a → PM.wfP qfq.pm a (fvc qod 200 119 qfq a (eqO qfq a))) = (∀ a : (List (List UInt8)) × Unit, True → (Ty.kd (.sl (.arr 32 .byte))).wf a.1 → qiv a.1 (fun o0 => o0 = (a.1).reverse)) := by kernel_rfl
theorem qtP : qfq.valid Try.prog 119 := qat (X := qod) (qaK qam (fun b hb => by cases hb; exact qar) qas trivial) 200 (qqX.mpr fun a hp w_0 => @qqY a.1 w_0)
noncomputable def qfj : Ctr := ⟨[.nil, .v (.sl (.arr 32 .byte)), .v (.int .i64)], [.rw 24 (.arr 32 .byte)], some (fun a => (fun (a1_l : List (List UInt8)) (a2_at : Int) => (a1_l.length ≤ 1048576 : Prop)) a.2.1 a.2.2.1), fun a => (fun (a1_l : List (List UInt8)) (a2_at : Int) => (((qbP a1_l a2_at), ()), (()))) a.2.1 a.2.2.1⟩
noncomputable def qnW : Fx := ⟨{ seat with rws := [24] }, some bkT, fns, [(115, qdY), (105, qf6), (58, qiw), (58, qlP), (119, qfq)], [118], [(6, [2, 4], [])], [(8, [4, 7], [.o 0 2, .o 1 2, .o 2 2, .o 3 2, .o 4 2, .o 8 3, .o 9 3, .o 10 3, .o 5 0, .o 6 0, .o 7 1, .o 11 1, .z 12]), (9, [4, 7], [.o 0 2, .o 1 2, .o 2 2, .o 3 2, .o 4 2, .o 8 3, .o 9 3, .o 10 3, .o 5 0, .o 6 0, .o 7 1, .o 11 1, .z 12])]⟩
def qip (a1_l : List (List UInt8)) (a2_at : Int) (Q : (List (List UInt8)) → Prop) : Prop :=
 (¬decide ((0 : Int) ≤ a2_at ∧ a2_at < (a1_l.length : Int)) = true → Q ([] : List (List UInt8))) ∧ (decide ((0 : Int) ≤ a2_at ∧ a2_at < (a1_l.length : Int)) = true → ((0 : Int) ≤ a2_at ∧ a2_at < (a1_l.length : Int)) ∧ ∃ (x0 : Nat → List (List UInt8) → List (List UInt8) → Unit → Prop), x0 (0 : Nat) a1_l ([] : List (List UInt8)) (Ty.hsl (24 : Nat) (Ty.arr (32 : Nat) Ty.byte)).kd.z ∧ (∀ (x1 : Nat) (x2 : Int), (qaE (a1_l.length : Int).toNat a2_at.toNat)[x1]? = some x2 → (Kd.int IntKind.i64).wf x2 → ∀ (x5 x6 : List (List UInt8)) (x7 : Unit), x0 x1 x5 x6 x7 → (Ty.arr (32 : Nat) Ty.byte).sl.kd.wf x5 → (Ty.arr (32 : Nat) Ty.byte).kd.sl.wf x6 → (Ty.int IntKind.i64).kd.wf (half (x5.length : Int).toNat : Int) → (x2 = (0 : Int) → ((0 : Int) ≤ (half (x5.length : Int).toNat : Int) ∧ (half (x5.length : Int).toNat : Int) ≤ (x5.length : Int)) ∧ ((0 : Int) ≤ (half (x5.length : Int).toNat : Int) ∧ (half (x5.length : Int).toNat : Int) ≤ (x5.length : Int)) ∧ (List.drop (half (x5.length : Int).toNat : Int).toNat x5).length ≤ (1048576 : Nat) ∧ ((Ty.arr (32 : Nat) Ty.byte).kd.wf (qaL (List.drop (half (x5.length : Int).toNat : Int).toNat x5)) → (x6.length + (qaL (List.drop (half (x5.length : Int).toNat : Int).toNat x5) :: ([] : List (List UInt8))).length) * (32 : Nat) ≤ (140737488355328 : Nat) ∧ x0 (x1 + (1 : Nat)) (List.take (half (x5.length : Int).toNat : Int).toNat x5) (x6 ++ qaL (List.drop (half (x5.length : Int).toNat : Int).toNat x5) :: ([] : List (List UInt8))) x7)) ∧ (¬x2 = (0 : Int) → ((0 : Int) ≤ (half (x5.length : Int).toNat : Int) ∧ (half (x5.length : Int).toNat : Int) ≤ (x5.length : Int)) ∧ ((0 : Int) ≤ (half (x5.length : Int).toNat : Int) ∧ (half (x5.length : Int).toNat : Int) ≤ (x5.length : Int)) ∧ (List.take (half (x5.length : Int).toNat : Int).toNat x5).length ≤ (1048576 : Nat) ∧ ((Ty.arr (32 : Nat) Ty.byte).kd.wf (qaL (List.take (half (x5.length : Int).toNat : Int).toNat x5)) → (x6.length + (qaL (List.take (half (x5.length : Int).toNat : Int).toNat x5) :: ([] : List (List UInt8))).length) * (32 : Nat) ≤ (140737488355328 : Nat) ∧ x0 (x1 + (1 : Nat)) (List.drop (half (x5.length : Int).toNat : Int).toNat x5) (x6 ++ qaL (List.take (half (x5.length : Int).toNat : Int).toNat x5) :: ([] : List (List UInt8))) x7))) ∧ ∀ (x1 x2 : List (List UInt8)) (x3 : Unit), x0 (qaE (a1_l.length : Int).toNat a2_at.toNat).length x1 x2 x3 → (Ty.arr (32 : Nat) Ty.byte).sl.kd.wf x1 → (Ty.arr (32 : Nat) Ty.byte).kd.sl.wf x2 → Q x2.reverse)
theorem qqJ {a1_l : List (List UInt8)} {a2_at : Int} (w_0 : (Ty.kd (.sl (.arr 32 .byte))).wf a1_l) (w_1 : (Ty.kd (.int .i64)).wf a2_at) (hp : a1_l.length ≤ 1048576) : qip a1_l a2_at (fun o0 => o0 = (qbP a1_l a2_at)) := by
 unfold qip
 simp only [Int.toNat_natCast]
 refine ⟨fun h => ?_, fun h => ⟨of_decide_eq_true h, ?_⟩⟩
 ·have h' : ¬ ((0 : Int) ≤ a2_at ∧ a2_at < (a1_l.length : Int)) := fun hh => h (decide_eq_true hh)
  show [] = qbP a1_l a2_at
  rw [qbP, if_neg h']
 have h' := of_decide_eq_true h
 have hS := qcj 20 (n := a1_l.length) (a := a2_at.toNat) (by omega)
 have ht := qdF _ (l := a1_l) (a := a2_at.toNat) (Nat.le_refl _)
 generalize hL : qaE a1_l.length a2_at.toNat = L at hS ht ⊢
 refine ⟨fun j l out _ => ∃ a : Nat, a < l.length ∧ l.length ≤ a1_l.length ∧ out.length = j ∧ out ++ topL l a = topL a1_l a2_at.toNat ∧ L.drop j = qaE l.length a ∧ j ≤ L.length, ⟨a2_at.toNat, by omega, Nat.le_refl _, rfl, rfl, hL.symm, Nat.zero_le _⟩, ?_, ?_⟩
 ·rintro j x hx _ l out u ⟨a, h1, h2, h3, h4, h5, h6⟩ _ _ _
  obtain ⟨hj, hxe⟩ := List.getElem?_eq_some_iff.1 hx
  rw [List.drop_eq_getElem_cons hj, hxe] at h5
  have hl : 1 < l.length := by
   apply Classical.byContradiction
   intro hn
   rw [qbf hn] at h5
   cases h5
  have a1 := qaZ (n := l.length) (by omega)
  have a2 := qbg (n := l.length) (by omega)
  have l1 : (l.take (half l.length)).length = half l.length := by rw [List.length_take]; omega
  have l2 : (l.drop (half l.length)).length = l.length - half l.length := List.length_drop
  rcases Nat.lt_or_ge a (half l.length) with ha | ha
  ·rw [qbo hl ha] at h5
   obtain ⟨h7, h8⟩ := List.cons.inj h5
   rw [qfd hl ha] at h4
   refine ⟨fun _ => ⟨⟨by omega, by omega⟩, ⟨by omega, by omega⟩, by omega, fun _ => ⟨by simp only [List.length_cons, List.length_nil]; omega, ⟨a, by omega, by omega, by simp [h3], by rw [← h4]; simp, by rw [l1]; exact h8, hj⟩⟩⟩, fun hn => absurd h7 hn⟩
  ·rw [qa7 hl ha] at h5
   obtain ⟨h7, h8⟩ := List.cons.inj h5
   rw [qek hl ha] at h4
   refine ⟨fun hn => absurd (h7.symm.trans hn) (by decide), fun _ => ⟨⟨by omega, by omega⟩, ⟨by omega, by omega⟩, by omega, fun _ => ⟨by simp only [List.length_cons, List.length_nil]; omega, ⟨a - half l.length, by omega, by omega, by simp [h3], by rw [← h4]; simp, by rw [l2]; exact h8, hj⟩⟩⟩⟩
 ·rintro l out u ⟨a, h1, h2, h3, h4, h5, h6⟩ _ _
  rw [List.drop_length] at h5
  rw [qfc (qib h5.symm), List.append_nil] at h4
  show out.reverse = qbP a1_l a2_at
  rw [qbP, if_pos h', h4]
theorem qqI : (∀ a, qfj.pre a → PM.wfP qfj.pm a (fvcR qnW [(131, qdV)] 200 84 qfj a (eqO qfj a))) = (∀ a : Unit × (List (List UInt8)) × Int × Unit, ((a.2.1).length ≤ 1048576) → (Ty.kd (.sl (.arr 32 .byte))).wf a.2.1 → (Ty.kd (.int .i64)).wf a.2.2.1 → qip a.2.1 a.2.2.1 (fun o0 => o0 = (qbP (a.2.1) (a.2.2.1)))) := by kernel_rfl
theorem qnX : qfj.valid Try.prog 84 := qkZ (X := qnW) (qaK (qam.rows [24]) (fun b hb => by cases hb; exact qar) qas ⟨qlt, qnQ, qkI, qlQ, qtP, trivial⟩) (its := [(131, qdV)]) ⟨qlq, trivial⟩ 200 (qqI.mpr fun a hp w_0 w_1 => @qqJ a.2.1 a.2.2.1 w_0 w_1 hp)
noncomputable def qnV : Ctr := ⟨[.nil, .v (.sl (.arr 32 .byte)), .v (.int .i64)], [.ow 24 (.arr 32 .byte)], some (fun a => (fun (a1_l : List (List UInt8)) (a2_at : Int) => (a1_l.length ≤ 1048576 : Prop)) a.2.1 a.2.2.1), fun a => (fun (a1_l : List (List UInt8)) (a2_at : Int) => (((qbP a1_l a2_at), ()), (()))) a.2.1 a.2.2.1⟩
theorem qtA : qnV.valid Try.prog 84 := qr1 qnX
noncomputable def qhJ : Ctr := ⟨[.bk 146 true, .v (.int .i64), .v (.int .i64), .v (.arr 32 .byte), .v (.sl (.arr 32 .byte))], [.v (.arr 32 .byte), .v (.int .i64)], some (fun a => (fun (a0_k : qak) (a1_n : Int) (a2_at : Int) (a3_leaf : List UInt8) (a4_path : List (List UInt8)) => (a4_path.length ≤ 1048576 ∧ qah a0_k a4_path.length : Prop)) a.1 a.2.1 a.2.2.1 a.2.2.2.1 a.2.2.2.2.1), fun a => (fun (a0_k : qak) (a1_n : Int) (a2_at : Int) (a3_leaf : List UInt8) (a4_path : List (List UInt8)) => (((qbl a1_n a2_at a3_leaf a4_path), (qhB a1_n a2_at a4_path), ()), ((leadK a0_k a1_n a2_at a3_leaf a4_path), ()))) a.1 a.2.1 a.2.2.1 a.2.2.2.1 a.2.2.2.2.1⟩
noncomputable def qsC : Fx := ⟨seat, some bkT, fns, [(115, qdY), (116, qfe), (104, qeJ)], [117, 118, 130], [(3, [6], []), (5, [0, 1], [])], []⟩
def qkB (a0_k : qak) (a1_n : Int) (a2_at : Int) (a3_leaf : List UInt8) (a4_path : List (List UInt8)) (Q : (List UInt8) → Int → qak → Prop) : Prop :=
 (¬decide ((0 : Int) ≤ a2_at ∧ a2_at < a1_n) = true → Q (List.replicate (32 : Nat) Ty.byte.kd.z) (10 : Int) a0_k) ∧ (decide ((0 : Int) ≤ a2_at ∧ a2_at < a1_n) = true → (Ty.int IntKind.i64).kd.wf (qc5 a1_n a2_at) → ((a4_path.length : Int) ≠ qc5 a1_n a2_at → Q (List.replicate (32 : Nat) Ty.byte.kd.z) (10 : Int) a0_k) ∧ (¬(a4_path.length : Int) ≠ qc5 a1_n a2_at → ((0 : Int) ≤ a2_at ∧ a2_at < a1_n) ∧ ∃ (x0 : Nat → List Int → Unit → Prop), x0 (0 : Nat) ([] : List Int) (Ty.hsl (3 : Nat) (Ty.int IntKind.i64)).kd.z ∧ (∀ (x1 : Nat) (x2 : Int), (qaE a1_n.toNat a2_at.toNat)[x1]? = some x2 → (Kd.int IntKind.i64).wf x2 → ∀ (x5 : List Int) (x6 : Unit), x0 x1 x5 x6 → (Ty.int IntKind.i64).kd.sl.wf x5 → (x5.length + (x2 :: ([] : List Int)).length) * (8 : Nat) ≤ (140737488355328 : Nat) ∧ x0 (x1 + (1 : Nat)) (x5 ++ x2 :: ([] : List Int)) x6) ∧ ∀ (x1 : List Int) (x2 : Unit), x0 (qaE a1_n.toNat a2_at.toNat).length x1 x2 → (Ty.int IntKind.i64).kd.sl.wf x1 → ∃ (x5 : Int → qak → List UInt8 → Prop), ∃ (x6 : Int → qak → List UInt8 → Nat), x5 (0 : Int) a0_k a3_leaf ∧ ∀ (x7 : Int) (x8 : qak) (x9 : List UInt8), x5 x7 x8 x9 → (Kd.int IntKind.i64).wf x7 → (Ty.arr (32 : Nat) Ty.byte).kd.wf x9 → (x7 < (a4_path.length : Int) → ((0 : Int) ≤ x7 ∧ x7 < (a4_path.length : Int)) ∧ ((0 : Int) ≤ IntKind.i64.wrap (IntKind.i64.wrap ((x1.length : Int) - (1 : Int)) - x7) ∧ IntKind.i64.wrap (IntKind.i64.wrap ((x1.length : Int) - (1 : Int)) - x7) < (x1.length : Int)) ∧ (ix x1 (IntKind.i64.wrap (IntKind.i64.wrap ((x1.length : Int) - (1 : Int)) - x7)) = (0 : Int) → ((x9 :: ix a4_path x7 :: ([] : List (List UInt8))).length ≤ (1048576 : Nat) ∧ qaJ x8) ∧ ((Ty.arr (32 : Nat) Ty.byte).kd.wf (qaw (2 : Int) (x9 :: ix a4_path x7 :: ([] : List (List UInt8)))) → x7 < (9223372036854775807 : Int) ∧ x5 (x7 + (1 : Int)) (qaC x8 (2 : Int) (x9 :: ix a4_path x7 :: ([] : List (List UInt8)))) (qaw (2 : Int) (x9 :: ix a4_path x7 :: ([] : List (List UInt8)))) ∧ x6 (x7 + (1 : Int)) (qaC x8 (2 : Int) (x9 :: ix a4_path x7 :: ([] : List (List UInt8)))) (qaw (2 : Int) (x9 :: ix a4_path x7 :: ([] : List (List UInt8)))) < x6 x7 x8 x9)) ∧ (¬ix x1 (IntKind.i64.wrap (IntKind.i64.wrap ((x1.length : Int) - (1 : Int)) - x7)) = (0 : Int) → ((ix a4_path x7 :: x9 :: ([] : List (List UInt8))).length ≤ (1048576 : Nat) ∧ qaJ x8) ∧ ((Ty.arr (32 : Nat) Ty.byte).kd.wf (qaw (2 : Int) (ix a4_path x7 :: x9 :: ([] : List (List UInt8)))) → x7 < (9223372036854775807 : Int) ∧ x5 (x7 + (1 : Int)) (qaC x8 (2 : Int) (ix a4_path x7 :: x9 :: ([] : List (List UInt8)))) (qaw (2 : Int) (ix a4_path x7 :: x9 :: ([] : List (List UInt8)))) ∧ x6 (x7 + (1 : Int)) (qaC x8 (2 : Int) (ix a4_path x7 :: x9 :: ([] : List (List UInt8)))) (qaw (2 : Int) (ix a4_path x7 :: x9 :: ([] : List (List UInt8)))) < x6 x7 x8 x9))) ∧ (¬x7 < (a4_path.length : Int) → Q x9 (0 : Int) x8)))
theorem qtw {a0_k : qak} {a1_n : Int} {a2_at : Int} {a3_leaf : List UInt8} {a4_path : List (List UInt8)} (w_0 : (Ty.kd (.int .i64)).wf a1_n) (w_1 : (Ty.kd (.int .i64)).wf a2_at) (w_2 : (Ty.kd (.arr 32 .byte)).wf a3_leaf) (w_3 : (Ty.kd (.sl (.arr 32 .byte))).wf a4_path) (hp : a4_path.length ≤ 1048576 ∧ qah a0_k a4_path.length) : qkB a0_k a1_n a2_at a3_leaf a4_path (fun o0 o1 o2 => o0 = (qbl a1_n a2_at a3_leaf a4_path) ∧ o1 = (qhB a1_n a2_at a4_path) ∧ o2 = (leadK a0_k a1_n a2_at a3_leaf a4_path)) := by
 have hn1 : a1_n ≤ 9223372036854775807 := w_0.2
 have bad : qdx a1_n a2_at a4_path = false → List.replicate (32 : Nat) Ty.byte.kd.z = qbl a1_n a2_at a3_leaf a4_path ∧ (10 : Int) = qhB a1_n a2_at a4_path ∧ a0_k = leadK a0_k a1_n a2_at a3_leaf a4_path := fun h => by
  unfold qbl qhB leadK
  rw [h]
  exact ⟨rfl, rfl, rfl⟩
 unfold qkB
 refine ⟨fun h => bad (decide_eq_false fun hh => h (decide_eq_true hh.1)), fun h _ => ?_⟩
 have h' := of_decide_eq_true h
 have hd : qc5 a1_n a2_at = ((qaE a1_n.toNat a2_at.toNat).length : Int) := by unfold qc5; rw [if_pos h']
 refine ⟨fun hne => bad (decide_eq_false fun hh => hne (by rw [hd, hh.2])), fun hlen => ?_⟩
 have hP : a4_path.length = (qaE a1_n.toNat a2_at.toNat).length := by
  have : (a4_path.length : Int) = qc5 a1_n a2_at := Classical.byContradiction hlen
  omega
 have hb : qdx a1_n a2_at a4_path = true := decide_eq_true ⟨h', hP⟩
 have hS := qcj 63 (n := a1_n.toNat) (a := a2_at.toNat) (by omega)
 refine ⟨h', fun j l _ => l = (qaE a1_n.toNat a2_at.toNat).take j, rfl, ?_, ?_⟩
 ·rintro j x hx _ l u rfl hw
  have hj := (List.getElem?_eq_some_iff.1 hx).1
  refine ⟨by rw [List.length_take]; simp only [List.length_cons, List.length_nil]; omega, ?_⟩
  show List.take j _ ++ [x] = List.take (j + 1) _
  rw [List.take_add_one, hx]
  rfl
 ·rintro l u rfl _
  rw [List.take_length]
  unfold qbl qhB leadK
  rw [hb, if_pos rfl, if_pos rfl, if_pos rfl]
  generalize qaE a1_n.toNat a2_at.toNat = S at hP hS ⊢
  refine ⟨fun i x s => ∃ j : Nat, i = (j : Int) ∧ j ≤ a4_path.length ∧ qah x (a4_path.length - j) ∧ qdq (S.reverse.drop j) (a4_path.drop j) s = qdq S.reverse a4_path a3_leaf ∧ foldK (S.reverse.drop j) (a4_path.drop j) s x = foldK S.reverse a4_path a3_leaf a0_k, fun i _ _ => ((a4_path.length : Int) - i).toNat, ⟨0, rfl, Nat.zero_le _, hp.2, rfl, rfl⟩, ?_⟩
  rintro i x s ⟨j, rfl, hj, hu, e1, e2⟩ _ _
  refine ⟨fun hlt => ?_, fun hge => ?_⟩
  ·have hj1 : j < a4_path.length := by omega
   have hr : j < S.reverse.length := by rw [List.length_reverse]; omega
   have ew : IntKind.i64.wrap (IntKind.i64.wrap ((S.length : Int) - 1) - (j : Int)) = ((S.length - 1 - j : Nat) : Int) := by
    rw [qan (a := (S.length : Int) - 1) (wf64 (by omega) (by omega)), qan (wf64 (by omega) (by omega))]
    omega
   have ev : ix S ((S.length - 1 - j : Nat) : Int) = S.reverse[j] := by rw [ixN (by omega), List.getElem_reverse]
   rw [List.drop_eq_getElem_cons hr, List.drop_eq_getElem_cons hj1] at e1 e2
   rw [ew, ev, ixN hj1]
   simp only [qdq, foldK] at e1 e2
   have hu' : qah x ((a4_path.length - (j + 1)) + 1) := hu.le (by omega)
   refine ⟨⟨by omega, hlt⟩, ⟨by omega, by omega⟩, fun h0 => ?_, fun h0 => ?_⟩
   ·rw [if_pos h0] at e1 e2
    rw [if_pos h0] at e2
    exact ⟨⟨by simp, hu.room⟩, fun _ => ⟨by omega, ⟨j + 1, by omega, hj1, hu'.of _ _, e1, e2⟩, by show ((a4_path.length : Int) - ((j : Int) + 1)).toNat < ((a4_path.length : Int) - (j : Int)).toNat; omega⟩⟩
   ·rw [if_neg h0] at e1 e2
    rw [if_neg h0] at e2
    exact ⟨⟨by simp, hu.room⟩, fun _ => ⟨by omega, ⟨j + 1, by omega, hj1, hu'.of _ _, e1, e2⟩, by show ((a4_path.length : Int) - ((j : Int) + 1)).toNat < ((a4_path.length : Int) - (j : Int)).toNat; omega⟩⟩
  ·have hj1 : j = a4_path.length := by omega
   rw [hj1, List.drop_length] at e1 e2
   have er : S.reverse.drop a4_path.length = [] := List.drop_eq_nil_of_le (by rw [List.length_reverse]; omega)
   rw [er] at e1 e2
   exact ⟨e1, rfl, e2⟩
theorem qtv : (∀ a, qhJ.pre a → PM.wfP qhJ.pm a (fvcR qsC [(131, qdV)] 200 78 qhJ a (eqO qhJ a))) = (∀ a : qak × Int × Int × (List UInt8) × (List (List UInt8)) × Unit, ((a.2.2.2.2.1).length ≤ 1048576 ∧ qah (a.1) (a.2.2.2.2.1).length) → (Ty.kd (.int .i64)).wf a.2.1 → (Ty.kd (.int .i64)).wf a.2.2.1 → (Ty.kd (.arr 32 .byte)).wf a.2.2.2.1 → (Ty.kd (.sl (.arr 32 .byte))).wf a.2.2.2.2.1 → qkB a.1 a.2.1 a.2.2.1 a.2.2.2.1 a.2.2.2.2.1 (fun o0 o1 o2 => o0 = (qbl (a.2.1) (a.2.2.1) (a.2.2.2.1) (a.2.2.2.2.1)) ∧ o1 = (qhB (a.2.1) (a.2.2.1) (a.2.2.2.2.1)) ∧ o2 = (leadK (a.1) (a.2.1) (a.2.2.1) (a.2.2.2.1) (a.2.2.2.2.1)))) := by kernel_rfl
theorem qvk : qhJ.valid Try.prog 78 := qkZ (X := qsC) (qaK qam (fun b hb => by cases hb; exact qar) qas ⟨qlt, qth, qp6, trivial⟩) (its := [(131, qdV)]) ⟨qlq, trivial⟩ 200 (qtv.mpr fun a hp w_0 w_1 w_2 w_3 => @qtw a.1 a.2.1 a.2.2.1 a.2.2.2.1 a.2.2.2.2.1 w_0 w_1 w_2 w_3 hp)
end Go.Proofs.Ytmjjkpiglbpkhaa
