/- E18, E19, E20, E21, E22, B23, E23, E24, E25, E26, E27, E28, P5, P6, P8, P9, P10, P11, P12, P13, P15, P16, P17, E29, T1, K6, P18, P19, P20, P14. -/
import Derived.Test.YtmjjkpiglbpkhaaM3
import Derived.Test.YtmjjkpiglbpkhaaM2
import Derived.RangeFuncRecord
import Derived.RangeFuncSeq
import Derived.Test.YtmjjkpiglbpkhaaM1
import Derived.Lib.Bytealg
import Derived.Laws.Externs
import Derived.Test.YtmjjkpiglbpkhaaChecked
set_option linter.unusedVariables false
namespace Go.Inc
open Go Go.RowKit
mutual
def PM.still : PM → Option Nat
 | .v _ => some 0
 | .nil => some 0
 | .snil => some 0
 | .bx _ u => bif u then none else some 1
 | .bk _ u => bif u then none else some 1
 | .rw _ _ u => bif u then none else some 1
 | .fn _ cs => PM.stillL cs
def PM.stillL : List PM → Option Nat
 | [] => some 0
 | m :: l => match PM.still m, PM.stillL l with
   | some a, some b => some (a + b)
   | _, _ => none
end
def PM.wfP : (l : List PM) → PM.denL l → Prop → Prop
 | [], _, p => p
 | .v .bool :: l, a, p => PM.wfP l a.2 p
 | .v t :: l, a, p => t.kd.wf a.1 → PM.wfP l a.2 p
 | .bx t _ :: l, a, p => t.kd.wf a.1 → PM.wfP l a.2 p
 | .nil :: l, a, p => PM.wfP l a.2 p
 | .snil :: l, a, p => PM.wfP l a.2 p
 | .bk _ _ :: l, a, p => PM.wfP l a.2 p
 | .rw _ t _ :: l, a, p => (Kd.sl t.kd).wf a.1 → PM.wfP l a.2 p
 | .fn _ _ :: l, a, p => PM.wfP l a.2 p
def entF (pm : List PM) (a : PM.denL pm) : St :=
 { env := fun t => (PM.svL pm a 0)[t]?,
   res := fun r => match (PM.resL pm a)[r]? with
    | some (R, u) => some ⟨R, bif u then .par r else .ro, !u⟩
    | none => none,
   nx := (PM.resL pm a).length }
def qcz (s : St) : (l : List RM) → List SVal → Option (RM.denL l × List Nat)
 | [], vs => match vs with
   | [] => some ((), [])
   | _ => none
 | .v t :: l, vs => match vs with
   | v :: vs => (match v.to t, qcz s l vs with
     | some x, some (y, ids) => some ((x, y), ids)
     | _, _ => none)
   | [] => none
 | .ow e t :: l, vs => match vs with
   | .own r _ _ :: vs => (match s.res r, qcz s l vs with
     | some ⟨.ow e' t' x, .new, _⟩, some (y, ids) => if h : t' = t then (bif Nat.beq e' e then some ((qcG h x, y), r :: ids) else none) else none
     | _, _ => none)
   | _ => none
 | .bx t :: l, vs => match vs with
   | .box r T k p :: vs => (match s.res r, qcz s l vs with
     | some ⟨.bx T' x [], .new, _⟩, some (y, ids) => if h : T' = t then (bif Nat.beq p.off 0 then some ((Ty.cast h x, y), r :: ids) else none) else none
     | _, _ => none)
   | _ => none
 | .rw e t :: l, vs => match vs with
   | .rw r :: vs => (match s.res r, qcz s l vs with
     | some ⟨.rw e' t' x, .new, _⟩, some (y, ids) => if h : t' = t then (bif Nat.beq e' e then some ((qcG h x, y), r :: ids) else none) else none
     | _, _ => none)
   | _ => none
def qbH (s : St) : (l : List PM) → Nat → Option (PM.MD l)
 | [], n => some ()
 | .v _ :: l, n => qbH s l n
 | .nil :: l, n => qbH s l n
 | .snil :: l, n => qbH s l n
 | .bx t true :: l, n => match s.res n, qbH s l (n + 1) with
   | some ⟨.bx t' y [], org, _⟩, some m => if h : t' = t then (bif decide (org = .par n) then some (Ty.cast h y, m) else none) else none
   | _, _ => none
 | .bk e true :: l, n => match s.res n, qbH s l (n + 1) with
   | some ⟨.bk e' x, org, _⟩, some m => bif Nat.beq e' e && decide (org = .par n) then some (x, m) else none
   | _, _ => none
 | .bx t false :: l, n => qbH s l (n + 1)
 | .bk e false :: l, n => qbH s l (n + 1)
 | .rw e t true :: l, n => match s.res n, qbH s l (n + 1) with
   | some ⟨.rw e' t' x, org, _⟩, some m => if h : t' = t then (bif Nat.beq e' e && decide (org = .par n) then some (qcG h x, m) else none) else none
   | _, _ => none
 | .rw e t false :: l, n => qbH s l (n + 1)
 | .fn f cs :: l, n => match PM.stillL cs with
   | some c => qbH s l (n + c)
   | none => none
def finF (X : Fx) (C : Ctr) (rs : Array ResultVar) (s : St) (Q : RM.denL C.rm → PM.MD C.pm → Prop) : Prop :=
 match (matS X.c (qcB rs.toList) s).outs X.c rs.toList with
 | some vs => (match qcz (matS X.c (qcB rs.toList) s) C.rm vs, qbH (matS X.c (qcB rs.toList) s) C.pm 0 with
   | some (o, ids), some m => bif qaN ids then Q o m else False
   | _, _ => False)
 | none => False
def fvc (X : Fx) (fuel f : Nat) (C : Ctr) (a : PM.denL C.pm) (Q : RM.denL C.rm → PM.MD C.pm → Prop) : Prop :=
 match X.c.P.funcs[f]? with
 | some fn => (match fn.body with
   | some code => bif Nat.ble (PM.svL C.pm a 0).length fn.ntmps then exec X (qkR X) fuel fn.ntmps code (entF C.pm a) (fun e s => match e with
      | .normal => finF X C fn.results s Q
      | .ret => finF X C fn.results s Q
      | _ => False) else False
   | none => False)
 | none => False
theorem PM.wfP_ok {θ : Th} {N : Nat} {w : World} {K : Ghost} {p : Prop} : ∀ {l : List PM} {a : PM.denL l} {n : Nat} {vs : List Value}, SVal.relL θ N K (PM.svL l a n) vs → (∀ (j : Nat) (R : Res) (u : Bool), (PM.resL l a)[j]? = some (R, u) → R.sat θ (n + j) N w K) → PM.wfP l a p → p
 | [], a, n, vs, hr, hs, h => h
 | m :: l, a, n, vs, ⟨u, r, e, h1, h2⟩, hs, h => by
   have rest : PM.wfP l a.2 p → p := fun h => PM.wfP_ok h2 (fun j R u hj => by
    have := hs ((PM.res m a.1).length + j) R u (by
     show (PM.res m a.1 ++ PM.resL l a.2)[_]? = _
     rw [List.getElem?_append_right (by omega), Nat.add_sub_cancel_left]
     exact hj)
    rw [Nat.add_assoc]
    exact this) h
   cases m with
   | v t =>
     have hw := (qmb h1).wf
     cases t with
     | bool => exact rest h
     | _ => exact rest (h hw)
   | bx t b =>
     obtain ⟨_, _, _, hB, _⟩ := hs 0 (.bx t a.1 []) b rfl
     exact rest (h hB.wf)
   | nil => exact rest h
   | snil => exact rest h
   | bk e b => exact rest h
   | rw e t b =>
     have hR : (Res.rw e t a.1).sat θ n N w K := hs 0 (.rw e t a.1) b rfl
     exact rest (h hR.1.wf)
   | fn f cs => exact rest h
mutual
theorem PM.still_ok : ∀ {m : PM} {a : PM.den m} {n : Nat}, PM.still m = some n → (PM.res m a).length = n ∧ ∀ (j : Nat) (R : Res) (u : Bool), (PM.res m a)[j]? = some (R, u) → u = false
 | .v _, a, n, h => by
   simp only [PM.still, Option.some.injEq] at h
   exact ⟨h, fun j R u hj => by simp [PM.res] at hj⟩
 | .nil, a, n, h => by
   simp only [PM.still, Option.some.injEq] at h
   exact ⟨h, fun j R u hj => by simp [PM.res] at hj⟩
 | .snil, a, n, h => by
   simp only [PM.still, Option.some.injEq] at h
   exact ⟨h, fun j R u hj => by simp [PM.res] at hj⟩
 | .bx _ b, a, n, h => by
   cases b with
   | true => cases h
   | false =>
     cases h
     refine ⟨rfl, fun j R u hj => ?_⟩
     cases j with
     | zero => simp [PM.res] at hj; exact hj.2
     | succ j => simp [PM.res] at hj
 | .bk _ b, a, n, h => by
   cases b with
   | true => cases h
   | false =>
     cases h
     refine ⟨rfl, fun j R u hj => ?_⟩
     cases j with
     | zero => simp [PM.res] at hj; exact hj.2
     | succ j => simp [PM.res] at hj
 | .rw _ _ b, a, n, h => by
   cases b with
   | true => cases h
   | false =>
     cases h
     refine ⟨rfl, fun j R u hj => ?_⟩
     cases j with
     | zero => simp [PM.res] at hj; exact hj.2
     | succ j => simp [PM.res] at hj
 | .fn f cs, a, n, h => PM.stillL_ok (l := cs) h
theorem PM.stillL_ok : ∀ {l : List PM} {a : PM.denL l} {n : Nat}, PM.stillL l = some n → (PM.resL l a).length = n ∧ ∀ (j : Nat) (R : Res) (u : Bool), (PM.resL l a)[j]? = some (R, u) → u = false
 | [], a, n, h => by
   simp only [PM.stillL, Option.some.injEq] at h
   exact ⟨h, fun j R u hj => by simp [PM.resL] at hj⟩
 | m :: l, a, n, h => by
   simp only [PM.stillL] at h
   split at h
   ·rename_i x y h1 h2
    cases h
    obtain ⟨a1, a2⟩ := PM.still_ok (a := a.1) h1
    obtain ⟨b1, b2⟩ := PM.stillL_ok (a := a.2) h2
    refine ⟨?_, fun j R u hj => ?_⟩
    ·show (PM.res m a.1 ++ PM.resL l a.2).length = _
     rw [List.length_append, a1, b1]
    ·have hj' : (PM.res m a.1 ++ PM.resL l a.2)[j]? = some (R, u) := hj
     rcases Nat.lt_or_ge j (PM.res m a.1).length with hlt | hge
     ·rw [List.getElem?_append_left hlt] at hj'
      exact a2 j R u hj'
     ·rw [List.getElem?_append_right hge] at hj'
      exact b2 _ R u hj'
   ·cases h
end
theorem qbc {s : St} : ∀ {l : List PM} {a : PM.denL l} {n : Nat} {m : PM.MD l}, qbH s l n = some m → (∀ (j : Nat) (R : Res), (PM.resL l a)[j]? = some (R, false) → ∃ e, s.res (n + j) = some e ∧ e.r = R ∧ e.org = .ro) →
 ∀ (j : Nat) (R : Res), (PM.aft l a m)[j]? = some R → ∃ e, s.res (n + j) = some e ∧ e.r = R ∧ ((e.org = .par (n + j) ∧ ∃ R0, (PM.resL l a)[j]? = some (R0, true)) ∨ (e.org = .ro ∧ ∃ R0, (PM.resL l a)[j]? = some (R0, false)))
 | [], a, n, m, h, hro, j, R, hj => by simp [PM.aft] at hj
 | .v _ :: l, a, n, m, h, hro, j, R, hj => qbc (l := l) (a := a.2) h hro j R hj
 | .nil :: l, a, n, m, h, hro, j, R, hj => qbc (l := l) (a := a.2) h hro j R hj
 | .snil :: l, a, n, m, h, hro, j, R, hj => qbc (l := l) (a := a.2) h hro j R hj
 | .bx t true :: l, a, n, m, h, hro, j, R, hj => by
   simp only [qbH] at h
   split at h
   ·rename_i t' y org lk m2 hs h2
    split at h
    ·rename_i ht
     subst ht
     cases hd : decide (org = Org.par n) with
     | false => rw [hd] at h; cases h
     | true =>
       rw [hd] at h
       simp only [cond_true, Option.some.injEq] at h
       subst h
       have ho : org = .par n := by simpa using hd
       cases j with
       | zero =>
         simp [PM.aft] at hj
         subst hj
         exact ⟨_, hs, rfl, .inl ⟨ho, _, rfl⟩⟩
       | succ j =>
         obtain ⟨e, e1, e2, e3⟩ := qbc (l := l) (a := a.2) h2 (fun j R hj => by
          have := hro (j + 1) R hj
          rwa [show n + (j + 1) = n + 1 + j from by omega] at this) j R hj
         refine ⟨e, by rw [show n + (j + 1) = n + 1 + j from by omega]; exact e1, e2, ?_⟩
         rw [show n + (j + 1) = n + 1 + j from by omega]
         exact e3
    ·cases h
   ·cases h
 | .bk e true :: l, a, n, m, h, hro, j, R, hj => by
   simp only [qbH] at h
   split at h
   ·rename_i e' x org lk m2 hs h2
    cases hd : (Nat.beq e' e && decide (org = Org.par n)) with
    | false => rw [hd] at h; cases h
    | true =>
      rw [hd] at h
      simp only [cond_true, Option.some.injEq] at h
      subst h
      simp only [Bool.and_eq_true, decide_eq_true_eq] at hd
      obtain rfl := Nat.eq_of_beq_eq_true hd.1
      cases j with
      | zero =>
        simp [PM.aft] at hj
        subst hj
        exact ⟨_, hs, rfl, .inl ⟨hd.2, _, rfl⟩⟩
      | succ j =>
        obtain ⟨e, e1, e2, e3⟩ := qbc (l := l) (a := a.2) h2 (fun j R hj => by
         have := hro (j + 1) R hj
         rwa [show n + (j + 1) = n + 1 + j from by omega] at this) j R hj
        refine ⟨e, by rw [show n + (j + 1) = n + 1 + j from by omega]; exact e1, e2, ?_⟩
        rw [show n + (j + 1) = n + 1 + j from by omega]
        exact e3
   ·cases h
 | .rw e t true :: l, a, n, m, h, hro, j, R, hj => by
   simp only [qbH] at h
   split at h
   ·rename_i e' t' x org lk m2 hs h2
    split at h
    ·rename_i ht
     subst ht
     cases hd : (Nat.beq e' e && decide (org = Org.par n)) with
     | false => rw [hd] at h; cases h
     | true =>
       rw [hd] at h
       simp only [cond_true, Option.some.injEq] at h
       subst h
       simp only [Bool.and_eq_true, decide_eq_true_eq] at hd
       obtain rfl := Nat.eq_of_beq_eq_true hd.1
       cases j with
       | zero =>
         simp [PM.aft] at hj
         subst hj
         exact ⟨_, hs, rfl, .inl ⟨hd.2, _, rfl⟩⟩
       | succ j =>
         obtain ⟨e, e1, e2, e3⟩ := qbc (l := l) (a := a.2) h2 (fun j R hj => by
          have := hro (j + 1) R hj
          rwa [show n + (j + 1) = n + 1 + j from by omega] at this) j R hj
         refine ⟨e, by rw [show n + (j + 1) = n + 1 + j from by omega]; exact e1, e2, ?_⟩
         rw [show n + (j + 1) = n + 1 + j from by omega]
         exact e3
    ·cases h
   ·cases h
 | .bx t false :: l, a, n, m, h, hro, j, R, hj => by
   cases j with
   | zero =>
     simp [PM.aft] at hj
     subst hj
     obtain ⟨e, e1, e2, e3⟩ := hro 0 (.bx t a.1 []) rfl
     exact ⟨e, e1, e2, .inr ⟨e3, _, rfl⟩⟩
   | succ j =>
     obtain ⟨e, e1, e2, e3⟩ := qbc (l := l) (a := a.2) (n := n + 1) h (fun j R hj => by
      have := hro (j + 1) R hj
      rwa [show n + (j + 1) = n + 1 + j from by omega] at this) j R hj
     refine ⟨e, by rw [show n + (j + 1) = n + 1 + j from by omega]; exact e1, e2, ?_⟩
     rw [show n + (j + 1) = n + 1 + j from by omega]
     exact e3
 | .bk t false :: l, a, n, m, h, hro, j, R, hj => by
   cases j with
   | zero =>
     simp [PM.aft] at hj
     subst hj
     obtain ⟨e, e1, e2, e3⟩ := hro 0 (.bk t a.1) rfl
     exact ⟨e, e1, e2, .inr ⟨e3, _, rfl⟩⟩
   | succ j =>
     obtain ⟨e, e1, e2, e3⟩ := qbc (l := l) (a := a.2) (n := n + 1) h (fun j R hj => by
      have := hro (j + 1) R hj
      rwa [show n + (j + 1) = n + 1 + j from by omega] at this) j R hj
     refine ⟨e, by rw [show n + (j + 1) = n + 1 + j from by omega]; exact e1, e2, ?_⟩
     rw [show n + (j + 1) = n + 1 + j from by omega]
     exact e3
 | .rw te t false :: l, a, n, m, h, hro, j, R, hj => by
   cases j with
   | zero =>
     simp [PM.aft] at hj
     subst hj
     obtain ⟨e, e1, e2, e3⟩ := hro 0 (.rw te t a.1) rfl
     exact ⟨e, e1, e2, .inr ⟨e3, _, rfl⟩⟩
   | succ j =>
     obtain ⟨e, e1, e2, e3⟩ := qbc (l := l) (a := a.2) (n := n + 1) h (fun j R hj => by
      have := hro (j + 1) R hj
      rwa [show n + (j + 1) = n + 1 + j from by omega] at this) j R hj
     refine ⟨e, by rw [show n + (j + 1) = n + 1 + j from by omega]; exact e1, e2, ?_⟩
     rw [show n + (j + 1) = n + 1 + j from by omega]
     exact e3
 | .fn f cs :: l, a, n, m, h, hro, j, R, hj => by
   simp only [qbH] at h
   split at h
   ·rename_i c hc
    obtain ⟨c1, c2⟩ := PM.stillL_ok (a := a.1) hc
    have hj' : ((PM.res (.fn f cs) a.1).map (·.1) ++ PM.aft l a.2 m)[j]? = some R := hj
    have hlen : (PM.res (.fn f cs) a.1).length = c := c1
    rcases Nat.lt_or_ge j c with hlt | hge
    ·rw [List.getElem?_append_left (by rw [List.length_map]; omega), List.getElem?_map] at hj'
     cases hx : (PM.res (.fn f cs) a.1)[j]? with
     | none => rw [hx] at hj'; cases hj'
     | some z =>
       obtain ⟨R1, u⟩ := z
       rw [hx] at hj'
       cases hj'
       have hu := c2 j R1 u hx
       subst hu
       have hx' : (PM.resL (.fn f cs :: l) a)[j]? = some (R1, false) := by
        show (PM.res (.fn f cs) a.1 ++ PM.resL l a.2)[j]? = _
        rw [List.getElem?_append_left (by omega)]
        exact hx
       obtain ⟨e, e1, e2, e3⟩ := hro j R1 hx'
       exact ⟨e, e1, e2, .inr ⟨e3, _, hx'⟩⟩
    ·rw [List.getElem?_append_right (by rw [List.length_map]; omega), List.length_map, hlen] at hj'
     obtain ⟨e, e1, e2, e3⟩ := qbc (l := l) (a := a.2) h (fun j R hj => by
      have := hro (c + j) R (by
       show (PM.res (.fn f cs) a.1 ++ PM.resL l a.2)[c + j]? = _
       rw [List.getElem?_append_right (by omega), hlen, Nat.add_sub_cancel_left]
       exact hj)
      rwa [← Nat.add_assoc] at this) (j - c) R hj'
     rw [show n + c + (j - c) = n + j from by omega] at e1 e3
     have up : ∀ z, (PM.resL l a.2)[j - c]? = some z → (PM.resL (.fn f cs :: l) a)[j]? = some z := fun z hz => by
      show (PM.res (.fn f cs) a.1 ++ PM.resL l a.2)[j]? = _
      rw [List.getElem?_append_right (by omega), hlen]
      exact hz
     exact ⟨e, e1, e2, e3.imp (fun ⟨h1, R0, h2⟩ => ⟨h1, R0, up _ h2⟩) (fun ⟨h1, R0, h2⟩ => ⟨h1, R0, up _ h2⟩)⟩
   ·cases h
theorem qc1 {s : St} {θ θ' : Th} {N : Nat} {w : World} {K : Ghost} (hsat : ∀ r e, s.res r = some e → e.r.sat θ r s.nx w K) : ∀ {l : List RM} {svs : List SVal} {o : RM.denL l} {ids : List Nat} {n : Nat} {vs : List Value}, qcz s l svs = some (o, ids) → SVal.relL θ s.nx K svs vs → (∀ i r, ids[i]? = some r → θ'.key (n + i) = θ.key r) → n + ids.length ≤ N →
 SVal.relL θ' N K (RM.svL l o n) vs ∧ (RM.resL l o).length = ids.length ∧ ∀ (i : Nat) (R : Res), (RM.resL l o)[i]? = some R → ∃ r e, ids[i]? = some r ∧ s.res r = some e ∧ e.r = R ∧ e.org = .new
 | [], svs, o, ids, n, vs, h, hr, hk, hN => by
   simp only [qcz] at h
   split at h
   ·cases h
    exact ⟨hr, rfl, fun i R hi => by simp [RM.resL] at hi⟩
   ·cases h
 | .v t :: l, svs, o, ids, n, vs, h, hr, hk, hN => by
   simp only [qcz] at h
   split at h
   ·rename_i v svs'
    split at h
    ·rename_i x y ids' hx hy
     cases h
     obtain ⟨u, r, e, h1, h2⟩ := hr
     obtain ⟨a1, a2, a3⟩ := qc1 hsat (n := n) hy h2 hk hN
     exact ⟨⟨u, r, e, SVal.of_rel (SVal.to_rel hx h1), a1⟩, a2, a3⟩
    ·cases h
   ·cases h
 | .ow eo t :: l, svs, o, ids, n, vs, h, hr, hk, hN => by
   simp only [qcz] at h
   split at h
   ·rename_i r0 t0 x0 svs'
    split at h
    ·rename_i e' t' x lk y ids' hs hy
     split at h
     ·rename_i ht
      subst ht
      cases hb : Nat.beq e' eo with
      | false => rw [hb] at h; cases h
      | true =>
        rw [hb] at h
        obtain rfl := Nat.eq_of_beq_eq_true hb
        simp only [cond_true, Option.some.injEq, Prod.mk.injEq] at h
        obtain ⟨rfl, rfl⟩ := h
        obtain ⟨u, r, e, h1, h2⟩ := hr
        simp only [List.length_cons] at hN
        obtain ⟨a1, a2, a3⟩ := qc1 hsat (n := n + 1) (N := N) (θ' := θ') hy h2 (fun i r hi => by
         have := hk (i + 1) r (by simpa using hi)
         rwa [show n + (i + 1) = n + 1 + i from by omega] at this) (by omega)
        have hk0 := hk 0 r0 rfl
        refine ⟨⟨u, r, e, ⟨by omega, ?_, hk0.trans h1.2.2⟩, a1⟩, by show (RM.res (.ow e' t') x ++ RM.resL l y).length = _; rw [List.length_append, a2]; simp [RM.res]; omega, ?_⟩
        ·have hO : Own _ _ _ _ _ (θ.key r0) := (hsat _ _ hs).1
         rw [h1.2.2] at hO
         exact hO.V
        ·intro i R hi
         cases i with
         | zero =>
           have hi' : some (Res.ow e' t' x) = some R := hi
           cases hi'
           exact ⟨r0, _, rfl, hs, rfl, rfl⟩
         | succ i =>
           obtain ⟨r1, e1, b1, b2⟩ := a3 i R (by simpa [RM.resL, RM.res] using hi)
           exact ⟨r1, e1, by simpa using b1, b2⟩
     ·cases h
    ·cases h
   ·cases h
 | .bx t :: l, svs, o, ids, n, vs, h, hr, hk, hN => by
   simp only [qcz] at h
   split at h
   ·rename_i r0 T0 k0 p svs'
    split at h
    ·rename_i T' x lk y ids' hs hy
     split at h
     ·rename_i ht
      subst ht
      cases hb : Nat.beq p.off 0 with
      | false => rw [hb] at h; cases h
      | true =>
        rw [hb] at h
        have hoff := Nat.eq_of_beq_eq_true hb
        simp only [cond_true, Option.some.injEq, Prod.mk.injEq] at h
        obtain ⟨rfl, rfl⟩ := h
        obtain ⟨u, r, e, h1, h2⟩ := hr
        simp only [List.length_cons] at hN
        obtain ⟨a1, a2, a3⟩ := qc1 hsat (n := n + 1) (N := N) (θ' := θ') hy h2 (fun i r hi => by
         have := hk (i + 1) r (by simpa using hi)
         rwa [show n + (i + 1) = n + 1 + i from by omega] at this) (by omega)
        have hk0 := hk 0 r0 rfl
        obtain ⟨_, _, b, o', hkey, hv⟩ := h1
        refine ⟨⟨u, r, e, ⟨by omega, trivial, b, o', hk0.trans hkey, by rw [hv, hoff]; rfl⟩, a1⟩, by show (RM.res (.bx T') x ++ RM.resL l y).length = _; rw [List.length_append, a2]; simp [RM.res]; omega, ?_⟩
        intro i R hi
        cases i with
        | zero =>
          have hi' : some (Res.bx T' x []) = some R := hi
          cases hi'
          exact ⟨r0, _, rfl, hs, rfl, rfl⟩
        | succ i =>
          obtain ⟨r1, e1, b1, b2⟩ := a3 i R (by simpa [RM.resL, RM.res] using hi)
          exact ⟨r1, e1, by simpa using b1, b2⟩
     ·cases h
    ·cases h
   ·cases h
 | .rw eo t :: l, svs, o, ids, n, vs, h, hr, hk, hN => by
   simp only [qcz] at h
   split at h
   ·rename_i r0 svs'
    split at h
    ·rename_i e' t' x lk y ids' hs hy
     split at h
     ·rename_i ht
      subst ht
      cases hb : Nat.beq e' eo with
      | false => rw [hb] at h; cases h
      | true =>
        rw [hb] at h
        obtain rfl := Nat.eq_of_beq_eq_true hb
        simp only [cond_true, Option.some.injEq, Prod.mk.injEq] at h
        obtain ⟨rfl, rfl⟩ := h
        obtain ⟨u, r, e, h1, h2⟩ := hr
        simp only [List.length_cons] at hN
        obtain ⟨a1, a2, a3⟩ := qc1 hsat (n := n + 1) (N := N) (θ' := θ') hy h2 (fun i r hi => by
         have := hk (i + 1) r (by simpa using hi)
         rwa [show n + (i + 1) = n + 1 + i from by omega] at this) (by omega)
        have hk0 := hk 0 r0 rfl
        refine ⟨⟨u, r, e, ⟨by omega, hk0.trans h1.2⟩, a1⟩, by show (RM.res (.rw e' t') x ++ RM.resL l y).length = _; rw [List.length_append, a2]; simp [RM.res]; omega, ?_⟩
        intro i R hi
        cases i with
        | zero =>
          have hi' : some (Res.rw e' t' x) = some R := hi
          cases hi'
          exact ⟨r0, _, rfl, hs, rfl, rfl⟩
        | succ i =>
          obtain ⟨r1, e1, b1, b2⟩ := a3 i R (by simpa [RM.resL, RM.res] using hi)
          exact ⟨r1, e1, by simpa using b1, b2⟩
     ·cases h
    ·cases h
   ·cases h
mutual
theorem PM.res_plain : ∀ {m : PM} {a : PM.den m}, ∀ p ∈ PM.res m a, p.1.plain
 | .v _, a, p, h => by simp [PM.res] at h
 | .nil, a, p, h => by simp [PM.res] at h
 | .snil, a, p, h => by simp [PM.res] at h
 | .bx _ _, a, p, h => by simp [PM.res] at h; subst h; exact rfl
 | .bk _ _, a, p, h => by simp [PM.res] at h; subst h; trivial
 | .rw _ _ _, a, p, h => by simp [PM.res] at h; subst h; trivial
 | .fn _ cs, a, p, h => PM.resL_plain (l := cs) p h
theorem PM.resL_plain : ∀ {l : List PM} {a : PM.denL l}, ∀ p ∈ PM.resL l a, p.1.plain
 | [], a, p, h => by simp [PM.resL] at h
 | m :: l, a, p, h => by
   rcases List.mem_append.1 (show p ∈ PM.res m a.1 ++ PM.resL l a.2 from h) with h | h
   ·exact PM.res_plain p h
   ·exact PM.resL_plain p h
end
theorem PM.aft_plain : ∀ {l : List PM} {a : PM.denL l} {m : PM.MD l}, ∀ R ∈ PM.aft l a m, R.plain
 | [], a, m, R, h => by simp [PM.aft] at h
 | .v _ :: l, a, m, R, h => PM.aft_plain (l := l) (a := a.2) R h
 | .nil :: l, a, m, R, h => PM.aft_plain (l := l) (a := a.2) R h
 | .snil :: l, a, m, R, h => PM.aft_plain (l := l) (a := a.2) R h
 | .bx t true :: l, a, m, R, h => by
   rcases List.mem_cons.1 (show R ∈ Res.bx t m.1 [] :: PM.aft l a.2 m.2 from h) with rfl | h
   ·exact rfl
   ·exact PM.aft_plain R h
 | .bk e true :: l, a, m, R, h => by
   rcases List.mem_cons.1 (show R ∈ Res.bk e m.1 :: PM.aft l a.2 m.2 from h) with rfl | h
   ·trivial
   ·exact PM.aft_plain R h
 | .rw e t true :: l, a, m, R, h => by
   rcases List.mem_cons.1 (show R ∈ Res.rw e t m.1 :: PM.aft l a.2 m.2 from h) with rfl | h
   ·trivial
   ·exact PM.aft_plain R h
 | .bx t false :: l, a, m, R, h => by
   rcases List.mem_cons.1 (show R ∈ Res.bx t a.1 [] :: PM.aft l a.2 m from h) with rfl | h
   ·exact rfl
   ·exact PM.aft_plain R h
 | .bk e false :: l, a, m, R, h => by
   rcases List.mem_cons.1 (show R ∈ Res.bk e a.1 :: PM.aft l a.2 m from h) with rfl | h
   ·trivial
   ·exact PM.aft_plain R h
 | .rw e t false :: l, a, m, R, h => by
   rcases List.mem_cons.1 (show R ∈ Res.rw e t a.1 :: PM.aft l a.2 m from h) with rfl | h
   ·trivial
   ·exact PM.aft_plain R h
 | .fn f cs :: l, a, m, R, h => by
   rcases List.mem_append.1 (show R ∈ (PM.res (.fn f cs) a.1).map (·.1) ++ PM.aft l a.2 m from h) with h | h
   ·obtain ⟨p, hp, rfl⟩ := List.mem_map.1 h
    exact PM.res_plain p hp
   ·exact PM.aft_plain R h
def qa7 (n : Nat) (ids : List Nat) (r : Nat) : Nat := if r < n then r else ids.getD (r - n) 0
section
variable {X : Fx} {f : Nat} {C : Ctr}
theorem qfS : ∀ {l : List Nat}, qaN l = true → ∀ {i j r : Nat}, l[i]? = some r → l[j]? = some r → i = j
 | [], _, i, j, r, hi, _ => by simp at hi
 | a :: l, h, i, j, r, hi, hj => by
   simp only [qaN, Bool.and_eq_true, Bool.not_eq_true'] at h
   have hn : a ∉ l := fun hm => by rw [qb8.2 hm] at h; exact absurd h.1 (by simp)
   cases i with
   | zero =>
     cases j with
     | zero => rfl
     | succ j =>
       simp at hi
       subst hi
       exact absurd (List.mem_of_getElem? (by simpa using hj)) hn
   | succ i =>
     cases j with
     | zero =>
       simp at hj
       subst hj
       exact absurd (List.mem_of_getElem? (by simpa using hi)) hn
     | succ j =>
       have h1 : l[i]? = some r := by simpa using hi
       have h2 : l[j]? = some r := by simpa using hj
       rw [qfS h.2 h1 h2]
def qhi (pm : List PM) (a : PM.denL pm) (θ : Th) (w : World) (K : Ghost) : Glob :=
 { w0 := w, K0 := K, X := qmw (PM.resL pm a) θ, F0 := fun j g => (∃ R, (PM.resL pm a)[j]? = some (R, true)) ∧ θ.fp j g,
   hX := fun j g ⟨⟨R, h1⟩, h2⟩ => ⟨j, R, h1, h2⟩, Kb := K, θb := θ, nb := (PM.resL pm a).length,
   frz := fun r => match (PM.resL pm a)[r]? with
    | some (R, false) => some ⟨R, .ro, true⟩
    | _ => none }
theorem qjC {pm : List PM} {a : PM.denL pm} {θ : Th} {w : World} {K : Ghost} : ∀ r e, (qhi pm a θ w K).frz r = some e → ∃ R, (PM.resL pm a)[r]? = some (R, false) ∧ e = ⟨R, .ro, true⟩ := fun r e he => by
 have he' : (match (PM.resL pm a)[r]? with
  | some (R, false) => some (⟨R, .ro, true⟩ : RE)
  | _ => none) = some e := he
 split at he'
 ·rename_i R hR
  cases he'
  exact ⟨R, hR, rfl⟩
 ·cases he'
theorem qfq {pm : List PM} {a : PM.denL pm} {θ : Th} {w : World} {K : Ghost} : (qhi pm a θ w K).fine := ⟨fun r e he => by
 obtain ⟨R, _, rfl⟩ := qjC r e he
 rfl⟩
theorem qlP {pm : List PM} {a : PM.denL pm} {θ : Th} {vs : List Value} {w : World} {K : Ghost} (hM : Models w K) (hargs : ArgsOk pm a θ vs w K) : Rel (qhi pm a θ w K) (entF pm a) θ (qei vs) w K := by
 have hres : ∀ r e, (entF pm a).res r = some e → ∃ R u, (PM.resL pm a)[r]? = some (R, u) ∧ e = ⟨R, bif u then .par r else .ro, !u⟩ := fun r e he => by
  have he' : (match (PM.resL pm a)[r]? with
   | some (R, u) => some (⟨R, bif u then .par r else .ro, !u⟩ : RE)
   | none => none) = some e := he
  split at he'
  ·rename_i R u hR
   cases he'
   exact ⟨R, u, hR, rfl⟩
  ·cases he'
 refine ⟨hM, Ext.refl _ _ _, Ghost.le.refl _, Th.upto.refl _ _, Nat.le_refl _, ?_, ?_, ?_, ?_⟩
 ·intro r e he
  obtain ⟨R, hR, rfl⟩ := qjC r e he
  refine ⟨?_, rfl⟩
  show (match (PM.resL pm a)[r]? with
   | some (R, u) => some (⟨R, bif u then .par r else .ro, !u⟩ : RE)
   | none => none) = _
  rw [hR]
  rfl
 ·intro t v hv
  obtain ⟨u, hu, hr⟩ := qgh hargs.vals hv
  have : qei vs t = u := by simp [qei, List.getD_eq_getElem?_getD, hu]
  rw [this]
  exact hr
 ·intro r e he
  obtain ⟨R, u, hR, rfl⟩ := hres r e he
  refine ⟨(List.getElem?_eq_some_iff.1 hR).1, hargs.sat r R u hR, ?_⟩
  cases u with
  | true => exact fun g hg => .inl ⟨⟨R, hR⟩, hg⟩
  | false => trivial
 ·intro r r' e e' h1 h2 hne
  obtain ⟨R, u, hR, _⟩ := hres r e h1
  obtain ⟨R', u', hR', _⟩ := hres r' e' h2
  exact hargs.apart r r' (List.getElem?_eq_some_iff.1 hR).1 (List.getElem?_eq_some_iff.1 hR').1 hne
theorem qsF {a : PM.denL C.pm} {θ : Th} {w : World} {K : Ghost} (ρ2 : Env) (w2 : World) (K2 : Ghost) (θ2 : Th) (s : St) (svs : List SVal) (us : List Value) (ids : List Nat) (h2 : Rel (qhi C.pm a θ w K) s θ2 ρ2 w2 K2) (hus : SVal.relL θ2 s.nx K2 svs us) (hro : qcz s C.rm svs = some ((C.out a).1, ids)) (hrm : qbH s C.pm 0 = some (C.out a).2) (hdi : qaN ids = true) : ∃ θ', OutOk C a θ w K (tupV us) w2 K2 θ' := by
 have hlenE : (C.ends a).length = (PM.resL C.pm a).length + ids.length := by
  unfold Ctr.ends
  rw [List.length_append, PM.aft_len, (qc1 (fun r e he => (h2.res r e he).2.1) (θ' := θ2.via (qa7 0 ids)) (N := ids.length) (n := 0) hro hus (fun i r hi => by
   show θ2.key (qa7 0 ids (0 + i)) = _
   simp [qa7, List.getD_eq_getElem?_getD, hi]) (by simp)).2.1]
 have hnew : ∀ i r, ids[i]? = some r → qa7 (PM.resL C.pm a).length ids ((PM.resL C.pm a).length + i) = r := fun i r hi => by
  unfold qa7
  rw [if_neg (by omega), Nat.add_sub_cancel_left, List.getD_eq_getElem?_getD, hi]
  rfl
 have hold : ∀ r, r < (PM.resL C.pm a).length → qa7 (PM.resL C.pm a).length ids r = r := fun r hr => by simp [qa7, hr]
 obtain ⟨o1, o2, o3⟩ := qc1 (fun r e he => (h2.res r e he).2.1) (θ' := θ2.via (qa7 (PM.resL C.pm a).length ids)) (N := (C.ends a).length) (n := (PM.resL C.pm a).length) hro hus (fun i r hi => by
  show θ2.key (qa7 _ ids _) = _
  rw [hnew i r hi]) (by omega)
 have hmut := qbc (a := a) hrm (fun j R hj => by
  have hz : (qhi C.pm a θ w K).frz j = some ⟨R, .ro, true⟩ := by
   show (match (PM.resL C.pm a)[j]? with
    | some (R, false) => some (⟨R, .ro, true⟩ : RE)
    | _ => none) = _
   rw [hj]
  rw [Nat.zero_add]
  exact ⟨_, (h2.frz j _ hz).1, rfl, rfl⟩)
 have hro2 : ∀ j R, (PM.resL C.pm a)[j]? = some (R, false) → θ2.fp j = θ.fp j := fun j R hj => by
  have hz : (qhi C.pm a θ w K).frz j = some ⟨R, .ro, true⟩ := by
   show (match (PM.resL C.pm a)[j]? with
    | some (R, false) => some (⟨R, .ro, true⟩ : RE)
    | _ => none) = _
   rw [hj]
  exact (h2.frz j _ hz).2
 have hat : ∀ r, r < (C.ends a).length → ∃ e R, s.res (qa7 (PM.resL C.pm a).length ids r) = some e ∧ (C.ends a)[r]? = some R ∧ e.r = R ∧ ((r < (PM.resL C.pm a).length ∧ ((e.org = .par r ∧ ∃ R0, (PM.resL C.pm a)[r]? = some (R0, true)) ∨ (e.org = .ro ∧ ∃ R0, (PM.resL C.pm a)[r]? = some (R0, false)))) ∨ ((PM.resL C.pm a).length ≤ r ∧ e.org = .new ∧ ∃ q, ids[r - (PM.resL C.pm a).length]? = some q ∧ qa7 (PM.resL C.pm a).length ids r = q)) := fun r hr => by
  have hR := List.getElem?_eq_getElem hr
  rcases Nat.lt_or_ge r (PM.resL C.pm a).length with hlt | hge
  ·have hR' : (PM.aft C.pm a (C.out a).2)[r]? = some (C.ends a)[r] := by
    rw [← hR]
    unfold Ctr.ends
    rw [List.getElem?_append_left (by rw [PM.aft_len]; exact hlt)]
   obtain ⟨e, e1, e2, e3⟩ := hmut r _ hR'
   rw [Nat.zero_add] at e1 e3
   refine ⟨e, _, by rw [hold r hlt]; exact e1, hR, e2, .inl ⟨hlt, e3⟩⟩
  ·have hR' : (RM.resL C.rm (C.out a).1)[r - (PM.resL C.pm a).length]? = some (C.ends a)[r] := by
    rw [← hR]
    unfold Ctr.ends
    rw [List.getElem?_append_right (by rw [PM.aft_len]; exact hge), PM.aft_len]
   obtain ⟨q, e, e1, e2, e3, e4⟩ := o3 _ _ hR'
   have hq : qa7 (PM.resL C.pm a).length ids r = q := by
    have := hnew _ q e1
    rwa [show (PM.resL C.pm a).length + (r - (PM.resL C.pm a).length) = r from by omega] at this
   exact ⟨e, _, by rw [hq]; exact e2, hR, e3, .inr ⟨hge, e4, q, e1, hq⟩⟩
 refine ⟨θ2.via (qa7 (PM.resL C.pm a).length ids), ⟨h2.ext, h2.mod, fun r hr => ?_, ⟨us, rfl, o1⟩, ?_, ?_, ?_, ?_⟩⟩
 ·show θ2.key (qa7 _ ids r) = _ ∧ θ2.sur (qa7 _ ids r) = _
  rw [hold r hr]
  exact h2.old r hr
 ·intro r R hR
  obtain ⟨e, R', e1, e2, e3, e4⟩ := hat r (List.getElem?_eq_some_iff.1 hR).1
  rw [hR] at e2
  cases e2
  have hs := (h2.res _ _ e1).2.1
  have hp : R.plain := by
   unfold Ctr.ends at hR
   rcases List.mem_append.1 (List.mem_of_getElem? hR) with hm | hm
   ·exact PM.aft_plain R hm
   ·exact RM.plain R hm
  rw [e3] at hs
  exact Res.sat.move (θ := θ2) (θ' := θ2.via (qa7 (PM.resL C.pm a).length ids)) (r := qa7 (PM.resL C.pm a).length ids r) (r' := r) rfl rfl rfl hp hs
 ·intro r hr g hg
  have hg' : θ2.fp (qa7 (PM.resL C.pm a).length ids r) g := hg
  rw [hold r hr] at hg'
  obtain ⟨e, R', e1, e2, e3, e4⟩ := hat r (by omega)
  rw [hold r hr] at e1
  rcases e4 with ⟨_, ⟨e5, _⟩ | e5⟩ | ⟨e5, _⟩
  ·have ho := (h2.res _ _ e1).2.2
   rw [e5] at ho
   exact (ho g hg').imp (fun h => h.2) (fun h => h)
  ·obtain ⟨_, R0, hx⟩ := e5
   rw [hro2 r R0 hx] at hg'
   exact .inl hg'
  ·omega
 ·intro r hr1 hr2 g hg
  obtain ⟨e, R', e1, e2, e3, e4⟩ := hat r hr2
  rcases e4 with ⟨e5, _⟩ | ⟨_, e5, _⟩
  ·omega
  ·have ho := (h2.res _ _ e1).2.2
   rw [e5] at ho
   exact ho g hg
 ·intro r r' hr hr' hne g hg hg'
  obtain ⟨e, R, e1, _, _, e4⟩ := hat r hr
  obtain ⟨e', R', e1', _, _, e4'⟩ := hat r' hr'
  refine h2.sep _ _ e e' e1 e1' (fun heq => ?_) g hg hg'
  rw [heq] at e1
  rw [e1] at e1'
  cases e1'
  rcases e4 with ⟨a1, a2⟩ | ⟨a1, a2, q, a3, a4⟩ <;> rcases e4' with ⟨b1, b2⟩ | ⟨b1, b2, q', b3, b4⟩
  ·rw [hold r a1, hold r' b1] at heq
   exact hne heq
  ·rcases a2 with ⟨a2, _⟩ | ⟨a2, _⟩ <;> rw [a2] at b2 <;> cases b2
  ·rcases b2 with ⟨b2, _⟩ | ⟨b2, _⟩ <;> rw [b2] at a2 <;> cases a2
  ·rw [a4, b4] at heq
   subst heq
   have := qfS hdi a3 b3
   omega
theorem qkC (hX : X.ok) (fuel : Nat) (h : ∀ a, C.pre a → PM.wfP C.pm a (fvc X fuel f C a fun o m => o = (C.out a).1 ∧ m = (C.out a).2)) : C.valid X.c.P f := by
 intro a hpre θ vs w K hM hargs
 have hvc := PM.wfP_ok hargs.vals (fun j R u hj => by rw [Nat.zero_add]; exact hargs.sat j R u hj) (h a hpre)
 unfold fvc at hvc
 split at hvc
 ·rename_i fn hfn
  split at hvc
  ·rename_i code hcode
   cases hlen : Nat.ble (PM.svL C.pm a 0).length fn.ntmps with
   | false => rw [hlen] at hvc; exact hvc.elim
   | true =>
     rw [hlen] at hvc
     simp only [cond_true] at hvc
     have hl : vs.length = (PM.svL C.pm a 0).length := qgi hargs.vals
     have hlen' : vs.length ≤ fn.ntmps := by rw [hl]; exact Nat.le_of_ble_eq_true hlen
     refine qaW hfn hcode hlen' ((qfm hX (qiG hX) fuel fn.ntmps code (entF C.pm a) _ hvc (qhi C.pm a θ w K) θ (qei vs) w K qfq (qlP hM hargs)).mono ?_)
     have fin : ∀ (ρ2 : Env) (w2 : World) (K2 : Ghost) (θ2 : Th) (s : St), Rel (qhi C.pm a θ w K) s θ2 ρ2 w2 K2 → finF X C fn.results s (fun o m => o = (C.out a).1 ∧ m = (C.out a).2) → ∃ v, (resE X.c.P fn.results ρ2).run X.c.P w2 = .ok v w2 ∧ ∃ v' K' θ', Ending.returned v = .returned v' ∧ OutOk C a θ w K v' w2 K' θ' := fun ρ2 w2 K2 θ2 s h2 hk => by
      unfold finF at hk
      obtain ⟨θ3, h3, _⟩ := qfA X.c qfq (l := qcB fn.results.toList) h2
      split at hk
      ·rename_i svs hsv
       split at hk
       ·rename_i o ids m ho hm
        cases hd : qaN ids with
        | false => rw [hd] at hk; exact hk.elim
        | true =>
          rw [hd] at hk
          obtain ⟨k1, k2⟩ := hk
          subst k1; subst k2
          obtain ⟨us, hus, hrun⟩ := qg1 hX.c h3 hsv
          obtain ⟨θ', hO⟩ := qsF ρ2 w2 K2 θ3 _ svs us ids h3 hus ho hm hd
          exact ⟨_, hrun, _, K2, θ', rfl, hO⟩
       ·exact hk.elim
      ·exact hk.elim
     rintro e ρ2 w2 ⟨K2, θ2, s, hk2, h2, _⟩
     cases e with
     | normal =>
       obtain ⟨v, h1, v', K', θ', h3, h4⟩ := fin ρ2 w2 K2 θ2 s h2 hk2
       exact ⟨v, h1, v', K', θ', h3, h4⟩
     | ret =>
       obtain ⟨v, h1, v', K', θ', h3, h4⟩ := fin ρ2 w2 K2 θ2 s h2 hk2
       exact ⟨v, h1, v', K', θ', h3, h4⟩
     | exit id => exact hk2.elim
     | goto id => exact hk2.elim
     | panic ch => exact hk2.elim
     | outgrown => exact hk2.elim
  ·exact hvc.elim
 ·exact hvc.elim
end
def qn2 (P : Program) : List (Nat × Bool × Ty × Nat) → Prop
 | [] => True
 | e :: l => TyOk P e.1 e.2.2.1.kd e.2.2.2 ∧ qn2 P l
def qnp (P : Program) : List (Nat × Ty × Nat) → Prop
 | [] => True
 | e :: l => @EqK _ P e.1 e.2.1.kd e.2.1.deq e.2.2 ∧ qnp P l
def qmB (P : Program) : List Nat → Prop
 | [] => True
 | f :: l => (∀ (args : Array Value) (w : World), (callFunc f args).run P w = .ok (.enter f args) w) ∧ qmB P l
theorem qn2.all {P : Program} : ∀ {l : List (Nat × Bool × Ty × Nat)}, qn2 P l → ∀ e ∈ l, TyOk P e.1 e.2.2.1.kd e.2.2.2
 | [], _, e, he => by cases he
 | e' :: l, h, e, he => by
   rcases List.mem_cons.1 he with rfl | he
   ·exact h.1
   ·exact qn2.all h.2 e he
theorem qnp.all {P : Program} : ∀ {l : List (Nat × Ty × Nat)}, qnp P l → ∀ e ∈ l, @EqK _ P e.1 e.2.1.kd e.2.1.deq e.2.2
 | [], _, e, he => by cases he
 | e' :: l, h, e, he => by
   rcases List.mem_cons.1 he with rfl | he
   ·exact h.1
   ·exact qnp.all h.2 e he
theorem qmB.all {P : Program} : ∀ {l : List Nat}, qmB P l → ∀ f ∈ l, ∀ (args : Array Value) (w : World), (callFunc f args).run P w = .ok (.enter f args) w
 | [], _, f, hf => by cases hf
 | f' :: l, h, f, hf => by
   rcases List.mem_cons.1 hf with rfl | hf
   ·exact h.1
   ·exact qmB.all h.2 f hf
def EqT (P : Program) (id : Nat) (t : Ty) (m : Nat) : Prop := @EqK t.den P id t.kd t.deq m
def EqFT (P : Program) (fs : List Field) (off : Nat) (t : Ty) (m : Nat) : Prop := @EqF t.den P fs off t.kd t.deq m
theorem EqT.more {P : Program} {id : Nat} {t : Ty} {m m' : Nat} (h : EqT P id t m) (hm : Nat.ble m m' = true) : EqT P id t m' := @EqK.more _ _ _ _ t.deq _ _ h (Nat.le_of_ble_eq_true hm)
theorem qoA {P : Program} {id : Nat} {ik : IntKind} (ht : P.underlying id = some (.int ik)) : EqT P id (.int ik) 1 := qt6 ht
theorem qbv {P : Program} {id e n b : Nat} (ht : P.underlying id = some (.array n e)) (he : P.underlying e = some (.int .u8)) (hT : TyOk P e (Ty.kd .byte) b) : EqT P id (.arr n .byte) 2 := qt5 ht he hT
theorem qf8 {P : Program} {f : Field} {off m b : Nat} {t : Ty} (hT : TyOk P f.type t.kd b) (ho : Nat.beq f.offset off = true) (hn : f.name ≠ "_") (hE : EqT P f.type t m) : EqFT P [f] off t m := @qt4 _ _ _ _ t.deq _ _ _ hT ho hn hE
theorem qaX {P : Program} {fs : List Field} {f : Field} {off m b : Nat} {t u : Ty} (hT : TyOk P f.type t.kd b) (ho : Nat.beq f.offset off = true) (hn : f.name ≠ "_") (hE : EqT P f.type t m) (hF : EqFT P fs (off + t.kd.sz) u m) : EqFT P (f :: fs) off (.pr t u) m := @qq4 _ _ _ _ _ _ t.deq u.deq _ _ _ _ hT ho hn hE hF
theorem qdS {P : Program} {id m : Nat} {fs : Array Field} {t : Ty} (ht : P.underlying id = some (.struct fs)) (hp : P.stoodInHeld id = false) (ha : t.kd.agg = true) (hF : EqFT P fs.toList 0 t m) : EqT P id t (m + 1) := @qmQ _ _ _ _ t.deq _ _ ht hp ha hF
end Go.Inc

set_option linter.unusedVariables false
namespace Go.Inc
open Go Go.RowKit
def conj : List Prop → Prop
 | [] => True
 | [p] => p
 | p :: q :: l => p ∧ conj (q :: l)
theorem qez {p : Prop} {l : List Prop} : conj (p :: l) = (p ∧ conj l) := by
 cases l with
 | nil => simp [conj]
 | cons q l => rfl
def eqRL : (l : List RM) → RM.denL l → RM.denL l → List Prop → List Prop
 | [], _, _, L => L
 | m :: l, x, y, L => (x.1 = y.1) :: eqRL l x.2 y.2 L
def eqML : (l : List PM) → PM.MD l → PM.MD l → List Prop
 | [], _, _ => []
 | .v _ :: l, x, y => eqML l x y
 | .nil :: l, x, y => eqML l x y
 | .snil :: l, x, y => eqML l x y
 | .bx _ true :: l, x, y => (x.1 = y.1) :: eqML l x.2 y.2
 | .bk _ true :: l, x, y => (x.1 = y.1) :: eqML l x.2 y.2
 | .rw _ _ true :: l, x, y => (x.1 = y.1) :: eqML l x.2 y.2
 | .rw _ _ false :: l, x, y => eqML l x y
 | .bx _ false :: l, x, y => eqML l x y
 | .bk _ false :: l, x, y => eqML l x y
 | .fn _ _ :: l, x, y => eqML l x y
theorem qoz : ∀ {l : List RM} {x y : RM.denL l} {L : List Prop}, conj (eqRL l x y L) = (x = y ∧ conj L)
 | [], x, y, L => by cases x; cases y; simp [eqRL]
 | m :: l, x, y, L => by
   obtain ⟨x1, x2⟩ := x
   obtain ⟨y1, y2⟩ := y
   rw [eqRL, qez, qoz]
   simp only [Prod.mk.injEq, and_assoc]
theorem qch : ∀ {l : List PM} {x y : PM.MD l}, conj (eqML l x y) = (x = y)
 | [], x, y => by cases x; cases y; simp [eqML, conj]
 | .v _ :: l, x, y => qch (l := l)
 | .nil :: l, x, y => qch (l := l)
 | .snil :: l, x, y => qch (l := l)
 | .bx _ true :: l, x, y => by
   obtain ⟨x1, x2⟩ := x
   obtain ⟨y1, y2⟩ := y
   rw [eqML, qez, qch (l := l)]
   simp only [Prod.mk.injEq]
 | .rw _ _ true :: l, x, y => by
   obtain ⟨x1, x2⟩ := x
   obtain ⟨y1, y2⟩ := y
   rw [eqML, qez, qch (l := l)]
   simp only [Prod.mk.injEq]
 | .rw _ _ false :: l, x, y => qch (l := l)
 | .bk _ true :: l, x, y => by
   obtain ⟨x1, x2⟩ := x
   obtain ⟨y1, y2⟩ := y
   rw [eqML, qez, qch (l := l)]
   simp only [Prod.mk.injEq]
 | .bx _ false :: l, x, y => qch (l := l)
 | .bk _ false :: l, x, y => qch (l := l)
 | .fn _ _ :: l, x, y => qch (l := l)
def eqO (C : Ctr) (a : PM.denL C.pm) (o : RM.denL C.rm) (m : PM.MD C.pm) : Prop := conj (eqRL C.rm o (C.out a).1 (eqML C.pm m (C.out a).2))
theorem qsy {C : Ctr} {a : PM.denL C.pm} : eqO C a = fun o m => o = (C.out a).1 ∧ m = (C.out a).2 := by
 funext o m
 rw [eqO, qoz, qch]
theorem qau {X : Fx} {C : Ctr} {f : Nat} (hX : X.ok) (fuel : Nat) (h : ∀ a, C.pre a → PM.wfP C.pm a (fvc X fuel f C a (eqO C a))) : C.valid X.c.P f := qkC hX fuel fun a hp => by
 have := h a hp
 rwa [qsy] at this
theorem qaJ {c : Seat} {bk : Option Bk} {fns : List Nat} {ctr : List (Nat × Ctr)} {inl : List Nat} {lps : List (Nat × List Nat × List Nat)} {ords : List (Nat × List Nat × List It)} (hc : c.ok) (hb : ∀ b, bk = some b → TyOk c.P b.t qeF b.bytes) (hf : qmB c.P fns) (h : qln c.P ctr) : Fx.ok ⟨c, bk, fns, ctr, inl, lps, ords⟩ := ⟨hc, hb, hf.all, h⟩
end Go.Inc

set_option linter.unusedVariables false
namespace Go.Inc
open Go Go.RowKit
section
variable {P : Program} {f : FuncId} {pm : List PM} {e : Nat} {k : Ty} {w w' : World} {K K' : Ghost} {θ : Th}
theorem qik {l : List PM} {a : PM.denL l} {b : PM.MD l} (h : PM.resL l a = []) : PM.aft l a b = [] := by
 have := PM.aft_len (l := l) (a := a) (b := b)
 rw [h] at this
 exact List.length_eq_zero_iff.1 this
theorem qdk {t : Ty} {x : t.den} {n : Nat} {v : Value} (h : (SVal.of t x).rel θ n K v) (ho : (SVal.of t x).to t = some x) : t.kd.V K x v := SVal.to_rel ho h
theorem br_v {C : Ctr} (h0 : ∀ a, PM.resL C.pm a = []) (h1 : ∀ x, RM.resL C.rm x = []) (old : ∀ a, C.pre a → ∀ (θ : Th) (vs : List Value) (w : World) (K : Ghost), Models w K → SVal.relL θ 0 K (PM.svL C.pm a 0) vs → Calls P f vs.toArray w fun e w' => ∃ K' rs, e = .returned (tupV rs) ∧ Ext NX w K w' K' ∧ Models w' K' ∧ SVal.relL θ 0 K' (RM.svL C.rm (C.out a).1 0) rs) : C.valid P f := by
 intro a hp θ vs w K hM hA
 have hv := hA.vals
 rw [h0] at hv
 refine (old a hp θ vs w K hM hv).mono ?_
 rintro ed w' ⟨K', rs, rfl, hE, hM', hr⟩
 have hends : C.ends a = [] := by unfold Ctr.ends; rw [h1, qik (h0 a)]; rfl
 refine ⟨_, K', θ, rfl, hE.weak fun _ _ h => h.elim, hM', Th.upto.refl _ _, ⟨rs, rfl, ?_⟩, fun r R hR => ?_, fun r hr => ?_, fun r h1 h2 => ?_, fun r r' h1 => ?_⟩
 ·rw [hends, h0]; exact hr
 ·rw [hends] at hR; simp at hR
 ·rw [h0] at hr; simp at hr
 ·rw [hends] at h2; simp at h2
 ·rw [hends] at h1; simp at h1
theorem qxg {pr : Option (PM.denL pm → Prop)} {out : PM.denL pm → RM.denL [.ow e k] × PM.MD pm} (h0 : ∀ a, PM.resL pm a = []) (old : ∀ a, Ctr.pre ⟨pm, [.ow e k], pr, out⟩ a → ∀ (θ : Th) (vs : List Value) (w : World) (K : Ghost), Models w K → SVal.relL θ 0 K (PM.svL pm a 0) vs → Calls P f vs.toArray w fun ed w' => ∃ K' r0, ed = .returned r0 ∧ Ext NX w K w' K' ∧ Models w' K' ∧ Own k.kd e w' K' (out a).1.1 r0 ∧ (∀ g, ob r0 = some g → w.heap.size ≤ g)) : Ctr.valid P f ⟨pm, [.ow e k], pr, out⟩ := by
 intro a hp θ vs w K hM hA
 have hv := hA.vals
 rw [h0] at hv
 refine (old a hp θ vs w K hM hv).mono ?_
 rintro ed w' ⟨K', r0, rfl, hE, hM', hO, hg⟩
 have hends : Ctr.ends ⟨pm, [.ow e k], pr, out⟩ a = [.ow e k (out a).1.1] := by unfold Ctr.ends; rw [qik (h0 a)]; rfl
 refine ⟨_, K', θ.set 0 r0 (fun g => ob r0 = some g) ([], []), rfl, hE.weak fun _ _ h => h.elim, hM', ?_, ⟨[r0], rfl, ?_⟩, fun r R hR => ?_, fun r hr => ?_, fun r h1 h2 => ?_, fun r r' h1 h2 h3 => ?_⟩
 ·intro r hr
  rw [h0] at hr
  simp at hr
 ·rw [hends, h0]
  exact ⟨r0, [], rfl, ⟨Nat.zero_lt_one, hO.V, Th.set_key⟩, rfl⟩
 ·rw [hends] at hR
  cases r with
  | succ r => simp at hR
  | zero =>
    simp at hR
    subst hR
    exact ⟨by rw [Th.set_key]; exact hO, fun g => by rw [Th.set_fp, Th.set_key]⟩
 ·rw [h0] at hr; simp at hr
 ·intro g hg'
  rw [hends] at h2
  have : r = 0 := by simpa using h2
  subst this
  rw [Th.set_fp] at hg'
  exact hg g hg'
 ·rw [hends] at h1 h2
  simp at h1 h2
  omega
theorem qxf {rm : List RM} {pr : Option (PM.denL (.bk e true :: pm) → Prop)} {out : PM.denL (.bk e true :: pm) → RM.denL rm × PM.MD (.bk e true :: pm)} (h0 : ∀ a, PM.resL pm a = []) (h1 : ∀ x, RM.resL rm x = []) (old : ∀ a, Ctr.pre ⟨.bk e true :: pm, rm, pr, out⟩ a → ∀ (θ : Th) (v : Value) (F : Nat → Prop) (vs : List Value) (w : World) (K : Ghost), Models w K → qa0 e w K v F a.1 → SVal.relL θ 1 K (PM.svL pm a.2 1) vs → Calls P f (v :: vs).toArray w fun ed w' => ∃ K' rs F0, ed = .returned (tupV rs) ∧ Ext F w K w' K' ∧ Models w' K' ∧ (∀ θ', SVal.relL θ' 1 K' (RM.svL rm (out a).1 1) rs) ∧ qa0 e w' K' v F0 (out a).2.1 ∧ (∀ g, F0 g → F g ∨ w.heap.size ≤ g)) : Ctr.valid P f ⟨.bk e true :: pm, rm, pr, out⟩ := by
 intro a hp θ vs w K hM hA
 have hres : PM.resL (.bk e true :: pm) a = [(.bk e a.1, true)] := by
  show PM.res (.bk e true) a.1 ++ PM.resL pm a.2 = _
  rw [h0]
  rfl
 have hv := hA.vals
 rw [hres] at hv
 obtain ⟨v, vs, rfl, hv1, hv2⟩ := hv
 have hsat : (Res.bk e a.1).sat θ 0 1 w K := by
  have := hA.sat 0 (.bk e a.1) true (by rw [hres]; rfl)
  rwa [hres] at this
 have hkey : θ.key 0 = v := hv1.2
 have hB : qa0 e w K v (θ.fp 0) a.1 := hkey ▸ hsat
 refine (old a hp θ v _ vs w K hM hB hv2).mono ?_
 rintro ed w' ⟨K', rs, F0, rfl, hE, hM', hr, hB', hg⟩
 have hends : Ctr.ends ⟨.bk e true :: pm, rm, pr, out⟩ a = [.bk e (out a).2.1] := by
  unfold Ctr.ends
  rw [h1]
  show .bk e (out a).2.1 :: PM.aft pm a.2 (out a).2.2 ++ [] = _
  rw [qik (h0 a.2)]
  rfl
 refine ⟨_, K', θ.set 0 v F0 (θ.sur 0), rfl, hE.weak fun g _ hg => ⟨0, .bk e a.1, by rw [hres]; rfl, hg⟩, hM', ?_, ⟨rs, rfl, ?_⟩, fun r R hR => ?_, fun r hr g hg' => ?_, fun r h1 h2 => ?_, fun r r' h1 h2 h3 => ?_⟩
 ·intro r hr
  rw [hres] at hr
  have : r = 0 := by simpa using hr
  subst this
  exact ⟨by rw [Th.set_key, hkey], Th.set_sur⟩
 ·rw [hends, hres]; exact hr _
 ·rw [hends] at hR
  cases r with
  | succ r => simp at hR
  | zero =>
    simp at hR
    subst hR
    show qa0 e w' K' ((θ.set 0 v F0 (θ.sur 0)).key 0) ((θ.set 0 v F0 (θ.sur 0)).fp 0) _
    rw [Th.set_key, Th.set_fp]
    exact hB'
 ·rw [hres] at hr
  have : r = 0 := by simpa using hr
  subst this
  rw [Th.set_fp] at hg'
  exact hg g hg'
 ·rw [hres] at h1
  rw [hends] at h2
  simp at h1 h2
  omega
 ·rw [hends] at h1 h2
  simp at h1 h2
  omega
theorem qwA {pr : Option (PM.denL pm → Prop)} {out : PM.denL pm → RM.denL [.ow e k] × PM.MD pm} (h : Ctr.valid P f ⟨pm, [.ow e k], pr, out⟩) (h0 : ∀ a, PM.resL pm a = []) {a : PM.denL pm} {vs : List Value} (hp : Ctr.pre ⟨pm, [.ow e k], pr, out⟩ a) (hM : Models w K) (hv : ∀ θ, SVal.relL θ 0 K (PM.svL pm a 0) vs) : Calls P f vs.toArray w fun ed w' => ∃ K' r0, ed = .returned r0 ∧ Ext NX w K w' K' ∧ Models w' K' ∧ Own k.kd e w' K' (out a).1.1 r0 ∧ (∀ g, ob r0 = some g → w.heap.size ≤ g) := by
 refine (h a hp ⟨fun _ => .bool false, fun _ _ => False, fun _ => ([], [])⟩ vs w K hM ⟨by rw [h0]; exact hv _, fun r R m hr => by rw [h0] at hr; simp at hr, fun r r' hr => by rw [h0] at hr; simp at hr⟩).mono ?_
 rintro ed w' ⟨v, K', θ', rfl, hO⟩
 have hends : Ctr.ends ⟨pm, [.ow e k], pr, out⟩ a = [.ow e k (out a).1.1] := by unfold Ctr.ends; rw [qik (h0 a)]; rfl
 obtain ⟨us, rfl, hus⟩ := hO.val
 rw [hends, h0] at hus
 obtain ⟨r0, us, rfl, ⟨_, hV, hkey⟩, hnil⟩ := hus
 have hnil' : us = [] := hnil
 subst hnil'
 have hs := hO.sat 0 _ (by rw [hends]; rfl)
 obtain ⟨hs1, hs2⟩ := hs
 have hkey : θ'.key 0 = r0 := hkey
 have hE : Ext NX w K w' K' := by
  refine hO.ext.weak ?_
  rintro g _ ⟨r, R, hr, _⟩
  rw [h0] at hr
  simp at hr
 refine ⟨K', r0, rfl, hE, hO.mod, by rw [← hkey]; exact hs1, fun g hg => hO.new 0 (by rw [h0]; exact Nat.le_refl _) (by rw [hends]; exact Nat.zero_lt_one) g ((hs2 g).2 (by rw [hkey]; exact hg))⟩
theorem un_v {t : Ty} {pr : Option (PM.denL pm → Prop)} {out : PM.denL pm → RM.denL [.v t] × PM.MD pm} (h : Ctr.valid P f ⟨pm, [.v t], pr, out⟩) (h0 : ∀ a, PM.resL pm a = []) (ho : ∀ x : t.den, (SVal.of t x).to t = some x) {a : PM.denL pm} {vs : List Value} (hp : Ctr.pre ⟨pm, [.v t], pr, out⟩ a) (hM : Models w K) (hv : ∀ θ, SVal.relL θ 0 K (PM.svL pm a 0) vs) : Calls P f vs.toArray w fun ed w' => ∃ K' r0, ed = .returned r0 ∧ Ext NX w K w' K' ∧ Models w' K' ∧ t.kd.V K' (out a).1.1 r0 := by
 refine (h a hp ⟨fun _ => .bool false, fun _ _ => False, fun _ => ([], [])⟩ vs w K hM ⟨by rw [h0]; exact hv _, fun r R m hr => by rw [h0] at hr; simp at hr, fun r r' hr => by rw [h0] at hr; simp at hr⟩).mono ?_
 rintro ed w' ⟨v, K', θ', rfl, hO⟩
 obtain ⟨us, rfl, hus⟩ := hO.val
 obtain ⟨r0, us, rfl, hr, hnil⟩ := hus
 have hnil' : us = [] := hnil
 subst hnil'
 have hE : Ext NX w K w' K' := by
  refine hO.ext.weak ?_
  rintro g _ ⟨r, R, hr, _⟩
  rw [h0] at hr
  simp at hr
 exact ⟨K', r0, rfl, hE, hO.mod, qdk hr (ho _)⟩
end
end Go.Inc

set_option linter.unusedVariables false
namespace Go.Inc
open Go Go.RowKit
section
variable {P : Program} {f : FuncId} {pm : List PM} {e : Nat}
theorem qwk {u : Bool} {t : Ty} {pr : Option (PM.denL (.bk e u :: pm) → Prop)} {out : PM.denL (.bk e u :: pm) → RM.denL [.v t] × PM.MD (.bk e u :: pm)} {pr' : Option (PM.denL (.nil :: pm) → Prop)} {out' : PM.denL (.nil :: pm) → RM.denL [.v t] × PM.MD (.nil :: pm)}
 (h : Ctr.valid P f ⟨.bk e u :: pm, [.v t], pr, out⟩) (h0 : ∀ a, PM.resL pm a = []) (hs : ∀ (a : PM.denL pm) (θ θ' : Th) (n n' : Nat) (K : Ghost) (vs : List Value), SVal.relL θ n K (PM.svL pm a n) vs → SVal.relL θ' n' K (PM.svL pm a n') vs) (ho : ∀ x : t.den, (SVal.of t x).to t = some x)
 (hp : ∀ a, Ctr.pre ⟨.nil :: pm, [.v t], pr', out'⟩ a → Ctr.pre ⟨.bk e u :: pm, [.v t], pr, out⟩ (none, a.2)) (hout : ∀ a, Ctr.pre ⟨.nil :: pm, [.v t], pr', out'⟩ a → (out' a).1.1 = (out (none, a.2)).1.1) : Ctr.valid P f ⟨.nil :: pm, [.v t], pr', out'⟩ := by
 refine br_v (C := ⟨.nil :: pm, [.v t], pr', out'⟩) (fun a => ?_) (fun _ => rfl) fun a hpre θ vs w K hM hv => ?_
 ·show PM.res .nil a.1 ++ PM.resL pm a.2 = []
  rw [h0]
  rfl
 obtain ⟨v, vs, rfl, h1, h2⟩ := hv
 have h1' : v = .pointer none := h1
 subst h1'
 have hres : PM.resL (.bk e u :: pm) (none, a.2) = [(.bk e none, u)] := by
  show PM.res (.bk e u) none ++ PM.resL pm a.2 = _
  rw [h0]
  rfl
 have h3 := h (none, a.2) (hp a hpre) ⟨fun _ => .pointer none, fun _ => NX, fun _ => ([], [])⟩ (.pointer none :: vs) w K hM ⟨by
  rw [hres]
  exact ⟨_, vs, rfl, ⟨Nat.zero_lt_one, rfl⟩, hs _ _ _ _ _ _ _ h2⟩, fun r R m hr => by
  rw [hres] at hr
  cases r with
  | succ r => simp at hr
  | zero =>
    simp at hr
    obtain ⟨rfl, rfl⟩ := hr
    exact (qa0.nil : qa0 e w K (.pointer none) NX none), fun r r' h1 h2 hne => by
  rw [hres] at h1 h2
  simp at h1 h2
  omega⟩
 refine h3.mono ?_
 rintro ed w' ⟨v, K', θ', rfl, hO⟩
 obtain ⟨us, rfl, hus⟩ := hO.val
 obtain ⟨r0, us, rfl, hr, hnil⟩ := hus
 have hnil' : us = [] := hnil
 subst hnil'
 refine ⟨K', [r0], rfl, hO.ext.weak ?_, hO.mod, ?_⟩
 ·rintro g _ ⟨r, R, hr, hf⟩
  exact hf
 ·refine ⟨r0, [], rfl, ?_, rfl⟩
  have hV := qdk hr (ho _)
  have := SVal.of_rel (θ := θ) (n := 0) hV
  rw [← hout a hpre] at this
  exact this
end
end Go.Inc

set_option linter.unusedVariables false
namespace Go.Inc
open Go Go.RowKit
section
variable {P : Program} {f : FuncId} {pm : List PM} {rm : List RM} {e : Nat} {t : Ty}
theorem qpY {prn : Nat → PM.denL pm → Prop} {pr : Option (PM.denL pm → Prop)} {out : PM.denL pm → RM.denL rm × PM.MD pm} (h : ∀ n, Ctr.valid P f ⟨pm, rm, some (prn n), out⟩) (hp : ∀ a, Ctr.pre ⟨pm, rm, pr, out⟩ a → ∃ n, prn n a) : Ctr.valid P f ⟨pm, rm, pr, out⟩ := by
 intro a hpa θ vs w K hM hA
 obtain ⟨n, hn⟩ := hp a hpa
 refine (h n a hn θ vs w K hM hA).mono ?_
 rintro ed w' ⟨v, K', θ', rfl, hO⟩
 exact ⟨v, K', θ', rfl, ⟨hO.ext, hO.mod, hO.upto, hO.val, hO.sat, hO.old, hO.new, hO.apart⟩⟩
theorem qrE {pr : Option (PM.denL pm → Prop)} {out : PM.denL pm → (List t.den × Unit) × PM.MD pm} (h : Ctr.valid P f ⟨pm, [.rw e t], pr, out⟩) : Ctr.valid P f ⟨pm, [.ow e t], pr, out⟩ := by
 intro a hpa θ vs w K hM hA
 have hpa2 : Ctr.pre ⟨pm, [.rw e t], pr, out⟩ a := by cases pr <;> exact hpa
 refine (h a hpa2 θ vs w K hM hA).mono ?_
 rintro ed w' ⟨v, K', θ', rfl, hO⟩
 have hlen : (Ctr.ends ⟨pm, [.rw e t], pr, out⟩ a).length = (PM.resL pm a).length + 1 := by
  show (PM.aft pm a (out a).2 ++ [_]).length = _
  rw [List.length_append, PM.aft_len]
  rfl
 have hlen' : (Ctr.ends ⟨pm, [.ow e t], pr, out⟩ a).length = (PM.resL pm a).length + 1 := by
  show (PM.aft pm a (out a).2 ++ [_]).length = _
  rw [List.length_append, PM.aft_len]
  rfl
 have hR : (Res.rw e t (out a).1.1).sat θ' (PM.resL pm a).length ((PM.resL pm a).length + 1) w' K' := by
  have := hO.sat (PM.resL pm a).length (.rw e t (out a).1.1) (by
   show (PM.aft pm a (out a).2 ++ [Res.rw e t (out a).1.1])[_]? = _
   rw [List.getElem?_append_right (by rw [PM.aft_len]; exact Nat.le_refl _), PM.aft_len, Nat.sub_self]
   rfl)
  rwa [hlen] at this
 obtain ⟨hRw, hfp⟩ := hR
 obtain ⟨K2, hOw, hE, hM2⟩ := hRw.freeze hO.mod
 have hnew := hO.new (PM.resL pm a).length (Nat.le_refl _) (by rw [hlen]; exact Nat.lt_succ_self _)
 refine ⟨v, K2, θ', rfl, ⟨hO.ext.comp hE (fun b hb hlt => ?_), hM2, hO.upto, ?_, ?_, hO.old, ?_, ?_⟩⟩
 ·exact absurd (hnew b ((hfp b).2 hb)) (Nat.not_le_of_lt hlt)
 ·obtain ⟨us, hv, hus⟩ := hO.val
  obtain ⟨u0, us', rfl, ⟨h1, h2⟩, h3⟩ := hus
  refine ⟨u0 :: us', hv, u0, us', rfl, ⟨?_, ?_, h2⟩, h3⟩
  ·rw [hlen']; exact Nat.lt_succ_self _
  ·rw [← h2]; exact hOw.V
 ·intro r R hr
  rw [hlen']
  have hr' : (PM.aft pm a (out a).2 ++ [Res.ow e t (out a).1.1])[r]? = some R := hr
  rcases Nat.lt_or_ge r (PM.resL pm a).length with hlt | hge
  ·rw [List.getElem?_append_left (by rw [PM.aft_len]; exact hlt)] at hr'
   have hs := hO.sat r R (by
    show (PM.aft pm a (out a).2 ++ [_])[r]? = _
    rw [List.getElem?_append_left (by rw [PM.aft_len]; exact hlt)]
    exact hr')
   rw [hlen] at hs
   refine hs.ext (Th.upto.refl _ _) (by omega) rfl (Nat.le_refl _) hE fun g hg hb => ?_
   exact hO.apart r (PM.resL pm a).length (by rw [hlen]; omega) (by rw [hlen]; exact Nat.lt_succ_self _) (by omega) g hg ((hfp g).2 hb)
  ·rw [List.getElem?_append_right (by rw [PM.aft_len]; exact hge), PM.aft_len] at hr'
   have h0 : r - (PM.resL pm a).length = 0 := by
    have := (List.getElem?_eq_some_iff.1 hr').1
    simp at this
    omega
   rw [h0] at hr'
   cases hr'
   obtain rfl : r = (PM.resL pm a).length := by omega
   exact ⟨hOw, hfp⟩
 ·intro r h1 h2
  rw [hlen'] at h2
  exact hO.new r h1 (by rw [hlen]; exact h2)
 ·rw [hlen']
  have := hO.apart
  rwa [hlen] at this
end
end Go.Inc

set_option linter.unusedVariables false
namespace Go.Inc
open Go Go.RowKit
theorem Ext.putObj (w : World) (K : Ghost) {l : Nat} (o : Obj) : Ext (fun b => b = l) w K (w.putObj l o) K := ⟨Ghost.le.refl K, fun b hb hx => World.putObj_heap_other hx, fun _ _ _ => rfl, by simp, rfl, rfl, rfl⟩
theorem Models.putObj {w : World} {K : Ghost} (h : Models w K) {l : Nat} (hl : K l = none) (o : Obj) : Models (w.putObj l o) K := fun b t c hb => by
 obtain ⟨cs, fr, h1, h2⟩ := h b t c hb
 refine ⟨cs, fr, ?_, h2⟩
 rw [World.putObj_heap_other (fun e => by rw [e, hl] at hb; cases hb)]
 exact h1
theorem Models.none_loop {w : World} {K : Ghost} (h : Models w K) {l : Nat} {r : Loop} (hl : w.heap[l]? = some (.loop r)) : K l = none := by
 cases hk : K l with
 | none => rfl
 | some tl =>
   obtain ⟨cs, fr, h1, _⟩ := h l tl.1 tl.2 hk
   rw [hl] at h1
   cases h1
def Yields (P : Program) (l : Nat) (v : Value) (W : World) (R : World → Prop) : Prop := YieldAt Fence.wide 0 P l #[v] W fun e W' => e = .returned (.bool true) ∧ R W'
def Iter (P : Program) (f : Nat) (lb : Array Value) (L : List Value) (B : Nat → Prop) (W0 : World) (K0 : Ghost) : Prop :=
 ∀ (l : Nat) (J : Nat → World → Ghost → Prop) (W : World) (K : Ghost), Ext (fun b => ¬ B b) W0 K0 W K → Models W K →
   (∀ j W K W' K', J j W K → Ext B W K W' K' → Models W' K' → J j W' K') →
   (∀ j x W K, L[j]? = some x → J j W K → Models W K → Yields P l x W fun W' => ∃ K', J (j + 1) W' K' ∧ Models W' K' ∧ Ext (fun b => ¬ B b) W K W' K') →
   J 0 W K → Calls P f (#[.func (.yield l) #[] #[]] ++ lb) W fun e W' => (∃ v, e = .returned v) ∧ ∃ K', J L.length W' K' ∧ Models W' K'
def qtA (P : Program) (n : Nat) (asg body : Code) (l : Nat) (Y : Nat → Prop) (I : World → Ghost → Prop) (ρ : Env) (W : World) (K : Ghost) : Prop :=
 WP P n asg (fun e ρ1 W1 => e = .normal ∧ ∃ K1, Models W1 K1 ∧ Ext Y W K W1 K1 ∧ ∀ W2, Ext (fun b => b = l) W1 K1 W2 K1 → Models W2 K1 →
  WP P n body (fun e _ W3 => e = .normal ∧ ∃ K3, I W3 K3 ∧ Models W3 K3 ∧ Ext Y W2 K1 W3 K3) ρ1 W2) ρ W
theorem qpn {P : Program} {n p : Nat} {g : Operand} {asg body : Code} {ρ : Env} {w : World} {K : Ghost} {f : Nat} {lb : Array Value} {L : List Value} {B Y : Nat → Prop}
 (hg : ev ρ g = .func (.func f) #[] lb) (he : ∀ args w, (callFunc f args).run P w = .ok (.enter f args) w) (hp : p < n) (hM : Models w K) (hit : Iter P f lb L B w K)
 (hB : ∀ b, B b → b < w.heap.size) (hYB : ∀ b, Y b → ¬ B b) (hYl : ¬ Y (w.heap.size + 1)) (hYd : ¬ Y w.heap.size)
 (I : Nat → World → Ghost → Prop) (hIB : ∀ j W K W' K', I j W K → Ext B W K W' K' → Models W' K' → I j W' K')
 (hIl : ∀ j W K W', I j W K → Ext (fun b => b = w.heap.size + 1) W K W' K → Models W' K → I j W' K)
 (h0 : ∀ W, Ext NX w K W K → Models W K → W.heap.size = w.heap.size + 2 → I 0 W K)
 (hr : ∀ j x W K, L[j]? = some x → I j W K → Models W K → qtA P n asg body (w.heap.size + 1) Y (I (j + 1)) (upd ρ p x) W K)
 {a : Go.Act} (ha : Fits n [] ρ a) {Q : Exit → Go.Act → World → Prop}
 (hQ : ∀ W' K', I L.length W' K' → Models W' K' → W'.heap[w.heap.size]? = some (.deferred (some [])) → Q .normal { a with defers := [{ target := .collected w.heap.size, args := #[] }] } W') :
 (Code.rangeFunc g #[p] asg body).wpIn Fence.wide 0 P Q a w := by
 refine wpIn_rangeFunc fun fn hfn => ?_
 obtain ⟨rec, hrec⟩ : ∃ rec : LoopState → Option Code → Loop, rec = fun st pe => { state := st, pending := pe, fn, tmps := a.tmps, params := #[p], assign := asg, body, defers := w.heap.size } := ⟨_, rfl⟩
 obtain ⟨W1, hW1⟩ : ∃ W1, (w.alloc (.deferred (some []))).alloc (.loop (rec .ready none)) = W1 := ⟨_, rfl⟩
 have hL1 : W1.heap[w.heap.size + 1]? = some (.loop (rec .ready none)) := by
  rw [← hW1]; have := World.alloc_heap_new (w.alloc (.deferred (some []))) (.loop (rec .ready none)); rwa [World.size_alloc] at this
 have hK1 : W1.heap[w.heap.size]? = some (.deferred (some [])) := by
  rw [← hW1]; exact (Below.heap_alloc _ _ _ (by simp)).trans (World.alloc_heap_new w _)
 have hE1 : ∀ X, Ext X w K W1 K := fun X => by rw [← hW1]; exact (Ext.alloc w K _).trans (Ext.alloc _ K _)
 have hM1 : Models W1 K := by rw [← hW1]; exact (hM.alloc _).alloc _
 have hS1 : W1.heap.size = w.heap.size + 2 := by rw [← hW1]; simp
 refine ⟨w.heap.size + 1, [{ target := .collected w.heap.size, args := #[] }], W1, { target := .fn (.func f) lb, args := #[.func (.yield (w.heap.size + 1)) #[] #[]] }, W1, f,
  #[.func (.yield (w.heap.size + 1)) #[] #[]] ++ lb, W1, ?_, ?_, ?_, ?_, (fun h => by cases h), ?_⟩
 ·rw [← hW1, hrec]; exact run_enterLoop_outer _ _ _ _ _
 ·have hg' : a.eval g = .func (.func f) #[] lb := by rw [ha.eval]; exact hg
  simp only [resolve, hg']
  simp [go_sem]
 ·intro f' hf'; trivial
 ·simp [invoke, go_sem, he]
 ·refine callsIn_wide.2 ((hit (w.heap.size + 1) (fun j W K => I j W K ∧ W.heap[w.heap.size + 1]? = some (.loop (rec .ready none)) ∧ W.heap[w.heap.size]? = some (.deferred (some []))) W1 K (hE1 _) hM1 ?_ ?_ ⟨h0 W1 (hE1 _) hM1 hS1, hL1, hK1⟩).mono ?_)
  ·rintro j W K W' K' ⟨h1, h2, h3⟩ hE hM'
   refine ⟨hIB j W K W' K' h1 hE hM', ?_, ?_⟩
   ·rw [hE.heap _ (Array.getElem?_eq_some_iff.1 h2).1 (fun hb => by have := hB _ hb; omega)]; exact h2
   ·rw [hE.heap _ (Array.getElem?_eq_some_iff.1 h3).1 (fun hb => by have := hB _ hb; omega)]; exact h3
  ·rintro j x W K hx ⟨hi, hl, hk⟩ hMW
   have hlt := (Array.getElem?_eq_some_iff.1 hl).1
   have hy := run_yield (P := P) (args := #[x]) hl (by rw [hrec]; rfl)
   rw [hrec] at hy
   have hy' : (Instr.yield (w.heap.size + 1) #[x]).run P W = .ok (.round (w.heap.size + 1) fn (a.tmps.setIfInBounds p x) asg body) W := by simpa using hy
   have hround := hr j x W K hx hi hMW
   have hF0 : Fits n [] (upd ρ p x) { tmps := a.tmps.setIfInBounds p x, defers := [] } := by
    have := ha.upd hp x
    exact ⟨this.size, rfl, this.get⟩
   refine ⟨fn, _, asg, body, hy', roundIn_of_wpIn hfn (wpIn_mono (hround (some (w.heap.size + 1)) [] { tmps := a.tmps.setIfInBounds p x, defers := [] } hF0) ?_)⟩
   rintro e a1 W2 ⟨ρ1, hf1, rfl, K2, hM2, hE2, hbody⟩
   have hl2 : W2.heap[w.heap.size + 1]? = some (.loop (rec .ready none)) := by rw [hE2.heap _ hlt hYl]; exact hl
   have hk2 : W2.heap[w.heap.size]? = some (.deferred (some [])) := by rw [hE2.heap _ (Array.getElem?_eq_some_iff.1 hk).1 hYd]; exact hk
   have hlt2 := (Array.getElem?_eq_some_iff.1 hl2).1
   have hM3 := hM2.putObj (hM2.none_loop hl2) (.loop { rec .ready none with state := .busy })
   refine ⟨_, run_beginRound hl2 (by rw [hrec]), wpIn_mono (hbody _ (Ext.putObj W2 K2 _) hM3 (some (w.heap.size + 1)) [] a1 hf1) ?_⟩
   rintro e a3 W3 ⟨ρ3, hf3, rfl, K3, hi3, hM4, hE3⟩
   have hl3 : W3.heap[w.heap.size + 1]? = some (.loop { rec .ready none with state := .busy }) := by
    rw [hE3.heap _ (by simpa using hlt2) hYl]
    exact World.putObj_heap_same hlt2
   have hk3 : W3.heap[w.heap.size]? = some (.deferred (some [])) := by
    rw [hE3.heap _ (by have := (Array.getElem?_eq_some_iff.1 hk2).1; simpa using this) hYd, World.putObj_heap_other (by omega)]
    exact hk2
   have hend := run_endRound (P := P) none hl3
   have hM5 := hM4.putObj (hM4.none_loop hl3) (.loop { rec .ready none with state := .ready, pending := none })
   have hE5 : Ext (fun b => b = w.heap.size + 1) W3 K3 (W3.putObj (w.heap.size + 1) (.loop { rec .ready none with state := .ready, pending := none })) K3 := Ext.putObj W3 K3 _
   refine ⟨_, _, hend, rfl, K3, ⟨hIl _ _ _ _ hi3 hE5 hM5, ?_, ?_⟩, hM5, ?_⟩
   ·have := World.putObj_heap_same (w := W3) (r := w.heap.size + 1) (o := .loop { rec .ready none with state := .ready, pending := none }) (Array.getElem?_eq_some_iff.1 hl3).1
    rw [hrec] at this ⊢
    exact this
   ·exact (World.putObj_heap_other (by omega)).trans hk3
   ·have hnB : ∀ b, b = w.heap.size + 1 → ¬ B b := fun b e hb => by have := hB b hb; omega
    exact ((hE2.weak fun b _ hb => hYB b hb).trans ((Ext.putObj W2 K2 _).weak fun b _ hb => hnB b hb)).trans ((hE3.weak fun b _ hb => hYB b hb).trans (hE5.weak fun b _ hb => hnB b hb))
  ·rintro e W2 ⟨⟨v, rfl⟩, K2, ⟨hi, hl, hk⟩, hM2⟩
   have hend : (Instr.endLoop (w.heap.size + 1)).run P W2 = .ok none (W2.putObj (w.heap.size + 1) (.loop { rec .ready none with state := .exhausted })) := by
    have := run_endLoop (P := P) hl (by rw [hrec]; simp)
    rw [hrec] at this ⊢
    exact this
   refine ⟨none, _, hend, ?_⟩
   have hd : a.defers = [] := ha.defers
   have := hQ _ K2 (hIl _ _ _ _ hi (Ext.putObj W2 K2 _) (hM2.putObj (hM2.none_loop hl) (.loop { rec .ready none with state := .exhausted }))) (hM2.putObj (hM2.none_loop hl) _) ((World.putObj_heap_other (by omega)).trans hk)
   show Q .normal { tmps := a.tmps, defers := [{ target := .collected w.heap.size, args := #[] }] ++ a.defers } _
   rw [hd]
   exact this
def marks : Option Nat → List Deferred
 | none => []
 | some D => [{ target := .collected D, args := #[] }]
def WF (P : Program) (n : Nat) (c : Code) (Q : Option Nat → Post) (ρ : Env) (w : World) : Prop := ∀ a, Fits n [] ρ a → c.wpIn Fence.wide 0 P (fun e a w => ∃ D ρ', Fits n (marks D) ρ' a ∧ Q D e ρ' w) a w
theorem qw8 {P : Program} {n : Nat} {c : Code} {Q : Option Nat → Post} {ρ : Env} {w : World} (h : WP P n c (Q none) ρ w) : WF P n c Q ρ w := fun a ha => wpIn_mono (h none [] a ha) fun e a w ⟨ρ', hf, hq⟩ => ⟨none, ρ', hf, hq⟩
theorem qvZ {P : Program} {n : Nat} {x y : Code} {Q : Option Nat → Post} {ρ : Env} {w : World} (h : WP P n x (qpz (WF P n y Q) (Q none)) ρ w) : WF P n (.seq x y) Q ρ w := fun a ha => by
 refine wpIn_seq (wpIn_mono (h none [] a ha) ?_)
 rintro e a' w' ⟨ρ', hf, hq⟩
 cases e with
 | normal => exact hq a' hf
 | exit id => exact ⟨none, ρ', hf, hq⟩
 | goto l => exact ⟨none, ρ', hf, hq⟩
 | ret => exact ⟨none, ρ', hf, hq⟩
 | panic ch => exact ⟨none, ρ', hf, hq⟩
 | outgrown => exact ⟨none, ρ', hf, hq⟩
theorem qtE {P : Program} {n : Nat} {x y : Code} {Q : Option Nat → Post} {ρ : Env} {w : World} (h : WF P n x (fun D e ρ w => match e with
 | .normal => WP P n y (Q D) ρ w
 | e => Q D e ρ w) ρ w) : WF P n (.seq x y) Q ρ w := fun a ha => by
 refine wpIn_seq (wpIn_mono (h a ha) ?_)
 rintro e a' w' ⟨D, ρ', hf, hq⟩
 cases e with
 | normal => exact wpIn_mono (hq none (marks D) a' hf) fun e a w ⟨ρ2, hf2, hq2⟩ => ⟨D, ρ2, hf2, hq2⟩
 | exit id => exact ⟨D, ρ', hf, hq⟩
 | goto l => exact ⟨D, ρ', hf, hq⟩
 | ret => exact ⟨D, ρ', hf, hq⟩
 | panic ch => exact ⟨D, ρ', hf, hq⟩
 | outgrown => exact ⟨D, ρ', hf, hq⟩
theorem qqE {P : Program} {n id : Nat} {c : Code} {Q : Option Nat → Post} {ρ : Env} {w : World} (h : WF P n c (fun D => qd3 id (Q D)) ρ w) : WF P n (.block id c) Q ρ w := fun a ha => by
 refine wpIn_block (wpIn_mono (h a ha) ?_)
 rintro e a' w' ⟨D, ρ', hf, hq⟩
 cases e with
 | exit id' =>
   simp only [qd3] at hq
   simp only [Exit.inBlock]
   split at hq
   ·rename_i e; rw [if_pos e]; exact ⟨D, ρ', hf, hq⟩
   ·rename_i e; rw [if_neg e]; exact ⟨D, ρ', hf, hq⟩
 | normal => exact ⟨D, ρ', hf, hq⟩
 | goto l => exact ⟨D, ρ', hf, hq⟩
 | ret => exact ⟨D, ρ', hf, hq⟩
 | panic ch => exact ⟨D, ρ', hf, hq⟩
 | outgrown => exact ⟨D, ρ', hf, hq⟩
theorem WF.mono {P : Program} {n : Nat} {c : Code} {Q Q' : Option Nat → Post} {ρ : Env} {w : World} (h : WF P n c Q ρ w) (hq : ∀ D e ρ w, Q D e ρ w → Q' D e ρ w) : WF P n c Q' ρ w := fun a ha => wpIn_mono (h a ha) fun e a w ⟨D, ρ', hf, h⟩ => ⟨D, ρ', hf, hq D e ρ' w h⟩
def endF (P : Program) (rs : Array ResultVar) (R : Ending → World → Prop) : Option Nat → Post
 | none => endQ P rs R
 | some D => fun e ρ w => (e = .normal ∨ e = .ret) ∧ w.heap[D]? = some (.deferred (some [])) ∧ ∃ v, (resE P rs ρ).run P (w.putObj D (.deferred none)) = .ok v (w.putObj D (.deferred none)) ∧ R (.returned v) (w.putObj D (.deferred none))
theorem qgG {P : Program} {f : FuncId} {fn : Func} {c : Code} {args : List Value} {w : World} {R : Ending → World → Prop}
 (hf : P.funcs[f]? = some fn) (hb : fn.body = some c) (hn : args.length ≤ fn.ntmps) (h : WF P fn.ntmps c (endF P fn.results R) (qei args) w) : Calls P f args.toArray w R := by
 refine callsIn_wide (n := 0).1 (callsIn_of_wp_marks hf hb trivial (wpIn_mono (h _ ⟨?_, rfl, ?_⟩) ?_))
 ·simp; omega
 ·intro t; exact qjx _ _ _
 ·rintro e a w' ⟨D, ρ, hf, hQ⟩
  have fin : ∀ {e : Exit}, (e = .normal ∨ e = .ret) → endF P fn.results R D e ρ w' → LeavesInM Fence.wide 0 P fn a.tmps R a.defers .returning w' := fun {e} he hq => by
   rw [hf.defers]
   cases D with
   | none =>
     have hq' : ∃ v, (resE P fn.results ρ).run P w' = .ok v w' ∧ R (.returned v) w' := by
      rcases he with rfl | rfl
      ·exact hq
      ·exact hq
     obtain ⟨v, hr, hR⟩ := hq'
     exact ⟨v, by rw [hf.results P]; exact hr, hR⟩
   | some D =>
     obtain ⟨_, hd, v, hr, hR⟩ := hq
     exact ⟨(by intro h; cases h), .inl ⟨D, _, rfl, run_takeDeferred hd, ⟨v, by rw [hf.results P]; exact hr, hR⟩⟩⟩
  have bad : ∀ {e : Exit}, e ≠ .normal → e ≠ .ret → ¬ endF P fn.results R D e ρ w' := fun {e} h1 h2 hq => by
   cases D with
   | none => cases e <;> first | exact h1 rfl | exact h2 rfl | exact hq
   | some D => exact hq.1.elim h1 h2
  cases e with
  | normal => exact fin (.inl rfl) hQ
  | ret => exact fin (.inr rfl) hQ
  | exit id => exact (bad (by simp) (by simp) hQ).elim
  | goto l => exact (bad (by simp) (by simp) hQ).elim
  | panic ch => exact (bad (by simp) (by simp) hQ).elim
  | outgrown => exact (bad (by simp) (by simp) hQ).elim
end Go.Inc

set_option linter.unusedVariables false
namespace Go.Inc
open Go Go.RowKit
section
variable {G G2 : Glob} {s : St} {θ : Th} {ρ : Env} {w w' : World} {K K' : Ghost}
theorem Rel.base (h : Rel G s θ ρ w K) (hE : Ext G2.X G2.w0 G2.K0 w K) (h1 : G2.Kb = G.Kb) (h2 : G2.θb = G.θb) (h3 : G2.nb = G.nb) (h4 : G2.frz = G.frz) (ho : ∀ r e, s.res r = some e → e.org.ok G2 (θ.fp r)) : Rel G2 s θ ρ w K :=
 ⟨h.mod, hE, by rw [h1]; exact h.kle, by rw [h2, h3]; exact h.old, by rw [h3]; exact h.nbx, fun r e he => by rw [h4] at he; rw [h2]; exact h.frz r e he, h.env, fun r e he => ⟨(h.res r e he).1, (h.res r e he).2.1, ho r e he⟩, h.sep⟩
theorem Rel.away (h : Rel G s θ ρ w K) {Z : Nat → Prop} (hE : Ext Z w K w' K') (hM : Models w' K') (hZ : ∀ r e, s.res r = some e → ∀ g, θ.fp r g → ¬ Z g) (hX : ∀ g, Z g → g < G.w0.heap.size → G.X g) : Rel G s θ ρ w' K' :=
 ⟨hM, h.ext.comp hE (fun g hg hlt => hX g hg hlt), h.kle.trans hE.le, h.old, h.nbx, h.frz, fun t v hv => (h.env t v hv).mono (Th.upto.refl _ _) (Nat.le_refl _) hE.le,
  fun r e he => ⟨(h.res r e he).1, (h.res r e he).2.1.ext (Th.upto.refl _ _) (h.res r e he).1 rfl (Nat.le_refl _) hE (hZ r e he), (h.res r e he).2.2⟩, h.sep⟩
end
def Caps (w : World) (K : Ghost) : List Int → List Value → (Nat → Prop) → Prop
 | [], [], B => ∀ b, ¬ B b
 | x :: xs, v :: vs, B => ∃ (b : Nat) (pre post : List Value) (B' : Nat → Prop), v = .pointer (some ⟨b, pre.length, none⟩) ∧ Bx (Ty.kd (.int .i64)) w K b pre post x ∧ ¬ B' b ∧ Caps w K xs vs B' ∧ ∀ g, B g ↔ g = b ∨ B' g
 | _, _, _ => False
structure ICtr where
 pre : List Int → Prop
 L : List Int → List Int
def ICtr.valid (P : Program) (f : Nat) (C : ICtr) : Prop := ∀ xs, C.pre xs → (∀ x ∈ C.L xs, (Kd.int .i64).wf x) ∧ ∀ (vs : List Value) (B : Nat → Prop) (w : World) (K : Ghost), Models w K → Caps w K xs vs B → Iter P f vs.toArray ((C.L xs).map fun x => .int .i64 x) B w K
def qjo (s : St) : List SVal → Option (List Int × List Nat)
 | [] => some ([], [])
 | v :: l => match v with
   | .box r T t p => (match s.res r, qjo s l with
     | some ⟨.bx T' X [], org, lk⟩, some (xs, rs) => if h : T' = .int .i64 then (bif qaZ org lk && Nat.beq p.off 0 && !memB r rs then some ((Ty.cast h X : Int) :: xs, r :: rs) else none) else none
     | _, _ => none)
   | _ => none
theorem qjp {G : Glob} {s : St} {θ : Th} {ρ : Env} {w : World} {K : Ghost} (h : Rel G s θ ρ w K) : ∀ {cs : List SVal} {xs : List Int} {rs : List Nat} {vs : List Value}, qjo s cs = some (xs, rs) → SVal.relL θ s.nx K cs vs → Caps w K xs vs (fun g => ∃ r ∈ rs, θ.fp r g) ∧ ∀ r ∈ rs, ∃ e, s.res r = some e ∧ qaz e = true
 | [], xs, rs, vs, hc, hv => by
   simp only [qjo, Option.some.injEq, Prod.mk.injEq] at hc
   obtain ⟨rfl, rfl⟩ := hc
   have hv' : vs = [] := hv
   subst hv'
   exact ⟨fun b ⟨r, hr, _⟩ => (by cases hr), fun r hr => by cases hr⟩
 | v :: l, xs, rs, vs, hc, hv => by
   obtain ⟨u, us, e, hu, hus⟩ := hv
   simp only [qjo] at hc
   split at hc
   ·rename_i r T t p
    split at hc
    ·rename_i T' X org lk xs' rs' hr hl
     split at hc
     ·rename_i hT
      subst hT
      cases hb : (qaZ org lk && Nat.beq p.off 0 && !memB r rs') with
      | false => rw [hb] at hc; cases hc
      | true =>
        rw [hb] at hc
        simp only [cond_true, Option.some.injEq, Prod.mk.injEq] at hc
        obtain ⟨rfl, rfl⟩ := hc
        simp only [Bool.and_eq_true, Bool.not_eq_true'] at hb
        obtain ⟨⟨hfr, hoff⟩, hmem⟩ := hb
        have hoff := Nat.eq_of_beq_eq_true hoff
        obtain ⟨i1, i2⟩ := qjp h hl hus
        obtain ⟨b, hk, hf, hB, _⟩ := (h.res _ _ hr).2.1
        have hnr : r ∉ rs' := fun hm => by rw [qb8.2 hm] at hmem; cases hmem
        refine ⟨?_, fun q hq => ?_⟩
        ·subst e
         obtain ⟨_, _, b', o, hk', hu'⟩ := hu
         rw [hk] at hk'
         cases hk'
         rw [hoff] at hu'
         refine ⟨b, (θ.sur r).1, (θ.sur r).2, fun g => ∃ q ∈ rs', θ.fp q g, hu', hB, ?_, i1, fun g => ⟨?_, ?_⟩⟩
         ·rintro ⟨q, hq, hg⟩
          obtain ⟨e', he', _⟩ := i2 q hq
          exact h.sep r q _ e' hr he' (fun hh => hnr (hh ▸ hq)) b ((hf b).2 rfl) hg
         ·rintro ⟨q, hq, hg⟩
          rcases List.mem_cons.1 hq with rfl | hq
          ·exact .inl ((hf g).1 hg)
          ·exact .inr ⟨q, hq, hg⟩
         ·rintro (hg | ⟨q, hq, hg⟩)
          ·exact ⟨r, List.mem_cons_self, (hf g).2 hg⟩
          ·exact ⟨q, List.mem_cons_of_mem _ hq, hg⟩
        ·rcases List.mem_cons.1 hq with rfl | hq
         ·exact ⟨_, hr, hfr⟩
         ·exact i2 q hq
     ·cases hc
    ·cases hc
   ·cases hc
def parS (rs : List Nat) (s : St) : St := { s with res := fun r => bif memB r rs then none else match s.res r with
 | some e => some (bif qaz e then { e with org := .par r } else { e with org := .ro, lk := true })
 | none => none }
def qhk : Org → Bool
 | .par _ => true
 | _ => false
def Item.parB : Item → Bool
 | .sown _ _ _ _ o => qhk o
 | .pow _ _ _ _ _ o => qhk o
 | .prw _ _ _ _ _ o => qhk o
 | .pmp _ _ _ _ _ _ o => qhk o
 | .bx _ _ _ o => qhk o
 | .mp _ _ _ _ o => qhk o
 | .bk _ _ o => qhk o
 | .srw _ _ _ _ o => qhk o
 | .rwi _ _ _ o => qhk o
 | _ => true
def qsE (base : Nat → Option RE) (s : St) : Bool := (List.range s.nx).all fun r => match s.res r with
 | some e => match e.org with
   | .par _ => true
   | .ro => (base r).isSome
   | .new => false
 | none => true
def St.envTo (s s0 : St) : St := { s with env := s0.env }
def qsH (C : ICtr) (asg body : St → (Exit → St → Prop) → Prop) (s : St) (p : Nat) (xs : List Int) (rs : List Nat) (k : St → Prop) (l : List Item) (nx : Nat) : Prop :=
 match fitI (parS rs s) l with
 | none => False
 | some (v0, σ0) => bif qfp (parS rs s) s.nx nx l σ0 && Nat.ble s.nx nx && qdm [] l && l.all Item.parB then
    C.pre xs ∧ ∃ I : Nat → Cur l Prop, (I 0).app v0 ∧
     (∀ (j : Nat) (x : Int), (C.L xs)[j]? = some x → (Kd.int .i64).wf x → allI l fun v => (I j).app v → wfI l v (asg ((qdc (parS rs s) [] (qbX (parS rs s) (srcs σ0 l)) nx l v).set p (.int .i64 x true)) fun e s1 => match e with
       | .normal => bif qsE (qbX (parS rs s) (srcs σ0 l)) s1 then body s1 (fun e s2 => match e with
         | .normal => (match fitI (s2.envTo s) l with
           | some (v', σ') => bif qfp (s2.envTo s) s.nx nx l σ' then (I (j + 1)).app v' else False
           | none => False)
         | _ => False) else False
       | _ => False)) ∧
     (allI l fun v => (I (C.L xs).length).app v → wfI l v (k (unlock (parS rs s) (srcs σ0 l) (qdc (parS rs s) [] (qbX (parS rs s) (srcs σ0 l)) nx l v))))
   else False
def qk5 (C : ICtr) (asg body : St → (Exit → St → Prop) → Prop) (s : St) (p : Nat) (cs : List SVal) (mu : List Nat) (k : St → Prop) : Prop :=
 match qjo s cs with
 | none => False
 | some (xs, rs) => qsH C asg body s p xs rs k (qbT (parS rs s) mu s.nx).1 (qbT (parS rs s) mu s.nx).2
def qfs (s : St) (θ : Th) (rs : List Nat) (l : Nat) (Wb : World) (K : Ghost) : Glob :=
 { w0 := Wb, K0 := K, X := fun g => (∃ r e, s.res r = some e ∧ qaz e = true ∧ θ.fp r g) ∨ g = l,
   F0 := fun j g => (∃ e, s.res j = some e ∧ qaz e = true ∧ j ∉ rs) ∧ θ.fp j g,
   hX := fun j g ⟨⟨e, h1, h2, _⟩, h3⟩ => .inl ⟨j, e, h1, h2, h3⟩, Kb := K, θb := θ, nb := s.nx,
   frz := fun r => bif memB r rs then none else match s.res r with
    | some e => bif qaz e then none else some { e with org := .ro, lk := true }
    | none => none }
theorem qft {s : St} {θ : Th} {rs : List Nat} {l : Nat} {Wb : World} {K : Ghost} : (qfs s θ rs l Wb K).fine := ⟨fun r e he => by
 have he' : (bif memB r rs then none else match s.res r with
  | some e => bif qaz e then none else some ({ e with org := .ro, lk := true } : RE)
  | none => none) = some e := he
 cases hm : memB r rs with
 | true => rw [hm] at he'; cases he'
 | false =>
   rw [hm] at he'
   simp only [cond_false] at he'
   split at he'
   ·rename_i e0 he0
    cases hf : qaz e0 with
    | true => rw [hf] at he'; cases he'
    | false => rw [hf] at he'; cases he'; rfl
   ·cases he'⟩
theorem qcY {rs : List Nat} {s : St} {r : Nat} {e : RE} (h : (parS rs s).res r = some e) : r ∉ rs ∧ ∃ e0, s.res r = some e0 ∧ e.r = e0.r ∧ ((qaz e0 = true ∧ e.org = .par r ∧ e.lk = false) ∨ (qaz e0 = false ∧ e.org = .ro ∧ e.lk = true)) := by
 have he' : (bif memB r rs then none else match s.res r with
  | some e => some (bif qaz e then { e with org := .par r } else { e with org := .ro, lk := true })
  | none => none) = some e := h
 cases hm : memB r rs with
 | true => rw [hm] at he'; cases he'
 | false =>
   rw [hm] at he'
   simp only [cond_false] at he'
   refine ⟨fun hh => (by rw [qb8.2 hh] at hm; cases hm), ?_⟩
   split at he'
   ·rename_i e0 he0
    refine ⟨e0, he0, ?_⟩
    cases hf : qaz e0 with
    | true => rw [hf] at he'; cases he'; exact ⟨rfl, .inl ⟨rfl, rfl, (qeC hf).1⟩⟩
    | false => rw [hf] at he'; cases he'; exact ⟨rfl, .inr ⟨rfl, rfl, rfl⟩⟩
   ·cases he'
theorem qjw {G : Glob} {s : St} {θ : Th} {ρ : Env} {w Wb : World} {K : Ghost} (h : Rel G s θ ρ w K) (hG : G.fine) (rs : List Nat) (l : Nat) (hE : Ext NX w K Wb K) (hM : Models Wb K) : Rel (qfs s θ rs l Wb K) (parS rs s) θ ρ Wb K := by
 have h := h.stay hG hE hM
 refine ⟨h.mod, Ext.refl _ _ _, Ghost.le.refl _, Th.upto.refl _ _, Nat.le_refl _, ?_, h.env, ?_, ?_⟩
 ·intro r e he
  refine ⟨?_, rfl⟩
  have he' : (bif memB r rs then none else match s.res r with
   | some e => bif qaz e then none else some ({ e with org := .ro, lk := true } : RE)
   | none => none) = some e := he
  show (bif memB r rs then none else match s.res r with
   | some e => some (bif qaz e then { e with org := .par r } else { e with org := .ro, lk := true })
   | none => none) = some e
  cases hm : memB r rs with
  | true => rw [hm] at he'; cases he'
  | false =>
    rw [hm] at he'
    simp only [cond_false] at he' ⊢
    split at he'
    ·rename_i e0 he0
     cases hf : qaz e0 with
     | true => rw [hf] at he'; cases he'
     | false => rw [hf] at he'; cases he'; rfl
    ·cases he'
 ·intro r e he
  obtain ⟨hn, e0, he0, h1, h2⟩ := qcY he
  obtain ⟨r1, r2, r3⟩ := h.res r e0 he0
  refine ⟨r1, by rw [h1]; exact r2, ?_⟩
  rcases h2 with ⟨f1, f2, _⟩ | ⟨_, f2, _⟩
  ·rw [f2]
   exact fun g hg => .inl ⟨⟨e0, he0, f1, hn⟩, hg⟩
  ·rw [f2]; trivial
 ·intro r r' e e' h1 h2 hne
  obtain ⟨_, e0, he0, _⟩ := qcY h1
  obtain ⟨_, e0', he0', _⟩ := qcY h2
  exact h.sep r r' e0 e0' he0 he0' hne
end Go.Inc

set_option linter.unusedVariables false
namespace Go.Inc
open Go Go.RowKit
theorem qri {o : Org} (h : qhk o = true) : ∃ j, o = .par j := by
 cases o with
 | par j => exact ⟨j, rfl⟩
 | new => cases h
 | ro => cases h
theorem qrF {i : Item} (h : i.parB = true) {x : i.den} {r : Nat} {e : RE} (hr : Item.res i x = some (r, e)) : ∃ j, e.org = .par j := by
 cases i <;> simp only [Item.res, Option.some.injEq, Prod.mk.injEq, reduceCtorEq] at hr <;> obtain ⟨_, rfl⟩ := hr <;> exact qri h
theorem qdW {r : Nat} {e : RE} : ∀ {l : List Item} {v : HL l}, l.all Item.parB = true → qbG r l v = some e → ∃ j, e.org = .par j
 | [], v, _, h => by cases h
 | i :: l, v, hp, h => by
   simp only [List.all_cons, Bool.and_eq_true] at hp
   simp only [qbG] at h
   split at h
   ·rename_i r' e' he
    cases hb : Nat.beq r r' with
    | true =>
      rw [hb] at h
      cases h
      exact qrF hp.1 he
    | false =>
      rw [hb] at h
      exact qdW hp.2 h
   ·exact qdW hp.2 h
section
variable {P : Program} {n p : Nat}
theorem qpo {C : ICtr} {f : Nat} (hC : C.valid P f) {cA cB : Code} {eA eB : St → (Exit → St → Prop) → Prop}
 (hA : ∀ s k, eA s k → ∀ (G : Glob) (θ : Th) (ρ : Env) (w : World) (K : Ghost), G.fine → Rel G s θ ρ w K → WP P n cA (qea G (fun t => t ∈ dsts cA) s k) ρ w)
 (hB : ∀ s k, eB s k → ∀ (G : Glob) (θ : Th) (ρ : Env) (w : World) (K : Ghost), G.fine → Rel G s θ ρ w K → WP P n cB (qea G (fun t => t ∈ dsts cB) s k) ρ w)
 {G : Glob} {s : St} {θ : Th} {ρ : Env} {w : World} {K : Ghost} (hG : G.fine) (h : Rel G s θ ρ w K) {cs : List SVal} {vs : List Value} (hcs : SVal.relL θ s.nx K cs vs) {g : Operand} (hg : ev ρ g = .func (.func f) #[] vs.toArray)
 (he : ∀ args w, (callFunc f args).run P w = .ok (.enter f args) w) (hp : p < n) {mu : List Nat} {k : St → Prop} (hk : qk5 C eA eB s p cs mu k) {a : Go.Act} (ha : Fits n [] ρ a) {Q : Exit → Go.Act → World → Prop}
 (hQ : ∀ (rs : List Nat) (Wb W' : World) (K' : Ghost) (sB : St) (θB : Th), (∀ r ∈ rs, ∃ e, s.res r = some e ∧ qaz e = true) → Ext NX w K Wb K → Wb.heap.size = w.heap.size + 2 → k sB → Rel (qfs s θ rs (w.heap.size + 1) Wb K) sB θB ρ W' K' →
   W'.heap[w.heap.size]? = some (.deferred (some [])) → Q .normal { a with defers := marks (some w.heap.size) } W') :
 (Code.rangeFunc g #[p] cA cB).wpIn Fence.wide 0 P Q a w := by
 unfold qk5 at hk
 split at hk
 ·exact hk.elim
 rename_i xs rs hcap
 generalize (qbT (parS rs s) mu s.nx).1 = l at hk
 generalize (qbT (parS rs s) mu s.nx).2 = nx at hk
 unfold qsH at hk
 split at hk
 ·exact hk.elim
 rename_i v0 σ0 hfit
 cases hz : (qfp (parS rs s) s.nx nx l σ0 && Nat.ble s.nx nx && qdm [] l && l.all Item.parB) with
 | false => rw [hz] at hk; exact hk.elim
 | true =>
 rw [hz] at hk
 simp only [Bool.and_eq_true] at hz
 obtain ⟨⟨⟨hok, hnx⟩, hslots⟩, hpar⟩ := hz
 have hnx := Nat.le_of_ble_eq_true hnx
 obtain ⟨hpre, I, hI0, hround, hend⟩ := hk
 obtain ⟨hcaps, hfree⟩ := qjp h hcap hcs
 obtain ⟨hLwf, hit⟩ := hC xs hpre
 have hit := hit vs _ w K h.mod hcaps
 obtain ⟨_, _, _, _, h5⟩ := qdb hok
 have hlt0 : ∀ r, r < s.nx → sigma σ0 r = r := fun r hr => qcA (fun p hp => (h5 p hp).1) hr
 let base := qbX (parS rs s) (srcs σ0 l)
 have hbase : ∀ r e, base r = some e → r < s.nx ∧ r ∉ srcs σ0 l ∧ ∃ e0, (parS rs s).res r = some e0 ∧ e = qhM e0 := fun r e he => qbO (s := parS rs s) he
 let GR : World → Glob := fun Wb => { qfs s θ rs (w.heap.size + 1) Wb K with Kb := K, θb := θ.via (sigma σ0), nb := s.nx, frz := base }
 have hlk : ∀ r e, base r = some e → e.lk = true := fun r e he => by
  obtain ⟨_, _, e0, _, rfl⟩ := hbase r e he
  rfl
 have hsize : ∀ r e g, s.res r = some e → θ.fp r g → g < w.heap.size := fun r e g hr hg => (h.res r e hr).2.1.lt g hg
 have far : ∀ (Gx : Glob) (s1 : St) (θ1 : Th) (ρ1 : Env) (W1 : World) (K1 : Ghost), Rel Gx s1 θ1 ρ1 W1 K1 → Gx.frz = base → Gx.θb = θ.via (sigma σ0) → w.heap.size + 2 ≤ Gx.w0.heap.size →
  (∀ j g, Gx.F0 j g → (∃ e0, s.res j = some e0 ∧ j ∉ rs ∧ θ.fp j g) ∨ w.heap.size + 2 ≤ g) → (∀ r e, s1.res r = some e → (∃ j, e.org = .par j) ∨ (base r).isSome = true) →
  ∀ r e g, s1.res r = some e → θ1.fp r g → (∃ r0 e0, s.res r0 = some e0 ∧ r0 ∉ rs ∧ θ.fp r0 g) ∨ w.heap.size + 2 ≤ g := fun Gx s1 θ1 ρ1 W1 K1 hR hz1 hz2 hz3 hF hO r e g hr hg => by
  rcases hO r e hr with ⟨j, hj⟩ | hb
  ·have ho := (hR.res r e hr).2.2
   rw [hj] at ho
   rcases ho g hg with h1 | h1
   ·rcases hF j g h1 with ⟨e0, c1, c2, c3⟩ | h2
    ·exact .inl ⟨j, e0, c1, c2, c3⟩
    ·exact .inr h2
   ·exact .inr (Nat.le_trans hz3 h1)
  ·obtain ⟨eb, heb⟩ := Option.isSome_iff_exists.1 hb
   obtain ⟨b1, _, e0, b3, _⟩ := hbase r eb heb
   obtain ⟨c1, e1, c2, _⟩ := qcY b3
   have := (hR.frz r eb (by rw [hz1]; exact heb)).2
   rw [this, hz2] at hg
   have hg' : θ.fp (sigma σ0 r) g := hg
   rw [hlt0 r b1] at hg'
   exact .inl ⟨r, e1, c2, c1, hg'⟩
 have apart : ∀ g, ((∃ r0 e0, s.res r0 = some e0 ∧ r0 ∉ rs ∧ θ.fp r0 g) ∨ w.heap.size + 2 ≤ g) → (¬ ∃ r ∈ rs, θ.fp r g) ∧ g ≠ w.heap.size + 1 ∧ g ≠ w.heap.size := fun g hg => by
  rcases hg with ⟨r0, e0, h1, h2, h3⟩ | hg
  ·have := hsize r0 e0 g h1 h3
   refine ⟨?_, by omega, by omega⟩
   rintro ⟨r, hr, hg⟩
   obtain ⟨e, he, _⟩ := hfree r hr
   exact h.sep r0 r e0 e h1 he (fun hh => h2 (hh ▸ hr)) g h3 hg
  ·refine ⟨?_, by omega, by omega⟩
   rintro ⟨r, hr, hg'⟩
   obtain ⟨e, he, _⟩ := hfree r hr
   have := hsize r e g he hg'
   omega
 have headO : ∀ (v : HL l) r e, (qdc (parS rs s) [] base nx l v).res r = some e → (∃ j, e.org = .par j) ∨ (base r).isSome = true := fun v r e hr => by
  have hr' : (match qbG r l v with
   | some e => some e
   | none => base r) = some e := hr
  split at hr'
  ·rename_i e' he'
   cases hr'
   exact .inl (qdW hpar he')
  ·exact .inr (by rw [hr']; rfl)
 have headP : ∀ (v : HL l) r e, (qdc (parS rs s) [] base nx l v).res r = some e → (∃ j, e.org = .par j) ∨ e.org = .ro := fun v r e hr => by
  have hr' : (match qbG r l v with
   | some e => some e
   | none => base r) = some e := hr
  split at hr'
  ·rename_i e' he'
   cases hr'
   exact .inl (qdW hpar he')
  ·obtain ⟨_, _, e0, b3, rfl⟩ := hbase r e hr'
   obtain ⟨_, _, _, _, h2⟩ := qcY b3
   rcases h2 with ⟨_, h2, _⟩ | ⟨_, h2, _⟩
   ·exact .inl ⟨r, h2⟩
   ·exact .inr h2
 have hF1 : ∀ Wb j g, (GR Wb).F0 j g → (∃ e0, s.res j = some e0 ∧ j ∉ rs ∧ θ.fp j g) ∨ w.heap.size + 2 ≤ g := fun Wb j g ⟨⟨e, c1, _, c3⟩, c4⟩ => .inl ⟨e, c1, c3, c4⟩
 let Y : Nat → Prop := fun g => (∃ r e, s.res r = some e ∧ qaz e = true ∧ r ∉ rs ∧ θ.fp r g) ∨ w.heap.size + 2 ≤ g
 have hYa : ∀ g, Y g → (¬ ∃ r ∈ rs, θ.fp r g) ∧ g ≠ w.heap.size + 1 ∧ g ≠ w.heap.size := fun g hg => apart g (hg.imp (fun ⟨r, e, c1, _, c3, c4⟩ => ⟨r, e, c1, c3, c4⟩) (fun h => h))
 have hplt : ∀ r e, base r = some e → e.r.plt s.nx := fun r e he => by
  obtain ⟨_, _, e0, h0, rfl⟩ := hbase r e he
  obtain ⟨_, e1, h1, h2, _⟩ := qcY h0
  show e0.r.plt s.nx
  rw [h2]
  exact qpw (h.res r e1 h1).2.1
 let Inv : Nat → World → Ghost → Prop := fun j W K' => ∃ (Wb : World) (v : HL l) (θ' : Th), Ext NX w K Wb K ∧ Models Wb K ∧ Wb.heap.size = w.heap.size + 2 ∧ (I j).app v ∧ (∀ q, wfI l v q → q) ∧ Rel (GR Wb) (qdc (parS rs s) [] base nx l v) θ' ρ W K'
 have hInvFar : ∀ {Wb : World} {v : HL l} {θ' : Th} {W : World} {K' : Ghost}, Wb.heap.size = w.heap.size + 2 → Rel (GR Wb) (qdc (parS rs s) [] base nx l v) θ' ρ W K' → ∀ r e, (qdc (parS rs s) [] base nx l v).res r = some e → ∀ g, θ'.fp r g → (¬ ∃ r ∈ rs, θ.fp r g) ∧ g ≠ w.heap.size + 1 ∧ g ≠ w.heap.size := fun {Wb v θ' W K'} hsz hR r e hr g hg =>
  apart g (far (GR Wb) _ θ' ρ W K' hR rfl rfl (Nat.le_of_eq hsz.symm) (hF1 Wb) (headO v) r e g hr hg)
 refine qpn (L := (C.L xs).map fun x => .int .i64 x) (Y := Y) hg he hp h.mod hit (fun b ⟨r, hr, hb⟩ => by obtain ⟨e, he, _⟩ := hfree r hr; exact hsize r e b he hb) (fun b hb => (hYa b hb).1) (fun hb => (hYa _ hb).2.1 rfl) (fun hb => (hYa _ hb).2.2 rfl) Inv ?_ ?_ ?_ ?_ ha ?_
 ·
  rintro j W K1 W' K2 ⟨Wb, v, θ', hE, hMb, hsz, hI, hwf, hR⟩ hE2 hM2
  refine ⟨Wb, v, θ', hE, hMb, hsz, hI, hwf, hR.away hE2 hM2 (fun r e hr g hg => (hInvFar hsz hR r e hr g hg).1) ?_⟩
  rintro g ⟨r, hr, hg⟩ _
  obtain ⟨e, he, hf⟩ := hfree r hr
  exact .inl ⟨r, e, he, hf, hg⟩
 ·
  rintro j W K1 W' ⟨Wb, v, θ', hE, hMb, hsz, hI, hwf, hR⟩ hE2 hM2
  exact ⟨Wb, v, θ', hE, hMb, hsz, hI, hwf, hR.away hE2 hM2 (fun r e hr g hg => (hInvFar hsz hR r e hr g hg).2.1) (fun g hg _ => .inr hg)⟩
 ·
  intro W hE hM hsz
  have h0 := qjw h hG rs (w.heap.size + 1) hE hM
  refine ⟨W, v0, _, hE, hM, hsz, hI0, fun q hq => qj7 h0 hfit hq, qga h0 (G' := GR W) ⟨rfl, rfl, rfl, rfl⟩ hfit hok hnx (Ghost.le.refl _) rfl (Th.upto.refl _ _) rfl ?_ ?_⟩
  ·intro r e he
   obtain ⟨b1, b2, e0, b3, b4⟩ := hbase r e he
   refine ⟨b1, ⟨e0, b3, by rw [b4]; rfl, by rw [b4]; rfl⟩, b2, ?_, hplt r e he⟩
   show θ.fp r = θ.fp (sigma σ0 r)
   rw [hlt0 r b1]
  ·intro t sv ht hsv
   have hr := h.env t sv hsv
   exact (hr.low (θ' := θ.via (sigma σ0)) (n' := s.nx) (fun r hr => by show θ.key (sigma σ0 r) = _; rw [hlt0 r hr]) hr.bd).mono (Th.upto.refl _ _) hnx (Ghost.le.refl _)
 ·
  rintro j xv W K1 hx ⟨Wb, v, θ', hE, hMb, hsz, hI, hwf, hR⟩ hM1
  obtain ⟨x, hxL, rfl⟩ : ∃ x, (C.L xs)[j]? = some x ∧ xv = .int .i64 x := by
   rw [List.getElem?_map] at hx
   cases h1 : (C.L xs)[j]? with
   | none => rw [h1] at hx; cases hx
   | some x => rw [h1] at hx; cases hx; exact ⟨x, rfl, rfl⟩
  have hwfx := hLwf x (List.mem_of_getElem? hxL)
  have hsW : w.heap.size + 2 ≤ W.heap.size := by rw [← hsz]; exact hR.ext.size
  let G2 : Glob := { GR Wb with w0 := W, K0 := K1, X := Y, F0 := fun j g => ((∃ e, s.res j = some e ∧ qaz e = true ∧ j ∉ rs) ∧ θ.fp j g) ∨ w.heap.size + 2 ≤ g, hX := fun j g hg => hg.elim (fun ⟨⟨e, c1, c2, c3⟩, c4⟩ => .inl ⟨j, e, c1, c2, c3, c4⟩) (fun h => .inr h) }
  have hR2 : Rel G2 (qdc (parS rs s) [] base nx l v) θ' ρ W K1 := hR.base (Ext.refl _ _ _) rfl rfl rfl rfl (fun r e hr => by
   rcases headP v r e hr with ⟨q, hq⟩ | hq
   ·have ho := (hR.res r e hr).2.2
    rw [hq] at ho ⊢
    exact fun g hg => (ho g hg).elim (fun h => .inl (.inl h)) (fun h => .inl (.inr (by rw [← hsz]; exact h)))
   ·rw [hq]; trivial)
  have hset := hR2.set (d := p) (v := .int .i64 x true) (u := .int .i64 x) ⟨rfl, hwfx⟩
  have hcond := hwf _ (qil (hround j x hxL hwfx) v hI)
  refine (hA _ _ hcond G2 θ' _ W K1 ⟨hlk⟩ hset).mono ?_
  rintro e ρ1 W1 ⟨K2, θ1, s1, hk1, hR1, _⟩
  cases e with
  | normal =>
    simp only at hk1
    cases hn : qsE (qbX (parS rs s) (srcs σ0 l)) s1 with
    | false => rw [hn] at hk1; exact hk1.elim
    | true =>
    rw [hn] at hk1
    have hO1 : ∀ r e, s1.res r = some e → (∃ j, e.org = .par j) ∨ (e.org = .ro ∧ (base r).isSome = true) := fun r e hr => by
     have h1 := List.all_eq_true.1 hn r (List.mem_range.2 (hR1.res r e hr).1)
     rw [hr] at h1
     obtain ⟨R, o, lk⟩ := e
     cases o with
     | new => cases h1
     | par j => exact .inl ⟨j, rfl⟩
     | ro => exact .inr ⟨rfl, h1⟩
    refine ⟨rfl, K2, hR1.mod, hR1.ext, fun W2 hE2 hM2 => ?_⟩
    have hsW1 : W.heap.size ≤ W1.heap.size := hR1.ext.size
    let Ga : Glob := { G2 with w0 := W1, K0 := K2, X := fun g => Y g ∨ g = w.heap.size + 1, hX := fun j g hg => .inl (G2.hX j g hg) }
    have hRa : Rel Ga s1 θ1 ρ1 W1 K2 := hR1.base (Ext.refl _ _ _) rfl rfl rfl rfl (fun r e hr => by
     rcases hO1 r e hr with ⟨q, hq⟩ | ⟨hq, _⟩
     ·have ho := (hR1.res r e hr).2.2
      rw [hq] at ho ⊢
      exact fun g hg => (ho g hg).elim (fun h => .inl h) (fun h => .inl (.inr (Nat.le_trans hsW h)))
     ·rw [hq]; trivial)
    have hFa : ∀ j g, Ga.F0 j g → (∃ e0, s.res j = some e0 ∧ j ∉ rs ∧ θ.fp j g) ∨ w.heap.size + 2 ≤ g := fun j g hg => hg.imp (fun ⟨⟨e, c1, _, c3⟩, c4⟩ => ⟨e, c1, c3, c4⟩) (fun h => h)
    have hfar1 := far Ga s1 θ1 ρ1 W1 K2 hRa rfl rfl (Nat.le_trans hsW hsW1) hFa (fun r e hr => (hO1 r e hr).imp (fun h => h) And.right)
    have hRb := hRa.away hE2 hM2 (fun r e hr g hg => (apart g (hfar1 r e g hr hg)).2.1) (fun g hg _ => .inr hg)
    let G3 : Glob := { G2 with w0 := W2, K0 := K2 }
    have hRc : Rel G3 s1 θ1 ρ1 W2 K2 := hRb.base (Ext.refl _ _ _) rfl rfl rfl rfl (fun r e hr => by
     rcases hO1 r e hr with ⟨q, hq⟩ | ⟨hq, _⟩
     ·have ho := (hRb.res r e hr).2.2
      rw [hq] at ho ⊢
      exact fun g hg => (ho g hg).elim (fun h => .inl h) (fun h => .inl (.inr (Nat.le_trans hsW (Nat.le_trans hsW1 h))))
     ·rw [hq]; trivial)
    refine (hB _ _ hk1 G3 θ1 ρ1 W2 K2 ⟨hlk⟩ hRc).mono ?_
    rintro e ρ2 W3 ⟨K3, θ2, s2, hk2, hR3, _⟩
    cases e with
    | normal =>
      simp only at hk2
      split at hk2
      ·rename_i v' σ' hfit'
       cases hok' : qfp (s2.envTo s) s.nx nx l σ' with
       | false => rw [hok'] at hk2; exact hk2.elim
       | true =>
       rw [hok'] at hk2
       have hold2 : ∀ r, r < s.nx → θ2.key r = θ.key r := fun r hr => by
        rw [(hR3.old r hr).1]
        show θ.key (sigma σ0 r) = _
        rw [hlt0 r hr]
       have henv2 : ∀ t sv, s.env t = some sv → sv.rel θ2 s.nx K3 (ρ t) := fun t sv hsv =>
        ((h.env t sv hsv).low (θ' := θ2) (n' := s.nx) hold2 (h.env t sv hsv).bd).mono (Th.upto.refl _ _) (Nat.le_refl _) hR3.kle
       have hRe : Rel G3 (s2.envTo s) θ2 ρ W3 K3 := ⟨hR3.mod, hR3.ext, hR3.kle, hR3.old, hR3.nbx, hR3.frz, fun t sv hsv => (henv2 t sv hsv).mono (Th.upto.refl _ _) hR3.nbx (Ghost.le.refl _), hR3.res, hR3.sep⟩
       obtain ⟨_, _, _, _, h5'⟩ := qdb hok'
       have hlt' : ∀ r, r < s.nx → sigma σ' r = r := fun r hr => qcA (fun p hp => (h5' p hp).1) hr
       have hhd : Rel G3 (qdc (parS rs s) [] base nx l v') (θ2.via (sigma σ')) ρ W3 K3 := by
        refine qga hRe (G' := G3) ⟨rfl, rfl, rfl, rfl⟩ hfit' hok' hnx hR3.kle rfl (fun r hr => ?_) rfl ?_ ?_
        ·show θ2.key (sigma σ' r) = _ ∧ θ2.sur (sigma σ' r) = _
         rw [hlt' r hr]
         exact hR3.old r hr
        ·intro r e he
         obtain ⟨b1, _⟩ := hbase r e he
         obtain ⟨f1, f2⟩ := hRe.frz r e he
         refine ⟨b1, ⟨e, f1, rfl, rfl⟩, fun hmem => ?_, f2, hplt r e he⟩
         obtain ⟨e', he', hl'⟩ := qeQ hfit' hok' r hmem
         rw [f1] at he'
         cases he'
         rw [hlk r e he] at hl'
         cases hl'
        ·intro t sv ht hsv
         exact ((henv2 t sv hsv).low (θ' := θ2.via (sigma σ')) (n' := s.nx) (fun r hr => by show θ2.key (sigma σ' r) = _; rw [hlt' r hr]) (h.env t sv hsv).bd).mono (Th.upto.refl _ _) hnx (Ghost.le.refl _)
       have hYX : ∀ b, Y b → b < Wb.heap.size → (GR Wb).X b := fun b hb hlt => by
        rcases hb with ⟨r, e, c1, c2, _, c4⟩ | hb
        ·exact .inl ⟨r, e, c1, c2, c4⟩
        ·omega
       refine ⟨rfl, K3, ⟨Wb, v', _, hE, hMb, hsz, hk2, fun q hq => qj7 hRe hfit' hq, hhd.base ?_ rfl rfl rfl rfl (fun r e hr => ?_)⟩, hR3.mod, hR3.ext⟩
       ·exact ((hR.ext.comp hR1.ext hYX).comp hE2 (fun b hb _ => .inr hb)).comp hR3.ext hYX
       ·rcases headP v' r e hr with ⟨q, hq⟩ | hq
        ·have ho := (hhd.res r e hr).2.2
         rw [hq] at ho ⊢
         refine fun g hg => (ho g hg).elim (fun h => h.elim (fun h => .inl h) (fun h => .inr (by show Wb.heap.size ≤ g; omega))) (fun h => .inr ?_)
         have h1 : W2.heap.size ≤ g := h
         have h2 := hE2.size
         show Wb.heap.size ≤ g
         omega
        ·rw [hq]; trivial
      ·exact hk2.elim
    | exit id => exact hk2.elim
    | goto id => exact hk2.elim
    | ret => exact hk2.elim
    | panic ch => exact hk2.elim
    | outgrown => exact hk2.elim
  | exit id => exact hk1.elim
  | goto id => exact hk1.elim
  | ret => exact hk1.elim
  | panic ch => exact hk1.elim
  | outgrown => exact hk1.elim
 ·
  rintro W' K' ⟨Wb, v, θ', hE, hMb, hsz, hI, hwf, hR⟩ hM' hD
  rw [List.length_map] at hI
  have hcond := hwf _ (qil hend v hI)
  refine hQ rs Wb W' K' _ θ' hfree hE hsz hcond ?_ hD
  have hent := qjw h hG rs (w.heap.size + 1) hE hMb
  have hcase : ∀ r e, (unlock (parS rs s) (srcs σ0 l) (qdc (parS rs s) [] base nx l v)).res r = some e → ∃ e', (qdc (parS rs s) [] base nx l v).res r = some e' ∧ e'.r = e.r ∧ e'.org = e.org := fun r e hr => by
   have hr' : (match base r with
    | some _ => (parS rs s).res r
    | none => (qdc (parS rs s) [] base nx l v).res r) = some e := hr
   split at hr'
   ·rename_i eb heb
    obtain ⟨b1, b2, e0, b3, b4⟩ := hbase r eb heb
    rw [b3] at hr'
    cases hr'
    exact ⟨eb, (hR.frz r eb heb).1, by rw [b4]; rfl, by rw [b4]; rfl⟩
   ·exact ⟨e, hr', rfl, rfl⟩
  refine ⟨hR.mod, hR.ext, hR.kle, fun r hr => ?_, hnx, ?_, hR.env, ?_, ?_⟩
  ·have h3 := hR.old r hr
   refine ⟨h3.1.trans ?_, h3.2.trans ?_⟩
   ·show θ.key (sigma σ0 r) = _; rw [hlt0 r hr]; rfl
   ·show θ.sur (sigma σ0 r) = _; rw [hlt0 r hr]; rfl
  ·intro r e hr
   obtain ⟨f1, f2⟩ := hent.frz r e hr
   have hl := qft.lk r e hr
   have hrlt := (hent.res r e f1).1
   have hnot : r ∉ srcs σ0 l := fun hm => by
    obtain ⟨e', he', hl'⟩ := qeQ hfit hok r hm
    rw [f1] at he'
    cases he'
    rw [hl] at hl'
    cases hl'
   have hbr : base r = some (qhM e) := qjn f1 hrlt hnot
   refine ⟨?_, ?_⟩
   ·show (match base r with
     | some _ => (parS rs s).res r
     | none => (qdc (parS rs s) [] base nx l v).res r) = some e
    rw [hbr]
    exact f1
   ·rw [(hR.frz r _ hbr).2]
    show θ.fp (sigma σ0 r) = _
    rw [hlt0 r hrlt]
    exact f2
  ·intro r e hr
   obtain ⟨e', c1, c2, c3⟩ := hcase r e hr
   obtain ⟨d1, d2, d3⟩ := hR.res r e' c1
   exact ⟨d1, by rw [← c2]; exact d2, by rw [← c3]; exact d3⟩
  ·intro r r' e e' hr hr' hne
   obtain ⟨e1, c1, _⟩ := hcase r e hr
   obtain ⟨e2, c2, _⟩ := hcase r' e' hr'
   exact hR.sep r r' e1 e2 c1 c2 hne
end
end Go.Inc

set_option linter.unusedVariables false
namespace Go.Inc
open Go Go.RowKit
def qjg (P : Program) : List (Nat × ICtr) → Prop
 | [] => True
 | p :: l => p.2.valid P p.1 ∧ qjg P l
def ql1 (f : Nat) : List (Nat × ICtr) → Option ICtr
 | [] => none
 | p :: l => bif Nat.beq f p.1 then some p.2 else ql1 f l
theorem qjg.find {P : Program} {f : Nat} {C : ICtr} : ∀ {l : List (Nat × ICtr)}, qjg P l → ql1 f l = some C → C.valid P f
 | [], _, h => by cases h
 | p :: l, hl, h => by
   simp only [ql1] at h
   cases hb : Nat.beq f p.1 with
   | true =>
     rw [hb] at h
     cases h
     rw [Nat.eq_of_beq_eq_true hb]
     exact hl.1
   | false => rw [hb] at h; exact qjg.find hl.2 h
def hasR : Code → Bool
 | .seq a b => hasR a || hasR b
 | .block _ c => hasR c
 | .rangeFunc _ _ _ _ => true
 | _ => false
def qiA (X : Fx) (its : List (Nat × ICtr)) (ex : Nat → Code → St → (Exit → St → Prop) → Prop) (n : Nat) : Code → St → (Exit → St → Prop) → (St → Exit → St → Prop) → Prop
 | .seq a b, s, kA, kB => bif hasR a then qiA X its ex n a s (fun e s' => match e with
    | .normal => ex n b s' kA
    | e => kA e s') (fun sr e s' => match e with
    | .normal => ex n b s' (kB sr)
    | e => kB sr e s') else ex n a s (fun e s' => match e with
    | .normal => qiA X its ex n b s' kA kB
    | e => kA e s')
 | .block id c, s, kA, kB => qiA X its ex n c s (fun e s' => match e with
    | .exit j => bif Nat.beq j id then kA .normal s' else kA (.exit j) s'
    | e => kA e s') (fun sr e s' => match e with
    | .exit j => bif Nat.beq j id then kB sr .normal s' else kB sr (.exit j) s'
    | e => kB sr e s')
 | .rangeFunc g ps asg body, s, kA, kB => match ps.toList, s.opd g with
   | [p], some (.fn f cs) => bif memB f X.fns && Nat.blt p n then (match ql1 f its with
     | some C => qk5 C (ex n asg) (ex n body) s p cs (ql9 (qda body) X.lps).1 (kB s .normal)
     | none => False) else False
   | _, _ => False
 | c, s, kA, kB => ex n c s kA
def qvh (G : Glob) (kA : Exit → St → Prop) (kB : St → Exit → St → Prop) : Option Nat → Post
 | none => fun e ρ w => ∃ K θ s, kA e s ∧ Rel G s θ ρ w K
 | some D => fun e ρ w => ∃ (sr : St) (θr : Th) (ρr : Env) (wr : World) (Kr : Ghost) (Wb : World) (rs : List Nat) (K : Ghost) (θ : Th) (s : St), Rel G sr θr ρr wr Kr ∧ (∀ r ∈ rs, ∃ e, sr.res r = some e ∧ qaz e = true) ∧ Ext NX wr Kr Wb Kr ∧ Wb.heap.size = wr.heap.size + 2 ∧ D = wr.heap.size ∧ w.heap[D]? = some (.deferred (some [])) ∧ kB sr e s ∧ Rel (qfs sr θr rs (D + 1) Wb Kr) s θ ρ w K
theorem qm0 {G : Glob} {sr : St} {θr : Th} {ρr : Env} {wr : World} {Kr : Ghost} {Wb : World} {rs : List Nat} {D : Nat} (hr : Rel G sr θr ρr wr Kr) (hsz : Wb.heap.size = wr.heap.size + 2) (hD : D = wr.heap.size) {s s' : St} {θ θ' : Th} {ρ ρ' : Env} {w w' : World} {K K' : Ghost} {o : Obj}
 (h : Rel (qfs sr θr rs (D + 1) Wb Kr) s θ ρ w K) (h' : Rel (qfs sr θr rs (D + 1) Wb Kr) s' θ' ρ' w' K') (ho : w.heap[D]? = some o) : w'.heap[D]? = some o := by
 have hX : ¬ (qfs sr θr rs (D + 1) Wb Kr).X D := by
  rintro (⟨r, e, h1, h2, h3⟩ | h1)
  ·have := (hr.res r e h1).2.1.lt D h3
   omega
  ·omega
 have hlt : D < Wb.heap.size := by omega
 have e1 := h.ext.heap D hlt hX
 have e2 := h'.ext.heap D hlt hX
 show w'.heap[D]? = _
 rw [e2, ← e1]
 exact ho
section
variable {X : Fx} {its : List (Nat × ICtr)} {ex : Nat → Code → St → (Exit → St → Prop) → Prop} {n : Nat} {G : Glob}
theorem qkK (hex : Walks X ex) {c : Code} {s : St} {kA : Exit → St → Prop} {kB : St → Exit → St → Prop} (hk : ex n c s kA) (hG : G.fine) {θ : Th} {ρ : Env} {w : World} {K : Ghost} (h : Rel G s θ ρ w K) : WF X.c.P n c (qvh G kA kB) ρ w :=
 qw8 ((hex n c s kA hk G θ ρ w K hG h).mono fun e ρ' w' ⟨K', θ', s', h1, h2, _⟩ => ⟨K', θ', s', h1, h2⟩)
theorem qjy (hX : X.ok) (hex : Walks X ex) (hI : qjg X.c.P its) : ∀ (c : Code) (s : St) (kA : Exit → St → Prop) (kB : St → Exit → St → Prop), qiA X its ex n c s kA kB → ∀ (θ : Th) (ρ : Env) (w : World) (K : Ghost), G.fine → Rel G s θ ρ w K → WF X.c.P n c (qvh G kA kB) ρ w := by
 intro c
 induction c with
 | seq a b iha ihb =>
   intro s kA kB hk θ ρ w K hG h
   simp only [qiA] at hk
   cases hR : hasR a with
   | true =>
     rw [hR] at hk
     refine qtE ((iha s _ _ hk θ ρ w K hG h).mono ?_)
     intro D e ρ' w' hq
     cases D with
     | none =>
       obtain ⟨K', θ', s', h1, h2⟩ := hq
       cases e with
       | normal => exact (hex n b s' kA h1 G θ' ρ' w' K' hG h2).mono fun e ρ' w' ⟨K', θ', s', h1, h2, _⟩ => ⟨K', θ', s', h1, h2⟩
       | exit id => exact ⟨K', θ', s', h1, h2⟩
       | goto id => exact ⟨K', θ', s', h1, h2⟩
       | ret => exact ⟨K', θ', s', h1, h2⟩
       | panic ch => exact ⟨K', θ', s', h1, h2⟩
       | outgrown => exact ⟨K', θ', s', h1, h2⟩
     | some D =>
       obtain ⟨sr, θr, ρr, wr, Kr, Wb, rs, K', θ', s', a1, a2, a3, a4, a5, a6, h1, h2⟩ := hq
       cases e with
       | normal => exact (hex n b s' (kB sr) h1 _ θ' ρ' w' K' qft h2).mono fun e ρ2 w2 ⟨K2, θ2, s2, h3, h4, _⟩ => ⟨sr, θr, ρr, wr, Kr, Wb, rs, K2, θ2, s2, a1, a2, a3, a4, a5, qm0 a1 a4 a5 h2 h4 a6, h3, h4⟩
       | exit id => exact ⟨sr, θr, ρr, wr, Kr, Wb, rs, K', θ', s', a1, a2, a3, a4, a5, a6, h1, h2⟩
       | goto id => exact ⟨sr, θr, ρr, wr, Kr, Wb, rs, K', θ', s', a1, a2, a3, a4, a5, a6, h1, h2⟩
       | ret => exact ⟨sr, θr, ρr, wr, Kr, Wb, rs, K', θ', s', a1, a2, a3, a4, a5, a6, h1, h2⟩
       | panic ch => exact ⟨sr, θr, ρr, wr, Kr, Wb, rs, K', θ', s', a1, a2, a3, a4, a5, a6, h1, h2⟩
       | outgrown => exact ⟨sr, θr, ρr, wr, Kr, Wb, rs, K', θ', s', a1, a2, a3, a4, a5, a6, h1, h2⟩
   | false =>
     rw [hR] at hk
     refine qvZ ((hex n a s _ hk G θ ρ w K hG h).mono ?_)
     rintro e ρ' w' ⟨K', θ', s', h1, h2, _⟩
     cases e with
     | normal => exact ihb s' kA kB h1 θ' ρ' w' K' hG h2
     | exit id => exact ⟨K', θ', s', h1, h2⟩
     | goto id => exact ⟨K', θ', s', h1, h2⟩
     | ret => exact ⟨K', θ', s', h1, h2⟩
     | panic ch => exact ⟨K', θ', s', h1, h2⟩
     | outgrown => exact ⟨K', θ', s', h1, h2⟩
 | block id c ih =>
   intro s kA kB hk θ ρ w K hG h
   simp only [qiA] at hk
   refine qqE ((ih s _ _ hk θ ρ w K hG h).mono ?_)
   intro D e ρ' w' hq
   cases D with
   | none =>
     obtain ⟨K', θ', s', h1, h2⟩ := hq
     cases e with
     | exit j =>
       simp only at h1
       simp only [qd3]
       by_cases hj : j = id
       ·subst hj
        rw [Nat.beq_refl] at h1
        rw [if_pos rfl]
        exact ⟨K', θ', s', h1, h2⟩
       ·rw [qby hj] at h1
        rw [if_neg hj]
        exact ⟨K', θ', s', h1, h2⟩
     | normal => exact ⟨K', θ', s', h1, h2⟩
     | goto id => exact ⟨K', θ', s', h1, h2⟩
     | ret => exact ⟨K', θ', s', h1, h2⟩
     | panic ch => exact ⟨K', θ', s', h1, h2⟩
     | outgrown => exact ⟨K', θ', s', h1, h2⟩
   | some D =>
     obtain ⟨sr, θr, ρr, wr, Kr, Wb, rs, K', θ', s', a1, a2, a3, a4, a5, a6, h1, h2⟩ := hq
     cases e with
     | exit j =>
       simp only at h1
       simp only [qd3]
       by_cases hj : j = id
       ·subst hj
        rw [Nat.beq_refl] at h1
        rw [if_pos rfl]
        exact ⟨sr, θr, ρr, wr, Kr, Wb, rs, K', θ', s', a1, a2, a3, a4, a5, a6, h1, h2⟩
       ·rw [qby hj] at h1
        rw [if_neg hj]
        exact ⟨sr, θr, ρr, wr, Kr, Wb, rs, K', θ', s', a1, a2, a3, a4, a5, a6, h1, h2⟩
     | normal => exact ⟨sr, θr, ρr, wr, Kr, Wb, rs, K', θ', s', a1, a2, a3, a4, a5, a6, h1, h2⟩
     | goto id => exact ⟨sr, θr, ρr, wr, Kr, Wb, rs, K', θ', s', a1, a2, a3, a4, a5, a6, h1, h2⟩
     | ret => exact ⟨sr, θr, ρr, wr, Kr, Wb, rs, K', θ', s', a1, a2, a3, a4, a5, a6, h1, h2⟩
     | panic ch => exact ⟨sr, θr, ρr, wr, Kr, Wb, rs, K', θ', s', a1, a2, a3, a4, a5, a6, h1, h2⟩
     | outgrown => exact ⟨sr, θr, ρr, wr, Kr, Wb, rs, K', θ', s', a1, a2, a3, a4, a5, a6, h1, h2⟩
 | rangeFunc g ps asg body _ _ =>
   intro s kA kB hk θ ρ w K hG h
   simp only [qiA] at hk
   split at hk
   ·rename_i p f cs hps hg
    have eps : ps = #[p] := by rw [show ps = ps.toList.toArray by simp, hps]
    subst eps
    cases hb : (memB f X.fns && Nat.blt p n) with
    | false => rw [hb] at hk; exact hk.elim
    | true =>
      rw [hb] at hk
      simp only [Bool.and_eq_true] at hb
      simp only [cond_true] at hk
      split at hk
      ·rename_i C hC
       obtain ⟨us, hgo, hus⟩ := h.opd hg
       intro a ha
       refine qpo (hI.find hC) (fun s k hk G θ ρ w K hG h => hex n asg s k hk G θ ρ w K hG h) (fun s k hk G θ ρ w K hG h => hex n body s k hk G θ ρ w K hG h) hG h hus hgo (hX.fns f (qiP hb.1)) (Nat.le_of_ble_eq_true hb.2) hk ha ?_
       intro rs Wb W' K' sB θB hfree hE hsz hkB hRB hD
       exact ⟨some w.heap.size, ρ, ⟨ha.size, rfl, ha.get⟩, s, θ, ρ, w, K, Wb, rs, K', θB, sB, h, hfree, hE, hsz, rfl, hD, hkB, hRB⟩
      ·exact hk.elim
   ·exact hk.elim
 | _ => intro s kA kB hk θ ρ w K hG h; exact qkK hex hk hG h
end
end Go.Inc

set_option linter.unusedVariables false
namespace Go.Inc
open Go Go.RowKit
def endB : Exit → Bool
 | .normal => true
 | .ret => true
 | _ => false
def roB (sr s : St) : Bool := (List.range s.nx).all fun r => match s.res r with
 | some e => match e.org with
   | .ro => (match sr.res r with
     | some e0 => !qaz e0
     | none => false)
   | _ => true
 | none => true
theorem qwo {sr s : St} (h : roB sr s = true) {r : Nat} {e : RE} (hr : s.res r = some e) (hlt : r < s.nx) (ho : e.org = .ro) : ∃ e0, sr.res r = some e0 ∧ qaz e0 = false := by
 have h1 := List.all_eq_true.1 h r (List.mem_range.2 hlt)
 rw [hr] at h1
 simp only [ho] at h1
 split at h1
 ·rename_i e0 he0
  exact ⟨e0, he0, by simpa using h1⟩
 ·cases h1
theorem Models.none_dead {w : World} {K : Ghost} (h : Models w K) {l : Nat} {d : Option (List Deferred)} (hl : w.heap[l]? = some (.deferred d)) : K l = none := by
 cases hk : K l with
 | none => rfl
 | some tl =>
   obtain ⟨cs, fr, h1, _⟩ := h l tl.1 tl.2 hk
   rw [hl] at h1
   cases h1
def qq9 (sr : St) (θr : Th) (rs : List Nat) (D : Nat) (Wb : World) (Kr : Ghost) : Glob := { qfs sr θr rs (D + 1) Wb Kr with X := fun g => (qfs sr θr rs (D + 1) Wb Kr).X g ∨ g = D, hX := fun j g hg => .inl ((qfs sr θr rs (D + 1) Wb Kr).hX j g hg) }
theorem qmS {sr : St} {θr : Th} {rs : List Nat} {D : Nat} {Wb : World} {Kr : Ghost} : (qq9 sr θr rs D Wb Kr).fine := ⟨fun r e he => (qft (s := sr) (θ := θr) (rs := rs) (l := D + 1) (Wb := Wb) (K := Kr)).lk r e he⟩
theorem qlY {sr : St} {θr : Th} {rs : List Nat} {l : Nat} {Wb : World} {Kr : Ghost} (a2 : ∀ r ∈ rs, ∃ e, sr.res r = some e ∧ qaz e = true) : ∀ r e0, sr.res r = some e0 → qaz e0 = false → (qfs sr θr rs l Wb Kr).frz r = some { e0 with org := .ro, lk := true } := fun r e0 h3 h4 => by
 show (bif memB r rs then none else match sr.res r with
  | some e => bif qaz e then none else some ({ e with org := .ro, lk := true } : RE)
  | none => none) = _
 have hm : memB r rs = false := by
  cases hm : memB r rs with
  | false => rfl
  | true =>
    obtain ⟨e1, c1, c2⟩ := a2 r (qb8.1 hm)
    rw [h3] at c1
    cases c1
    rw [h4] at c2
    cases c2
 rw [hm, h3]
 simp [h4]
theorem qmm {G : Glob} {sr s : St} {θr θ2 : Th} {ρr ρ2 : Env} {wr Wb w2 : World} {Kr K2 : Ghost} {rs : List Nat} {D : Nat} (a1 : Rel G sr θr ρr wr Kr) (a2 : ∀ r ∈ rs, ∃ e, sr.res r = some e ∧ qaz e = true) (a4 : Wb.heap.size = wr.heap.size + 2) (a5 : D = wr.heap.size) (a6 : w2.heap[D]? = some (.deferred (some []))) (h2 : Rel (qfs sr θr rs (D + 1) Wb Kr) s θ2 ρ2 w2 K2) (hro : roB sr s = true) :
 Rel (qq9 sr θr rs D Wb Kr) s θ2 ρ2 (w2.putObj D (.deferred none)) K2 := by
 have hd : Rel (qq9 sr θr rs D Wb Kr) s θ2 ρ2 w2 K2 := h2.base (h2.ext.weak fun g _ hg => .inl hg) rfl rfl rfl rfl (fun r e hr => (h2.res r e hr).2.2)
 refine hd.away (Ext.putObj w2 K2 _) (h2.mod.putObj (Models.none_dead h2.mod a6) _) ?_ (fun g hg _ => .inr hg)
 intro r e hr g hg hD
 subst hD
 cases ho : e.org with
 | new =>
   have := (h2.res r e hr).2.2
   rw [ho] at this
   have h5 : Wb.heap.size ≤ g := this g hg
   omega
 | par j =>
   have := (h2.res r e hr).2.2
   rw [ho] at this
   rcases this g hg with ⟨⟨e0, c1, c2, _⟩, c3⟩ | h5
   ·have := (a1.res j e0 c1).2.1.lt g c3
    omega
   ·have h5 : Wb.heap.size ≤ g := h5
    omega
 | ro =>
   obtain ⟨e0, c1, c2⟩ := qwo hro hr (h2.res r e hr).1 ho
   have c4 : θ2.fp r = θr.fp r := (h2.frz r _ (qlY (θr := θr) (l := g + 1) (Wb := Wb) (Kr := Kr) a2 r e0 c1 c2)).2
   rw [c4] at hg
   have := (a1.res r e0 c1).2.1.lt g hg
   omega
theorem qmn {G : Glob} {sr s : St} {θr θ2 : Th} {ρr ρ2 : Env} {wr Wb w2 : World} {Kr K2 : Ghost} {rs : List Nat} {D : Nat} (hG : G.fine) (a1 : Rel G sr θr ρr wr Kr) (a2 : ∀ r ∈ rs, ∃ e, sr.res r = some e ∧ qaz e = true) (a3 : Ext NX wr Kr Wb Kr) (a5 : D = wr.heap.size) (h3 : Rel (qq9 sr θr rs D Wb Kr) s θ2 ρ2 w2 K2) : Rel G (retS sr s) θ2 ρr w2 K2 := by
 refine qpr hG a1 h3 a3 ?_ rfl rfl rfl (fun j g hg => ⟨⟨hg.1.choose, hg.1.choose_spec.1, hg.1.choose_spec.2.1⟩, hg.2⟩) (qlY (θr := θr) (l := D + 1) (Wb := Wb) (Kr := Kr) a2)
 rintro g ((hg | hg) | hg) hlt
 ·exact hg
 ·omega
 ·omega
def qoR (X : Fx) (its : List (Nat × ICtr)) (ex : Nat → Code → St → (Exit → St → Prop) → Prop) : Ex := fun f svs s k =>
 match X.c.P.funcs[f]? with
 | some fn => match fn.body with
   | some code => bif hasR code then (bif Nat.ble svs.length fn.ntmps then qiA X its ex fn.ntmps code (entS svs s) (fun e s' => bif endB e then (match qeT fn.results.toList with
      | some ts => (match s'.gets ts with
        | some vs => k (qbP s s.nx) (retS s s') (some (tupS vs))
        | none => False)
      | none => False) else False) (fun sr e s' => bif endB e && roB sr s' then (match qeT fn.results.toList with
      | some ts => (match s'.gets ts with
        | some vs => k (qbP s s.nx) (retS s (retS sr s')) (some (tupS vs))
        | none => False)
      | none => False) else False) else False) else qkR X ex f svs s k
   | none => False
 | none => False
theorem qiy {e : Exit} (h : endB e = true) : e = .normal ∨ e = .ret := by
 cases e with
 | normal => exact .inl rfl
 | ret => exact .inr rfl
 | exit id => cases h
 | goto id => cases h
 | panic ch => cases h
 | outgrown => cases h
section
variable {X : Fx} {its : List (Nat × ICtr)} {f : Nat} {C : Ctr}
theorem qoS (hX : X.ok) (hI : qjg X.c.P its) : ∀ ex, Walks X ex → ExOk X (qoR X its ex) := by
 intro ex hex f svs s k hk G θ ρ w K vs hG h hvs
 unfold qoR at hk
 split at hk
 ·rename_i fn hfn
  split at hk
  ·rename_i code hcode
   cases hR : hasR code with
   | false => rw [hR] at hk; exact qiG hX ex hex f svs s k hk G θ ρ w K vs hG h hvs
   | true =>
   rw [hR] at hk
   simp only [cond_true] at hk
   cases hlen : Nat.ble svs.length fn.ntmps with
   | false => rw [hlen] at hk; exact hk.elim
   | true =>
     rw [hlen] at hk
     simp only [cond_true] at hk
     have hlen' : vs.length ≤ fn.ntmps := by rw [qgi hvs]; exact Nat.le_of_ble_eq_true hlen
     refine qgG hfn hcode hlen' ((qjy hX hex hI code (entS svs s) _ _ hk θ (qei vs) w K qfr (qlQ h hvs)).mono ?_)
     intro D e ρ2 w2 hq
     cases D with
     | none =>
       obtain ⟨K2, θ2, s', hk2, h2⟩ := hq
       cases he : endB e with
       | false => rw [he] at hk2; exact hk2.elim
       | true =>
       rw [he] at hk2
       simp only [cond_true] at hk2
       have fin : ∃ v, (resE X.c.P fn.results ρ2).run X.c.P w2 = .ok v w2 ∧ ∃ v', Ending.returned v = .returned v' ∧ EPost G s θ ρ w K k v' w2 := by
        split at hk2
        ·rename_i ts hts
         split at hk2
         ·rename_i svs' hsv
          exact ⟨_, qg2 hts, _, rfl, qiH hG h h2 (h2.gets hsv) hk2⟩
         ·exact hk2.elim
        ·exact hk2.elim
       rcases qiy he with rfl | rfl
       ·exact fin
       ·exact fin
     | some D =>
       obtain ⟨sr, θr, ρr, wr, Kr, Wb, rs, K2, θ2, s', a1, a2, a3, a4, a5, a6, hk2, h2⟩ := hq
       cases he : (endB e && roB sr s') with
       | false => rw [he] at hk2; exact hk2.elim
       | true =>
       rw [he] at hk2
       simp only [cond_true] at hk2
       simp only [Bool.and_eq_true] at he
       refine ⟨qiy he.1, a6, ?_⟩
       have h3 := qmm a1 a2 a4 a5 a6 h2 he.2
       split at hk2
       ·rename_i ts hts
        split at hk2
        ·rename_i svs' hsv
         exact ⟨_, qg2 hts, _, rfl, qiH hG h (qmn qfr a1 a2 a3 a5 h3) (h3.gets hsv) hk2⟩
        ·exact hk2.elim
       ·exact hk2.elim
  ·exact hk.elim
 ·exact hk.elim
def finR (X : Fx) (C : Ctr) (rs : Array ResultVar) (sr s : St) (Q : RM.denL C.rm → PM.MD C.pm → Prop) : Prop :=
 bif roB sr s then (match (matS X.c (qcB rs.toList) s).outs X.c rs.toList with
 | some vs => (match qcz (retS sr (matS X.c (qcB rs.toList) s)) C.rm vs, qbH (retS sr (matS X.c (qcB rs.toList) s)) C.pm 0 with
   | some (o, ids), some m => bif qaN ids then Q o m else False
   | _, _ => False)
 | none => False) else False
def fvcR (X : Fx) (its : List (Nat × ICtr)) (fuel f : Nat) (C : Ctr) (a : PM.denL C.pm) (Q : RM.denL C.rm → PM.MD C.pm → Prop) : Prop :=
 match X.c.P.funcs[f]? with
 | some fn => (match fn.body with
   | some code => bif Nat.ble (PM.svL C.pm a 0).length fn.ntmps then qiA X its (exec X (qoR X its) fuel) fn.ntmps code (entF C.pm a) (fun e s => bif endB e then finF X C fn.results s Q else False) (fun sr e s => bif endB e then finR X C fn.results sr s Q else False) else False
   | none => False)
 | none => False
theorem qjr (hX : X.ok) (hI : qjg X.c.P its) (fuel : Nat) (h : ∀ a, C.pre a → PM.wfP C.pm a (fvcR X its fuel f C a fun o m => o = (C.out a).1 ∧ m = (C.out a).2)) : C.valid X.c.P f := by
 intro a hpre θ vs w K hM hargs
 have hvc := PM.wfP_ok hargs.vals (fun j R u hj => by rw [Nat.zero_add]; exact hargs.sat j R u hj) (h a hpre)
 unfold fvcR at hvc
 split at hvc
 ·rename_i fn hfn
  split at hvc
  ·rename_i code hcode
   cases hlen : Nat.ble (PM.svL C.pm a 0).length fn.ntmps with
   | false => rw [hlen] at hvc; exact hvc.elim
   | true =>
     rw [hlen] at hvc
     simp only [cond_true] at hvc
     have hlen' : vs.length ≤ fn.ntmps := by rw [qgi hargs.vals]; exact Nat.le_of_ble_eq_true hlen
     have hG : (qhi C.pm a θ w K).fine := qfq
     refine qgG hfn hcode hlen' ((qjy hX (qfm hX (qoS hX hI) fuel) hI code (entF C.pm a) _ _ hvc θ (qei vs) w K hG (qlP hM hargs)).mono ?_)
     have fin : ∀ (ρ2 ρ3 : Env) (w2 : World) (K2 : Ghost) (θ2 : Th) (s s3 : St) (G3 : Glob), G3.fine → Rel G3 s θ2 ρ2 w2 K2 → (∀ θ3, Rel G3 (matS X.c (qcB fn.results.toList) s) θ3 ρ2 w2 K2 → Rel (qhi C.pm a θ w K) s3 θ3 ρ3 w2 K2) → s3.nx = (matS X.c (qcB fn.results.toList) s).nx → (match (matS X.c (qcB fn.results.toList) s).outs X.c fn.results.toList with
      | some vs => (match qcz s3 C.rm vs, qbH s3 C.pm 0 with
        | some (o, ids), some m => bif qaN ids then o = (C.out a).1 ∧ m = (C.out a).2 else False
        | _, _ => False)
      | none => False) → ∃ v, (resE X.c.P fn.results ρ2).run X.c.P w2 = .ok v w2 ∧ ∃ v' K' θ', Ending.returned v = .returned v' ∧ OutOk C a θ w K v' w2 K' θ' := fun ρ2 ρ3 w2 K2 θ2 s s3 G3 hG3 h2 hto hnx hk => by
      obtain ⟨θ3, h3, _⟩ := qfA X.c hG3 (l := qcB fn.results.toList) h2
      split at hk
      ·rename_i svs hsv
       split at hk
       ·rename_i o ids m ho hm
        cases hd : qaN ids with
        | false => rw [hd] at hk; exact hk.elim
        | true =>
          rw [hd] at hk
          obtain ⟨k1, k2⟩ := hk
          subst k1; subst k2
          obtain ⟨us, hus, hrun⟩ := qg1 hX.c h3 hsv
          obtain ⟨θ', hO⟩ := qsF ρ3 w2 K2 θ3 s3 svs us ids (hto θ3 h3) (by rw [hnx]; exact hus) ho hm hd
          exact ⟨_, hrun, _, K2, θ', rfl, hO⟩
       ·exact hk.elim
      ·exact hk.elim
     intro D e ρ2 w2 hq
     cases D with
     | none =>
       obtain ⟨K2, θ2, s, hk2, h2⟩ := hq
       cases he : endB e with
       | false => rw [he] at hk2; exact hk2.elim
       | true =>
       rw [he] at hk2
       have hf := fin ρ2 ρ2 w2 K2 θ2 s _ _ hG h2 (fun θ3 h => h) rfl hk2
       rcases qiy he with rfl | rfl
       ·exact hf
       ·exact hf
     | some D =>
       obtain ⟨sr, θr, ρr, wr, Kr, Wb, rs, K2, θ2, s, a1, a2, a3, a4, a5, a6, hk2, h2⟩ := hq
       cases he : endB e with
       | false => rw [he] at hk2; exact hk2.elim
       | true =>
       rw [he] at hk2
       have hk : finR X C fn.results sr s (fun o m => o = (C.out a).1 ∧ m = (C.out a).2) := hk2
       unfold finR at hk
       cases hro : roB sr s with
       | false => rw [hro] at hk; exact hk.elim
       | true =>
       rw [hro] at hk
       exact ⟨qiy he, a6, fin ρ2 ρr (w2.putObj D (.deferred none)) K2 θ2 s (retS sr (matS X.c (qcB fn.results.toList) s)) _ qmS (qmm a1 a2 a4 a5 a6 h2 hro) (fun θ3 h3 => qmn hG a1 a2 a3 a5 h3) rfl hk⟩
  ·exact hvc.elim
 ·exact hvc.elim
theorem qkD (hX : X.ok) (hI : qjg X.c.P its) (fuel : Nat) (h : ∀ a, C.pre a → PM.wfP C.pm a (fvcR X its fuel f C a (eqO C a))) : C.valid X.c.P f := qjr hX hI fuel fun a hp => by
 have := h a hp
 rwa [qsy] at this
end
end Go.Inc

set_option linter.unusedVariables false
namespace Go.Inc
open Go Go.RowKit
def WY (P : Program) (n : Nat) (ops : Array Oper) (Q : Post) (l : List Nat) (ρ : Env) (w : World) : Prop := ∀ r ds a, Fits n ds ρ a → wpOpsIn (fen r) 0 P ops (lift n ds (nrmQ Q)) l a w
section
variable {P : Program} {n : Nat} {ops : Array Oper} {Q : Post} {ρ : Env} {w : World} {o : Oper} {i : Nat} {rest : List Nat}
theorem qv0 (h : Q .normal ρ w) : WY P n ops Q [] ρ w := fun r ds a ha => ⟨ρ, ha, rfl, h⟩
theorem qqH {v : Value} (ho : ops[i]? = some o) (hg : o.guard = none) (hd : qbu n o.dst = true) (hnd : ∀ c, o.op ≠ .defer c) (hr : (execOp (ev ρ) o).run P w = .ok (.value v) w) (h : WY P n ops Q rest (updO ρ o.dst v) w) : WY P n ops Q (i :: rest) ρ w := fun r ds a ha => by
 have hw : Region.wanted o (yielded ops a.tmps) = true := by unfold Region.wanted; rw [hg]
 simp only [wpOpsIn, ho]
 rw [if_pos hw]
 refine ⟨fun f _ => trivial, ?_⟩
 rw [Oper.semAt_eq _ _ _ hnd, ha.eval, hr]
 exact h r ds _ (ha.updO hd v)
theorem qqI {l : Nat} {args : Array Value} {R : World → Prop} (ho : ops[i]? = some o) (hg : o.guard = none) (hd : qbu n o.dst = true) (hnd : ∀ c, o.op ≠ .defer c) (hr : (execOp (ev ρ) o).run P w = (Instr.yield l args).run P w)
 (hY : YieldAt Fence.wide 0 P l args w fun e W' => e = .returned (.bool true) ∧ R W') (h : ∀ W', R W' → WY P n ops Q rest (updO ρ o.dst (.bool true)) W') : WY P n ops Q (i :: rest) ρ w := fun r ds a ha => by
 have hw : Region.wanted o (yielded ops a.tmps) = true := by unfold Region.wanted; rw [hg]
 obtain ⟨fn, tmps, asg, body, hrun, hR⟩ := hY
 simp only [wpOpsIn, ho]
 rw [if_pos hw]
 refine ⟨fun f _ => trivial, ?_⟩
 rw [Oper.semAt_eq _ _ _ hnd, ha.eval, hr, hrun]
 refine ⟨fun h => (by cases h), ?_⟩
 have hR' : RoundIn (fen r) 0 P l fn tmps asg body w fun e W' => e = .returned (.bool true) ∧ R W' := hR
 refine hR'.mono ?_
 rintro e W' ⟨rfl, hW⟩
 exact h W' hW r ds _ (ha.updO hd _)
theorem qmK {id : Nat} (h : WY P n ops Q (List.range ops.size) ρ w) : WP P n (.region id ops false) Q ρ w := fun r ds a ha => wpIn_mono (wpIn_region (h r ds a ha)) fun e a w h => qgf h
theorem quy {dst : Option Tmp} {ty : TypeId} {pos : String} {af : Array Edge} {g : Option (Nat × Bool)} {ts : Array TypeId} {t l : Nat} {x : Operand} (hf : ρ t = .func (.yield l) #[] #[]) :
 (execOp (ev ρ) ⟨dst, .call { callee := .value (.tmp t), args := #[x], argTypes := ts }, ty, pos, af, g⟩).run P w = (Instr.yield l #[ev ρ x]).run P w := by
 have hf' : ev ρ (.tmp t) = .func (.yield l) #[] #[] := hf
 unfold execOp
 simp [resolve, hf', Deferred.ofValue, invoke]
end
def qlJ (o : Oper) : Option (Nat × Operand) := match o.op with
 | .call ⟨.value (.tmp t), args, _⟩ => (match args.toList with
   | [a] => some (t, a)
   | _ => none)
 | _ => none
def capB (m : Nat) (s : St) : Bool := (List.range s.nx).all fun r => match s.res r with
 | some ⟨.bx _ _ [], .par q, _⟩ => Nat.blt r m && Nat.beq q r
 | some _ => false
 | none => true
def yldR (X : Fx) (L : List Int) (l m n : Nat) : List Oper → Nat → St → (Nat → St → Prop) → Prop
 | [], j, s, k => k j s
 | o :: r, j, s, k => bif qbu n o.dst && o.guard.isNone then (match qlJ o with
   | some (t, a) => (match s.env t, s.opd a with
     | some (.yld l'), some v => (match v.to (.int .i64) with
       | some z => bif capB m s then (l' = l ∧ L[j]? = some z) ∧ yldR X L l m n r (j + 1) (s.setO o.dst (.bt true)) k else False
       | none => False)
     | _, _ => False)
   | none => bif (opV X.c s o).isNo then False else (opV X.c s o).vcR (fun _ => true) (fun sv => yldR X L l m n r j (s.setO o.dst sv) k)) else False
def qjz (X : Fx) (fuel n : Nat) (L : List Int) (l m : Nat) : Code → Nat → St → (Exit → Nat → St → Prop) → Prop
 | .seq a b, j, s, k => qjz X fuel n L l m a j s fun e j' s' => match e with
   | .normal => qjz X fuel n L l m b j' s' k
   | e => k e j' s'
 | .block id c, j, s, k => qjz X fuel n L l m c j s fun e j' s' => match e with
   | .exit i => bif Nat.beq i id then k .normal j' s' else k (.exit i) j' s'
   | e => k e j' s'
 | .region id ops draw, j, s, k => bif ops.toList.any (fun o => (qlJ o).isSome) && !draw then yldR X L l m n ops.toList j s (k .normal) else exec X (qkR X) fuel n (.region id ops draw) s (fun e s' => k e j s')
 | c, j, s, k => exec X (qkR X) fuel n c s (fun e s' => k e j s')
def qiF (B : Nat → Prop) (θ0 : Th) (Kb : Ghost) (m : Nat) (w : World) (K : Ghost) : Glob :=
 { w0 := w, K0 := K, X := B, F0 := fun j g => B g ∧ θ0.fp j g, hX := fun j g h => h.1, Kb := Kb, θb := θ0, nb := m, frz := fun _ => none }
structure Held (B : Nat → Prop) (θ0 : Th) (m : Nat) : Prop where
 key : ∀ r, r < m → ∃ b, θ0.key r = .pointer (some ⟨b, (θ0.sur r).1.length, none⟩) ∧ B b ∧ ∀ g, θ0.fp r g ↔ g = b
 sep : ∀ r r', r < m → r' < m → r ≠ r' → ∀ g, θ0.fp r g → ¬ θ0.fp r' g
def qth (B : Nat → Prop) (θ0 : Th) (Kb : Ghost) (m : Nat) (J : Nat → World → Ghost → Prop) (k : Exit → Nat → St → Prop) : Post := fun e ρ w => ∃ K θ s j w0 K0, k e j s ∧ Rel (qiF B θ0 Kb m w0 K0) s θ ρ w K ∧ J j w0 K0
section
variable {X : Fx} {fuel n : Nat} {L : List Int} {l m : Nat} {B : Nat → Prop} {θ0 : Th} {Kb : Ghost} {J : Nat → World → Ghost → Prop}
theorem qmT {w : World} {K : Ghost} : (qiF B θ0 Kb m w K).fine := ⟨fun r e h => by cases h⟩
theorem qre (hB : Held B θ0 m) {s : St} {θ : Th} {ρ : Env} {w0 w W : World} {K0 K K' : Ghost} (h : Rel (qiF B θ0 Kb m w0 K0) s θ ρ w K) (hc : capB m s = true) (hE : Ext (fun b => ¬ B b) w K W K') (hM : Models W K') : Rel (qiF B θ0 Kb m W K') s θ ρ W K' := by
 have hat : ∀ r e, s.res r = some e → r < m ∧ e.org = .par r ∧ ∃ b, B b ∧ (∀ g, θ.fp r g ↔ g = b) ∧ ∀ g, θ0.fp r g ↔ g = b := fun r e he => by
  obtain ⟨r1, r2, r3⟩ := h.res r e he
  have h1 := List.all_eq_true.1 hc r (List.mem_range.2 r1)
  rw [he] at h1
  split at h1
  ·rename_i t x q lk heq
   cases heq
   simp only [Bool.and_eq_true] at h1
   have hr := Nat.le_of_ble_eq_true h1.1
   obtain rfl := Nat.eq_of_beq_eq_true h1.2
   refine ⟨hr, rfl, ?_⟩
   obtain ⟨b, hk, hBb, hf0⟩ := hB.key q hr
   obtain ⟨b', hk', hf, _⟩ := r2
   have hold := h.old q hr
   rw [hold.1] at hk'
   have hk0 : (qiF B θ0 Kb m w0 K0).θb.key q = .pointer (some ⟨b, (θ0.sur q).1.length, none⟩) := hk
   rw [hk0] at hk'
   simp only [Value.pointer.injEq, Option.some.injEq, Addr.mk.injEq, and_true] at hk'
   obtain ⟨rfl, _⟩ := hk'
   exact ⟨b, hBb, hf, hf0⟩
  ·cases h1
  ·rename_i heq; cases heq
 refine ⟨hM, Ext.refl _ _ _, h.kle.trans hE.le, h.old, h.nbx, fun r e hr => (by cases hr), fun t v hv => (h.env t v hv).mono (Th.upto.refl _ _) (Nat.le_refl _) hE.le, ?_, h.sep⟩
 intro r e he
 obtain ⟨r1, r2, r3⟩ := h.res r e he
 obtain ⟨h1, h2, b, h3, h4, h5⟩ := hat r e he
 refine ⟨r1, r2.ext (Th.upto.refl _ _) r1 rfl (Nat.le_refl _) hE (fun g hg hn => hn (by rw [(h4 g).1 hg]; exact h3)), ?_⟩
 rw [h2]
 exact fun g hg => .inl ⟨by rw [(h4 g).1 hg]; exact h3, (h5 g).2 ((h4 g).1 hg)⟩
variable (hX : X.ok) (hB : Held B θ0 m) (hJ : ∀ j W K W' K', J j W K → Ext B W K W' K' → Models W' K' → J j W' K')
 (hY : ∀ j x W K, L[j]? = some x → J j W K → Models W K → Yields X.c.P l (.int .i64 x) W fun W' => ∃ K', J (j + 1) W' K' ∧ Models W' K' ∧ Ext (fun b => ¬ B b) W K W' K')
include hX hB hJ hY
theorem qjd {ops : Array Oper} {k : Exit → Nat → St → Prop} : ∀ {r : List Oper} {i j : Nat} {s : St} {θ : Th} {ρ : Env} {w w0 : World} {K K0 : Ghost}, ops.toList.drop i = r → yldR X L l m n r j s (k .normal) → Rel (qiF B θ0 Kb m w0 K0) s θ ρ w K → J j w0 K0 → WY X.c.P n ops (qth B θ0 Kb m J k) (List.range' i r.length) ρ w
 | [], i, j, s, θ, ρ, w, w0, K, K0, hr, hk, h, hj => qv0 ⟨K, θ, s, j, w0, K0, hk, h, hj⟩
 | o :: r, i, j, s, θ, ρ, w, w0, K, K0, hr, hk, h, hj => by
   have ho : ops[i]? = some o := by
    have : (ops.toList.drop i)[0]? = some o := by rw [hr]; rfl
    rw [List.getElem?_drop, Nat.add_zero] at this
    simpa using this
   have hr' : ops.toList.drop (i + 1) = r := by
    have : (ops.toList.drop i).drop 1 = r := by rw [hr]; rfl
    rwa [List.drop_drop] at this
   simp only [yldR] at hk
   cases hb : (qbu n o.dst && o.guard.isNone) with
   | false => rw [hb] at hk; exact hk.elim
   | true =>
     rw [hb] at hk
     simp only [Bool.and_eq_true, Option.isNone_iff_eq_none] at hb
     simp only [cond_true] at hk
     show WY _ _ _ _ (i :: List.range' (i + 1) r.length) _ _
     split at hk
     ·rename_i t a hco
      split at hk
      ·rename_i l' v henv hopd
       split at hk
       ·rename_i z hz
        cases hc : capB m s with
        | false => rw [hc] at hk; exact hk.elim
        | true =>
          rw [hc] at hk
          obtain ⟨⟨hll, hLj⟩, hk⟩ := hk
          rw [hll] at henv
          obtain ⟨dst, op, ty, pos, af, g⟩ := o
          unfold qlJ at hco
          split at hco
          ·rename_i t' args ts hop
           simp only at hop
           split at hco
           ·rename_i a' hargs
            cases hco
            subst hop
            have eargs : args = #[a] := by rw [show args = args.toList.toArray by simp, hargs]
            subst eargs
            have hval : ev ρ a = .int .i64 z := by
             have := SVal.of_rel (θ := θ) (n := s.nx) (t := .int .i64) (SVal.to_rel hz (h.opd hopd))
             exact this.1
            have hM := h.mod
            have hjw := hJ j w0 K0 w K hj h.ext hM
            have hyl := hY j z w K hLj hjw hM
            refine qqI (l := l) (args := #[ev ρ a]) (R := fun W' => ∃ K', J (j + 1) W' K' ∧ Models W' K' ∧ Ext (fun b => ¬ B b) w K W' K') ho hb.2 hb.1 (fun c hc => by cases hc) (quy (h.env t _ henv)) (by rw [hval]; exact hyl) ?_
            rintro W' ⟨K', hj', hM', hE'⟩
            exact qjd hr' hk ((qre hB h hc hE' hM').setO rfl) hj'
           ·cases hco
          ·cases hco
       ·exact hk.elim
      ·exact hk.elim
     ·rename_i hco
      cases hno : (opV X.c s o).isNo with
      | true => rw [hno] at hk; exact hk.elim
      | false =>
        rw [hno] at hk
        obtain ⟨sv, val, q, h1, h2, _, h3⟩ := MV.run (qk0 hX.c h o) hk
        refine qqH ho hb.2 hb.1 (fun c hc => ?_) (h3 (fun _ => False) (fun _ _ _ _ h => h) w K (Ext.refl _ _ _) h.mod) (qjd hr' h1 (h.setO h2) hj)
        unfold opV at hno
        rw [hc] at hno
        cases hno
theorem qoE : ∀ (c : Code) (j : Nat) (s : St) (k : Exit → Nat → St → Prop), qjz X fuel n L l m c j s k → ∀ (θ : Th) (ρ : Env) (w w0 : World) (K K0 : Ghost), Rel (qiF B θ0 Kb m w0 K0) s θ ρ w K → J j w0 K0 → WP X.c.P n c (qth B θ0 Kb m J k) ρ w := by
 have plain : ∀ (c : Code) (j : Nat) (s : St) (k : Exit → Nat → St → Prop), exec X (qkR X) fuel n c s (fun e s' => k e j s') → ∀ (θ : Th) (ρ : Env) (w w0 : World) (K K0 : Ghost), Rel (qiF B θ0 Kb m w0 K0) s θ ρ w K → J j w0 K0 → WP X.c.P n c (qth B θ0 Kb m J k) ρ w :=
  fun c j s k hk θ ρ w w0 K K0 h hj => (qfm hX (qiG hX) fuel n c s _ hk _ θ ρ w K qmT h).mono fun e ρ' w' ⟨K', θ', s', h1, h2, _⟩ => ⟨K', θ', s', j, w0, K0, h1, h2, hj⟩
 intro c
 induction c with
 | seq a b iha ihb =>
   intro j s k hk θ ρ w w0 K K0 h hj
   simp only [qjz] at hk
   refine qao ((iha j s _ hk θ ρ w w0 K K0 h hj).mono ?_)
   rintro e ρ' w' ⟨K', θ', s', j', w1, K1, h1, h2, h3⟩
   cases e with
   | normal => exact ihb j' s' k h1 θ' ρ' w' w1 K' K1 h2 h3
   | exit id => exact ⟨K', θ', s', j', w1, K1, h1, h2, h3⟩
   | goto id => exact ⟨K', θ', s', j', w1, K1, h1, h2, h3⟩
   | ret => exact ⟨K', θ', s', j', w1, K1, h1, h2, h3⟩
   | panic ch => exact ⟨K', θ', s', j', w1, K1, h1, h2, h3⟩
   | outgrown => exact ⟨K', θ', s', j', w1, K1, h1, h2, h3⟩
 | block id c ih =>
   intro j s k hk θ ρ w w0 K K0 h hj
   simp only [qjz] at hk
   refine qb4 ((ih j s _ hk θ ρ w w0 K K0 h hj).mono ?_)
   rintro e ρ' w' ⟨K', θ', s', j', w1, K1, h1, h2, h3⟩
   cases e with
   | exit i =>
     simp only at h1
     simp only [qd3]
     by_cases hi : i = id
     ·subst hi
      rw [Nat.beq_refl] at h1
      rw [if_pos rfl]
      exact ⟨K', θ', s', j', w1, K1, h1, h2, h3⟩
     ·rw [qby hi] at h1
      rw [if_neg hi]
      exact ⟨K', θ', s', j', w1, K1, h1, h2, h3⟩
   | normal => exact ⟨K', θ', s', j', w1, K1, h1, h2, h3⟩
   | goto id => exact ⟨K', θ', s', j', w1, K1, h1, h2, h3⟩
   | ret => exact ⟨K', θ', s', j', w1, K1, h1, h2, h3⟩
   | panic ch => exact ⟨K', θ', s', j', w1, K1, h1, h2, h3⟩
   | outgrown => exact ⟨K', θ', s', j', w1, K1, h1, h2, h3⟩
 | region id ops draw =>
   intro j s k hk θ ρ w w0 K K0 h hj
   simp only [qjz] at hk
   cases hb : (ops.toList.any (fun o => (qlJ o).isSome) && !draw) with
   | false => rw [hb] at hk; exact plain _ j s k hk θ ρ w w0 K K0 h hj
   | true =>
     rw [hb] at hk
     simp only [Bool.and_eq_true, Bool.not_eq_true'] at hb
     obtain ⟨_, rfl⟩ := hb
     refine qmK ?_
     have := qjd hX hB hJ hY (ops := ops) (i := 0) (by rw [List.drop_zero]) hk h hj
     rwa [← List.range_eq_range', Array.length_toList] at this
 | _ => intro j s k hk θ ρ w w0 K K0 h hj; exact plain _ j s k hk θ ρ w w0 K K0 h hj
end
end Go.Inc

set_option linter.unusedVariables false
namespace Go.Inc
open Go Go.RowKit
def allN : Nat → (List Int → Prop) → Prop
 | 0, f => f []
 | m + 1, f => ∀ y : Int, (Kd.int .i64).wf y → allN m fun l => f (y :: l)
theorem qn7 : ∀ {m : Nat} {f : List Int → Prop}, allN m f → ∀ l : List Int, l.length = m → (∀ y ∈ l, (Kd.int .i64).wf y) → f l
 | 0, f, h, l, hl, _ => by
   have : l = [] := List.length_eq_zero_iff.1 hl
   subst this
   exact h
 | m + 1, f, h, l, hl, hw => by
   cases l with
   | nil => cases hl
   | cons y l => exact qn7 (h y (hw y List.mem_cons_self)) l (by simpa using hl) fun z hz => hw z (List.mem_cons_of_mem _ hz)
def capS (l : Nat) (xs : List Int) : St :=
 { env := fun t => match t with
    | 0 => some (.yld l)
    | t + 1 => bif Nat.blt t xs.length then some (.box t (.int .i64) (.int .i64) (Pth.id (.int .i64))) else none,
   res := fun r => match xs[r]? with
    | some x => some ⟨.bx (.int .i64) x [], .par r, false⟩
    | none => none,
   nx := xs.length }
def qqW (s : St) : Nat → Nat → Option (List Int)
 | _, 0 => some []
 | r, c + 1 => match s.res r, qqW s (r + 1) c with
   | some ⟨.bx T x [], _, _⟩, some l => if h : T = .int .i64 then some ((Ty.cast h x : Int) :: l) else none
   | _, _ => none
def qoy (s : St) : Nat → Nat → Bool
 | _, 0 => true
 | r, c + 1 => (match s.env (r + 1) with
   | some (.box q T t p) => Nat.beq q r && Nat.beq p.off 0
   | _ => false) && qoy s (r + 1) c
def itVC (X : Fx) (fuel f : Nat) (C : ICtr) (xs : List Int) : Prop :=
 match X.c.P.funcs[f]? with
 | some fn => (match fn.body with
   | some (.block i0 (.loop c)) => bif Nat.ble (xs.length + 1) fn.ntmps && Nat.beq fn.results.size 0 then
      ∃ (I : Nat → List Int → Prop) (μ : List Int → Nat), I 0 xs ∧ ∀ l j : Nat, allN xs.length fun ys => I j ys → qjz X fuel fn.ntmps (C.L xs) l xs.length c j (capS l ys) fun e j' s' => match e with
        | .normal => (match qqW s' 0 xs.length, s'.env 0 with
          | some ys', some (.yld l') => bif qoy s' 0 xs.length then l' = l ∧ I j' ys' ∧ μ ys' < μ ys else False
          | _, _ => False)
        | .exit i => bif Nat.beq i i0 then j' = (C.L xs).length else False
        | _ => False
     else False
   | _ => False)
 | none => False
theorem qjq {w : World} {K : Ghost} : ∀ {xs : List Int} {vs : List Value} {B : Nat → Prop}, Caps w K xs vs B → vs.length = xs.length ∧ ∃ (bs : Nat → Nat) (su : Nat → List Value × List Value), (∀ (i : Nat) (x : Int), xs[i]? = some x → vs[i]? = some (.pointer (some ⟨bs i, (su i).1.length, none⟩)) ∧ Bx (Ty.kd (.int .i64)) w K (bs i) (su i).1 (su i).2 x) ∧
 (∀ i, i < xs.length → B (bs i)) ∧ (∀ i j, i < xs.length → j < xs.length → i ≠ j → bs i ≠ bs j)
 | [], vs, B, h => by
   cases vs with
   | nil => exact ⟨rfl, fun _ => 0, fun _ => ([], []), fun i x hx => by simp at hx, fun i hi => by simp at hi, fun i j hi => by simp at hi⟩
   | cons v vs => exact h.elim
 | x :: xs, vs, B, h => by
   cases vs with
   | nil => exact h.elim
   | cons v vs =>
     obtain ⟨b, pre, post, B', rfl, hB, hn, hc, hBB⟩ := h
     obtain ⟨h1, bs, su, h2, h3, h4⟩ := qjq hc
     refine ⟨by simp [h1], fun i => match i with
      | 0 => b
      | i + 1 => bs i, fun i => match i with
      | 0 => (pre, post)
      | i + 1 => su i, ?_, ?_, ?_⟩
     ·intro i y hy
      cases i with
      | zero => simp at hy; subst hy; exact ⟨rfl, hB⟩
      | succ i => exact h2 i y (by simpa using hy)
     ·intro i hi
      cases i with
      | zero => exact (hBB b).2 (.inl rfl)
      | succ i => exact (hBB _).2 (.inr (h3 i (by simpa using hi)))
     ·intro i j hi hj hne
      cases i with
      | zero =>
        cases j with
        | zero => exact absurd rfl hne
        | succ j => exact fun e => hn (by rw [show b = bs j from e]; exact h3 j (by simpa using hj))
      | succ i =>
        cases j with
        | zero => exact fun e => hn (by rw [show b = bs i from e.symm]; exact h3 i (by simpa using hi))
        | succ j => exact h4 i j (by simpa using hi) (by simpa using hj) (fun e => hne (by rw [e]))
theorem qlK {s : St} : ∀ {r c : Nat} {l : List Int}, qqW s r c = some l → l.length = c ∧ ∀ i y, l[i]? = some y → ∃ org lk, s.res (r + i) = some ⟨.bx (.int .i64) y [], org, lk⟩
 | r, 0, l, h => by cases h; exact ⟨rfl, fun i y hi => by simp at hi⟩
 | r, c + 1, l, h => by
   simp only [qqW] at h
   split at h
   ·rename_i T x org lk l' hr hl
    split at h
    ·rename_i hT
     subst hT
     cases h
     obtain ⟨h1, h2⟩ := qlK hl
     refine ⟨by simp [h1], fun i y hi => ?_⟩
     cases i with
     | zero =>
       have hi' : some (Ty.cast rfl x) = some y := hi
       cases hi'
       exact ⟨org, lk, hr⟩
     | succ i =>
       obtain ⟨org', lk', h3⟩ := h2 i y (by simpa using hi)
       exact ⟨org', lk', by rw [show r + (i + 1) = r + 1 + i from by omega]; exact h3⟩
    ·cases h
   ·cases h
theorem qlR {s : St} : ∀ {r c i : Nat}, qoy s r c = true → i < c → ∃ T t p, s.env (r + i + 1) = some (.box (r + i) T t p) ∧ p.off = 0
 | r, 0, i, h, hi => by omega
 | r, c + 1, i, h, hi => by
   simp only [qoy, Bool.and_eq_true] at h
   cases i with
   | zero =>
     have h1 := h.1
     split at h1
     ·rename_i q T t p he
      simp only [Bool.and_eq_true] at h1
      obtain rfl := Nat.eq_of_beq_eq_true h1.1
      exact ⟨T, t, p, he, Nat.eq_of_beq_eq_true h1.2⟩
     ·cases h1
   | succ i =>
     obtain ⟨T, t, p, h1, h2⟩ := qlR (i := i) h.2 (by omega)
     rw [show r + (i + 1) = r + 1 + i from by omega]
     exact ⟨T, t, p, h1, h2⟩
theorem quf {X : Fx} {f fuel : Nat} {C : ICtr} (hX : X.ok) (h : ∀ xs, C.pre xs → (∀ x ∈ C.L xs, (Kd.int .i64).wf x) ∧ itVC X fuel f C xs) : C.valid X.c.P f := by
 intro xs hpre
 obtain ⟨hw, hvc⟩ := h xs hpre
 refine ⟨hw, fun vs B w00 K00 hM0 hcaps l J W Kb hE0 hMW hJ hYs h0 => ?_⟩
 unfold itVC at hvc
 split at hvc
 ·rename_i fn hfn
  split at hvc
  ·rename_i i0 c hcode
   cases hz : (Nat.ble (xs.length + 1) fn.ntmps && Nat.beq fn.results.size 0) with
   | false => rw [hz] at hvc; exact hvc.elim
   | true =>
     rw [hz] at hvc
     simp only [Bool.and_eq_true] at hz
     have hnt := Nat.le_of_ble_eq_true hz.1
     have hres : fn.results = #[] := Array.eq_empty_of_size_eq_zero (Nat.eq_of_beq_eq_true hz.2)
     obtain ⟨I, μ, hI0, hround⟩ := hvc
     obtain ⟨hlen, bs, su, hv, hBB, hne⟩ := qjq hcaps
     let m := xs.length
     let θ0 : Th := ⟨fun r => .pointer (some ⟨bs r, (su r).1.length, none⟩), fun r g => g = bs r, su⟩
     have hH : Held B θ0 m := ⟨fun r hr => ⟨bs r, rfl, hBB r hr, fun g => Iff.rfl⟩, fun r r' hr hr' hrr g hg hg' => hne r r' hr hr' hrr (hg.symm.trans hg')⟩
     have hY : ∀ j x W K, (C.L xs)[j]? = some x → J j W K → Models W K → Yields X.c.P l (.int .i64 x) W fun W' => ∃ K', J (j + 1) W' K' ∧ Models W' K' ∧ Ext (fun b => ¬ B b) W K W' K' := fun j x W K hx hj hM => hYs j _ W K (by rw [List.getElem?_map, hx]; rfl) hj hM
     have head : ∀ (ys : List Int) (ρ : Env) (w : World) (K : Ghost), ys.length = m → Models w K → Kb.le K → ρ 0 = .func (.yield l) #[] #[] → (∀ i, i < m → ρ (i + 1) = .pointer (some ⟨bs i, (su i).1.length, none⟩)) → (∀ i y, ys[i]? = some y → Bx (Ty.kd (.int .i64)) w K (bs i) (su i).1 (su i).2 y) → Rel (qiF B θ0 Kb m w K) (capS l ys) θ0 ρ w K := fun ys ρ w K hl hM hK hρ0 hρ hbx => by
      have hres : ∀ r e, (capS l ys).res r = some e → ∃ y, ys[r]? = some y ∧ e = ⟨.bx (.int .i64) y [], .par r, false⟩ := fun r e he => by
       have he' : (match ys[r]? with
        | some x => some (⟨.bx (.int .i64) x [], .par r, false⟩ : RE)
        | none => none) = some e := he
       split at he'
       ·rename_i y hy
        cases he'
        exact ⟨y, hy, rfl⟩
       ·cases he'
      refine ⟨hM, Ext.refl _ _ _, hK, Th.upto.refl _ _, Nat.le_of_eq hl.symm, fun r e hr => (by cases hr), ?_, ?_, ?_⟩
      ·intro t v hv
       cases t with
       | zero =>
         cases hv
         exact hρ0
       | succ t =>
         have hv' : (bif Nat.blt t ys.length then some (SVal.box t (.int .i64) (.int .i64) (Pth.id (.int .i64))) else none) = some v := hv
         cases hb : Nat.blt t ys.length with
         | false => rw [hb] at hv'; cases hv'
         | true =>
           rw [hb] at hv'
           cases hv'
           have hlt : t < ys.length := Nat.le_of_ble_eq_true hb
           refine ⟨hlt, trivial, bs t, (su t).1.length, rfl, ?_⟩
           rw [hρ t (by rw [← hl]; exact hlt)]
           rfl
      ·intro r e he
       obtain ⟨y, hy, rfl⟩ := hres r e he
       have hlt : r < ys.length := (List.getElem?_eq_some_iff.1 hy).1
       refine ⟨hlt, ⟨bs r, rfl, fun g => Iff.rfl, hbx r y hy, by simp⟩, fun g hg => .inl ⟨?_, hg⟩⟩
       rw [show g = bs r from hg]
       exact hBB r (by rw [hl] at hlt; exact hlt)
      ·intro r r' e e' h1 h2 hrr
       obtain ⟨y, hy, _⟩ := hres r e h1
       obtain ⟨y', hy', _⟩ := hres r' e' h2
       have hlt : r < ys.length := (List.getElem?_eq_some_iff.1 hy).1
       have hlt' : r' < ys.length := (List.getElem?_eq_some_iff.1 hy').1
       exact hH.sep r r' (by omega) (by omega) hrr
     have hargs : (#[.func (.yield l) #[] #[]] ++ vs.toArray : Array Value) = (.func (.yield l) #[] #[] :: vs).toArray := by simp
     rw [hargs]
     refine qaW hfn hcode (by simp; omega) (qb4 (qku (ι := Nat × List Int) (fun p ρ w => ∃ K, p.2.length = m ∧ Models w K ∧ Kb.le K ∧ J p.1 w K ∧ I p.1 p.2 ∧ ρ 0 = .func (.yield l) #[] #[] ∧ (∀ i, i < m → ρ (i + 1) = .pointer (some ⟨bs i, (su i).1.length, none⟩)) ∧ (∀ i y, p.2[i]? = some y → Bx (Ty.kd (.int .i64)) w K (bs i) (su i).1 (su i).2 y)) (fun p => μ p.2) (0, xs) ?_ ?_))
     ·refine ⟨Kb, rfl, hMW, Ghost.le.refl _, h0, hI0, rfl, fun i hi => ?_, fun i y hy => ?_⟩
      ·obtain ⟨x, hx⟩ : ∃ x, xs[i]? = some x := ⟨_, List.getElem?_eq_getElem hi⟩
       have := (hv i x hx).1
       simp [qei, List.getD_eq_getElem?_getD, this]
      ·have hi : i < xs.length := (List.getElem?_eq_some_iff.1 hy).1
       exact (hv i y hy).2.ext hE0 (fun hn => hn (hBB i hi))
     ·rintro ⟨j, ys⟩ ρ w ⟨K, hl, hM, hK, hj, hI, hρ0, hρ, hbx⟩
      have hrel := head ys ρ w K hl hM hK hρ0 hρ hbx
      have hwf : ∀ y ∈ ys, (Kd.int .i64).wf y := fun y hy => by
       obtain ⟨i, hi, hiy⟩ := List.mem_iff_getElem.1 hy
       exact (hbx i y (by rw [List.getElem?_eq_getElem hi, hiy])).wf
      have hk := qn7 (hround l j) ys hl hwf hI
      refine (qoE hX hH hJ hY c j _ _ hk θ0 ρ w w K K hrel hj).mono ?_
      rintro e ρ' w' ⟨K', θ', s', j', w1, K1, h1, h2, h3⟩
      have hj' : J j' w' K' := hJ j' w1 K1 w' K' h3 h2.ext h2.mod
      cases e with
      | normal =>
        simp only at h1
        split at h1
        ·rename_i ys' l' hcap henv
         cases hok : qoy s' 0 m with
         | false => rw [hok] at h1; exact h1.elim
         | true =>
           rw [hok] at h1
           obtain ⟨rfl, hI', hμ⟩ := h1
           obtain ⟨hc1, hc2⟩ := qlK hcap
           refine ⟨(j', ys'), ⟨K', hc1, h2.mod, h2.kle, hj', hI', h2.env 0 _ henv, fun i hi => ?_, fun i y hy => ?_⟩, hμ⟩
           ·obtain ⟨T, t, p, he, hp⟩ := qlR hok hi
            rw [Nat.zero_add] at he
            obtain ⟨_, _, b, o, hk1, hk2⟩ := h2.env _ _ he
            have hold := (h2.old i hi).1
            rw [hold] at hk1
            have hk1' : (Value.pointer (some ⟨bs i, (su i).1.length, none⟩)) = .pointer (some ⟨b, o, none⟩) := hk1
            cases hk1'
            rw [hk2, hp, Nat.add_zero]
           ·have hi : i < m := by
             have hlt : i < ys'.length := (List.getElem?_eq_some_iff.1 hy).1
             rw [hc1] at hlt
             exact hlt
            obtain ⟨org, lk, hr⟩ := hc2 i y hy
            rw [Nat.zero_add] at hr
            obtain ⟨b, hk1, _, hB, _⟩ := (h2.res _ _ hr).2.1
            have hold := h2.old i hi
            rw [hold.1, hold.2] at hk1
            have hk1' : (Value.pointer (some ⟨bs i, (su i).1.length, none⟩)) = .pointer (some ⟨b, (su i).1.length, none⟩) := hk1
            cases hk1'
            rw [hold.2] at hB
            exact hB
        ·exact h1.elim
      | exit i =>
        simp only at h1
        by_cases hi : i = i0
        ·subst hi
         rw [Nat.beq_refl] at h1
         show qd3 i _ (.exit i) ρ' w'
         simp only [qd3, if_true]
         refine ⟨_, qpq hres, ⟨_, rfl⟩, K', ?_, h2.mod⟩
         rw [List.length_map, ← h1]
         exact hj'
        ·rw [qby hi] at h1
         exact h1.elim
      | goto id => exact h1.elim
      | ret => exact h1.elim
      | panic ch => exact h1.elim
      | outgrown => exact h1.elim
  ·exact hvc.elim
 ·exact hvc.elim
end Go.Inc

set_option linter.unusedVariables false
namespace Go.Inc
open Go
def qbd (l : List (List UInt8)) : List UInt8 := hSum (qaA ((List.replicate 8 0), 0, []) l)
def qaw (k : Int) (l : List (List UInt8)) : List UInt8 := qbd [preimage k l]
def qaG (x : qan) (k : Int) (l : List (List UInt8)) : qan := x.map fun y => (addL y.1 (qaw k l) (preimage k l), IntKind.i64.wrap (y.2 + 1))
def qaH (x : qan) : Prop := ∀ y, x = some y → (y.1.length + 1) * 64 ≤ 140737488355328
def qog (x : qan) : Int := match x with | some y => y.2 | none => 0
theorem qq2 (s : List Int) (n : Int) (r : List UInt8) : (eat s n r).2.2.length < 64 := by
 induction h : r.length using Nat.strongRecOn generalizing s n r with
 | _ m ih =>
   rw [eat]
   split
   ·exact ih _ (by rw [List.length_drop]; omega) _ _ _ rfl
   ·show r.length < 64
    omega
theorem qms (x : List Int) : ∀ n, (sumN x n).length = 32 ∨ 8 < n
 | 0 => by simp [sumN]
 | n + 1 => by
   rcases qms x n with h | h
   ·rcases Nat.lt_or_ge n 8 with h8 | h8
    ·left
     simp only [sumN, List.length_append, List.length_take, List.length_drop, h, qaM]
     omega
    ·exact .inr (by omega)
   ·exact .inr (by omega)
theorem qm5 (l : List (List UInt8)) : (qbd l).length = 32 := by
 rcases qms (qaA (qaA (List.replicate 8 0, 0, []) l) (qm2 (qaA (List.replicate 8 0, 0, []) l))).1 8 with h | h
 ·exact h
 ·omega
theorem qrA {l : List (List UInt8)} {x : List UInt8} (h : x ∈ l) : x.length ≤ qaj l := by
 induction l with
 | nil => cases h
 | cons y l ih =>
   simp only [qaj, List.map_cons, List.sum_cons] at *
   rcases List.mem_cons.1 h with rfl | h
   ·omega
   ·have := ih h
    omega
theorem qcy (k : Int) {l : List (List UInt8)} (h : 1 + qaj l ≤ 140737488355328) : (preimage k l).length ≤ 1 + qaj l := by
 have := qbq l (fun x hx => by have := qrA hx; omega)
 simp only [preimage, List.length_cons]
 omega
theorem qd4 {s : List UInt8} : ∀ {l : List Nt} {l' : List Nt} {i : Int}, qaY s (l ++ l') i = (qaY s l i).or (qaY s l' (i + (l.length : Int)))
 | [], l', i => by simp [qaY]
 | x :: l, l', i => by
   simp only [List.cons_append, qaY]
   by_cases h : s = x.1
   ·simp [h]
   ·rw [if_neg h, if_neg h, qd4]
    congr 2
    simp only [List.length_cons]
    omega
theorem qhO {s t : List UInt8} {a : Int} : ∀ (m : List (List UInt8 × Int)), mfind t (mset s a m) = if t = s then some a else mfind t m
 | [] => by simp [mset, mfind]
 | (b, c) :: m => by
   by_cases h : s = b
   ·subst h
    by_cases h2 : t = s <;> simp [mset, mfind, h2]
   ·simp only [mset, if_neg h, mfind, qhO m]
    by_cases h2 : t = b
    ·subst h2
     simp [Ne.symm h]
    ·simp [h2]
theorem qv1 {l : List Nt} {m : List (List UInt8 × Int)} (h : qbZ l m) (s b : List UInt8) : qbZ (addL l s b) (addM l m s b) := by
 intro t
 unfold addL addM
 by_cases hm : (s, b) ∈ l
 ·rw [if_pos hm, if_pos hm]; exact h t
 ·rw [if_neg hm, if_neg hm, qd4]
  have hs := h s
  by_cases hf : (mfind s m).isSome = true
  ·rw [if_pos hf, h t]
   cases ht : qaY t l 0 with
   | some a => rfl
   | none =>
     have hne : ¬ (t = s) := fun e => by
      subst e
      rw [hs, ht] at hf
      cases hf
     simp [qaY, hne]
  ·rw [if_neg hf, qhO, h t]
   have hn : qaY s l 0 = none := by
    rw [hs] at hf
    simpa using hf
   by_cases e : t = s
   ·subst e
    simp [hn, qaY]
   ·cases ht : qaY t l 0 <;> simp [e, qaY]
theorem qqJ (l : List Nt) (s b : List UInt8) : (addL l s b).length ≤ l.length + 1 := by
 unfold addL
 split <;> simp
theorem qlF {l : List Nt} {s b : List UInt8} {z : Nt} (h : z ∈ addL l s b) : z ∈ l ∨ z = (s, b) := by
 unfold addL at h
 split at h
 ·exact .inl h
 ·simpa using h
end Go.Inc

set_option linter.unusedVariables false
namespace Go.Inc
open Go
def valB : List UInt8 → Nat
 | [] => 0
 | c :: l => c.toNat * 256 ^ l.length + valB l
theorem pow8 (k : Nat) : 2 ^ (8 * k) = 256 ^ k := by rw [Nat.pow_mul]
theorem qjb (n : Nat) : ∀ k, valB (be n k) = n % 256 ^ k
 | 0 => by simp [be, valB, Nat.mod_one]
 | k + 1 => by
   simp only [be, valB, qaM, qjb n k, UInt8.toNat_ofNat', pow8]
   show n / 256 ^ k % 256 * 256 ^ k + n % 256 ^ k = n % (256 ^ k * 256)
   rw [Nat.mod_mul, Nat.add_comm, Nat.mul_comm (256 ^ k)]
theorem qpb (n : Nat) : n < 2 ^ blen n := by
 induction n using Nat.strongRecOn with
 | _ n ih =>
   rcases Nat.eq_zero_or_pos n with rfl | h
   ·rw [qgz]; simp
   ·rw [qf7 h, Nat.pow_succ]
    have := ih (n / 2) (by omega)
    omega
theorem qiO (n : Nat) : n < 256 ^ ((blen n + 7) / 8) := by
 rw [← pow8]
 exact Nat.lt_of_lt_of_le (qpb n) (Nat.pow_le_pow_right (by omega) (by omega))
theorem qrB {n m : Nat} (hn : n < 2 ^ 64) (hm : m < 2 ^ 64) {x y : List UInt8} (h : numB n ++ x = numB m ++ y) : n = m ∧ x = y := by
 have k1 := qcE 64 hn
 have k2 := qcE 64 hm
 simp only [numB, List.cons_append, List.cons.injEq] at h
 obtain ⟨h1, h2⟩ := h
 have hk : (blen n + 7) / 8 = (blen m + 7) / 8 := by
  have := congrArg UInt8.toNat h1
  rw [UInt8.toNat_ofNat_of_lt' (by show _ < 256; omega), UInt8.toNat_ofNat_of_lt' (by show _ < 256; omega)] at this
  exact this
 have h3 := List.append_inj h2 (by rw [qaM, qaM, hk])
 have h4 := congrArg valB h3.1
 have l1 := qiO n
 have l2 := qiO m
 rw [qjb, qjb, Nat.mod_eq_of_lt l1, Nat.mod_eq_of_lt l2] at h4
 exact ⟨h4, h3.2⟩
theorem qpf (n : Nat) (x : List UInt8) : numB n ++ x ≠ [] := by simp [numB]
theorem qgA : ∀ {a b : List (List UInt8)}, (∀ x ∈ a, x.length < 2 ^ 64) → (∀ x ∈ b, x.length < 2 ^ 64) → qak a = qak b → a = b
 | [], [], _, _, _ => rfl
 | [], y :: b, _, _, h => by
   have h2 : qak (y :: b) = numB y.length ++ (y ++ qak b) := by simp [qak]
   rw [h2] at h
   exact absurd h.symm (qpf _ _)
 | x :: a, [], _, _, h => by
   have h2 : qak (x :: a) = numB x.length ++ (x ++ qak a) := by simp [qak]
   rw [h2] at h
   exact absurd h (qpf _ _)
 | x :: a, y :: b, ha, hb, h => by
   have h1 : qak (x :: a) = numB x.length ++ (x ++ qak a) := by simp [qak]
   have h2 : qak (y :: b) = numB y.length ++ (y ++ qak b) := by simp [qak]
   rw [h1, h2] at h
   obtain ⟨hl, h3⟩ := qrB (ha x (by simp)) (hb y (by simp)) h
   obtain ⟨h4, h5⟩ := List.append_inj h3 hl
   rw [h4, qgA (fun z hz => ha z (by simp [hz])) (fun z hz => hb z (by simp [hz])) h5]
theorem qru (a b : Int) : toB (IntKind.u8.wrap a) = toB (IntKind.u8.wrap b) ↔ a % 256 = b % 256 := by
 have e : ∀ x : Int, bI (toB (IntKind.u8.wrap x)) = x % 256 := fun x => by
  rw [qsr (qbI .u8 x)]
  rfl
 constructor
 ·intro h
  rw [← e a, ← e b, h]
 ·intro h
  rw [← qsM (toB (IntKind.u8.wrap a)), ← qsM (toB (IntKind.u8.wrap b)), e, e, h]
theorem qfW {k o : Int} {a b : List (List UInt8)} (ha : ∀ x ∈ a, x.length < 2 ^ 64) (hb : ∀ x ∈ b, x.length < 2 ^ 64) : preimage k a = preimage o b ↔ k % 256 = o % 256 ∧ a = b := by
 simp only [preimage, List.cons.injEq, qru]
 exact ⟨fun ⟨h1, h2⟩ => ⟨h1, qgA ha hb h2⟩, fun ⟨h1, h2⟩ => ⟨h1, by rw [h2]⟩⟩
theorem qtI (l : List Nt) (s b : List UInt8) : (s, b) ∈ addL l s b := by
 unfold addL
 split
 ·assumption
 ·simp
end Go.Inc

set_option linter.unusedVariables false
namespace Go.Inc
open Go
abbrev b32 (a : Int) : BitVec 32 := BitVec.ofInt 32 a
section
variable {x : Int} (hx : 0 ≤ x ∧ x < 4294967296)
include hx
end
end Go.Inc

set_option linter.unusedVariables false
namespace Go.Inc
open Go
abbrev Hd := Int × (List UInt8 × (List UInt8 × (List UInt8 × (List UInt8 × List UInt8))))
structure HdWf (h : Hd) : Prop where
 n0 : 0 ≤ h.1
 n1 : h.1 ≤ 18446744073709551615
 a : h.2.1.length = 32
 b : h.2.2.1.length = 32
 c : h.2.2.2.1.length = 32
 d : h.2.2.2.2.1.length = 32
 e : h.2.2.2.2.2.length = 32
theorem qbj (k : Int) (l : List (List UInt8)) : (qaw k l).length = 32 := qm5 _
theorem qhB : ∀ {l : List (List UInt8)}, (∀ x ∈ l, x.length = 32) → qaj l = 41 * l.length
 | [], _ => rfl
 | x :: l, h => by
   have ih := qhB (l := l) (fun y hy => h y (by simp [hy]))
   have hx := h x (by simp)
   simp only [qaj, List.map_cons, List.sum_cons, List.length_cons] at *
   omega
end Go.Inc

set_option linter.unusedVariables false
set_option maxRecDepth 100000
namespace Go.Inc
open Go
instance decL3 : DecidableEq (List UInt8 × List UInt8 × List UInt8) := inferInstance
instance decL4 : DecidableEq (List UInt8 × List UInt8 × List UInt8 × List UInt8) := inferInstance
instance decL5 : DecidableEq (List UInt8 × List UInt8 × List UInt8 × List UInt8 × List UInt8) := inferInstance
instance decHd : DecidableEq (Int × List UInt8 × List UInt8 × List UInt8 × List UInt8 × List UInt8) := inferInstance
def qd9 (l : List Nt) : Prop := ∀ s x y, (s, x) ∈ l → (s, y) ∈ l → x = y
theorem qd9.sub {l m : List Nt} (h : qd9 m) (hs : ∀ z ∈ l, z ∈ m) : qd9 l := fun s x y h1 h2 => h s x y (hs _ h1) (hs _ h2)
theorem qqK (l : List Nt) (s b : List UInt8) : ∀ z ∈ l, z ∈ addL l s b := fun z hz => by
 unfold addL
 split
 ·exact hz
 ·exact List.mem_append.2 (.inl hz)
end Go.Inc

set_option linter.unusedVariables false
namespace Go.Inc
open Go
abbrev Sm := List UInt8
theorem ixN {α : Type} [Inhabited α] {l : List α} {j : Nat} (h : j < l.length) : ix l (j : Int) = l[j] := qcw (i := (j : Int)) h
def half (n : Nat) : Nat := if n < 2 then 0 else 2 ^ Nat.log2 (n - 1)
theorem qa3 {n : Nat} (h : 2 ≤ n) : 1 ≤ half n := by
 unfold half
 rw [if_neg (by omega)]
 exact Nat.one_le_two_pow
theorem qbo {n : Nat} (h : 2 ≤ n) : half n < n := by
 unfold half
 rw [if_neg (by omega)]
 have := Nat.log2_self_le (n := n - 1) (by omega)
 omega
theorem qt9 {n : Nat} (h : 2 ≤ n) : n ≤ 2 * half n := by
 unfold half
 rw [if_neg (by omega)]
 have := Nat.lt_log2_self (n := n - 1)
 rw [Nat.pow_succ] at this
 omega
theorem qua {n j : Nat} (h1 : 2 ^ j < n) (h2 : n ≤ 2 ^ (j + 1)) : half n = 2 ^ j := by
 have hp : 1 ≤ 2 ^ j := Nat.one_le_two_pow
 unfold half
 rw [if_neg (by omega), (Nat.log2_eq_iff (n := n - 1) (k := j) (by omega)).2 ⟨by omega, by omega⟩]
theorem qra {n : Nat} (h : 2 ≤ n) : ∃ j, half n = 2 ^ j := ⟨Nat.log2 (n - 1), by unfold half; rw [if_neg (by omega)]⟩
theorem qmU {n : Nat} (h : n < 2) : half n = 0 := by unfold half; rw [if_pos h]
def qaK (l : List Sm) : Sm :=
 if h : l.length < 2 then (match l with
  | [] => qaw 2 []
  | x :: _ => x)
 else qaw 2 [qaK (l.take (half l.length)), qaK (l.drop (half l.length))]
termination_by l.length
decreasing_by
 all_goals
  have h1 := qa3 (n := l.length) (by omega)
  have h2 := qbo (n := l.length) (by omega)
  simp only [List.length_take, List.length_drop]
  omega
theorem qjU : qaK [] = qaw 2 [] := by rw [qaK]; rfl
theorem qg4 (x : Sm) : qaK [x] = x := by rw [qaK]; rfl
theorem qeN {l : List Sm} (h : 2 ≤ l.length) : qaK l = qaw 2 [qaK (l.take (half l.length)), qaK (l.drop (half l.length))] := by
 rw [qaK, dif_neg (by omega)]
theorem qeM : ∀ {l : List Sm}, (∀ x ∈ l, x.length = 32) → (qaK l).length = 32
 | [], _ => by rw [qjU]; exact qbj _ _
 | [x], h => by rw [qg4]; exact h x (by simp)
 | x :: y :: r, _ => by rw [qeN (by simp)]; exact qbj _ _
def qaT (b : qan) (l : List Sm) : qan :=
 if h : l.length < 2 then (if l.length = 0 then qaG b 2 [] else b)
 else qaG (qaT (qaT b (l.take (half l.length))) (l.drop (half l.length))) 2 [qaK (l.take (half l.length)), qaK (l.drop (half l.length))]
termination_by l.length
decreasing_by
 all_goals
  have h1 := qa3 (n := l.length) (by omega)
  have h2 := qbo (n := l.length) (by omega)
  simp only [List.length_take, List.length_drop]
  omega
theorem qbz (b : qan) : qaT b [] = qaG b 2 [] := by rw [qaT]; rfl
theorem qcb (b : qan) (x : Sm) : qaT b [x] = b := by rw [qaT]; rfl
theorem qcc (b : qan) {l : List Sm} (h : 2 ≤ l.length) : qaT b l = qaG (qaT (qaT b (l.take (half l.length))) (l.drop (half l.length))) 2 [qaK (l.take (half l.length)), qaK (l.drop (half l.length))] := by
 rw [qaT, dif_neg (by omega)]
def qah (x : qan) (n : Nat) : Prop := ∀ y, x = some y → y.1.length + n ≤ 1048576
theorem qah.room {x : qan} {n : Nat} (h : qah x n) : qaH x := fun y hy => by
 have := h y hy
 omega
theorem qah.le {x : qan} {n m : Nat} (h : qah x n) (hm : m ≤ n) : qah x m := fun y hy => by
 have := h y hy
 omega
theorem qah.of {x : qan} {n : Nat} (h : qah x (n + 1)) (k : Int) (l : List (List UInt8)) : qah (qaG x k l) n := by
 intro y hy
 cases x with
 | none => cases hy
 | some z =>
   cases hy
   have h1 := h z rfl
   have h2 := qqJ z.1 (qaw k l) (preimage k l)
   show (addL z.1 (qaw k l) (preimage k l)).length + n ≤ 1048576
   omega
theorem qah.root : ∀ (k : Nat) {l : List Sm} {x : qan} {n : Nat}, l.length ≤ k → 1 ≤ l.length → qah x (n + (l.length - 1)) → qah (qaT x l) n
 | 0, l, x, n, hk, h1, h => by omega
 | k + 1, l, x, n, hk, h1, h => by
   rcases Nat.lt_or_ge l.length 2 with h2 | h2
   ·match l, h1, h2 with
    | [a], _, _ => rw [qcb]; exact h
   ·have a1 := qa3 h2
    have a2 := qbo h2
    rw [qcc x h2]
    refine qah.of (qah.root k ?_ ?_ (qah.root k ?_ ?_ (h.le ?_))) _ _ <;> simp only [List.length_take, List.length_drop] <;> omega
def qiD : List Int → List Sm → Sm × Sm → qan → qan
 | a :: A, p :: P, s, x => qiD A P (if a = 1 then (s.1, qaw 2 [s.2, p]) else (qaw 2 [p, s.1], qaw 2 [p, s.2])) (if a = 1 then qaG x 2 [s.2, p] else qaG (qaG x 2 [p, s.1]) 2 [p, s.2])
 | _, _, _, x => x
end Go.Inc

set_option linter.unusedVariables false
set_option maxRecDepth 100000
namespace Go.Inc
open Go
end Go.Inc

set_option linter.unusedVariables false
namespace Go.Inc
open Go
def bkIn (N : List Nt) (x : qan) : Prop := ∀ y, x = some y → ∀ z ∈ y.1, z ∈ N
theorem bkIn.of {N : List Nt} {x : qan} {k : Int} {p : List (List UInt8)} (h : bkIn N (qaG x k p)) : bkIn N x := fun y hy z hz => by
 subst hy
 exact h _ rfl z (qqK _ _ _ z hz)
theorem bkIn.node {N : List Nt} {x : qan} {k : Int} {p : List (List UInt8)} (hx : x.isSome = true) (h : bkIn N (qaG x k p)) : (qaw k p, preimage k p) ∈ N := by
 obtain ⟨y, rfl⟩ := Option.isSome_iff_exists.1 hx
 exact h _ rfl _ (qtI _ _ _)
theorem qip {x : qan} {k : Int} {p : List (List UInt8)} (hx : x.isSome = true) : (qaG x k p).isSome = true := by
 obtain ⟨y, rfl⟩ := Option.isSome_iff_exists.1 hx
 rfl
theorem bkIn.root : ∀ (k : Nat) {N : List Nt} {l : List Sm} {x : qan}, l.length ≤ k → bkIn N (qaT x l) → bkIn N x
 | 0, N, l, x, hk, h => by
   obtain rfl : l = [] := List.length_eq_zero_iff.1 (by omega)
   rw [qbz] at h; exact h.of
 | k + 1, N, l, x, hk, h => by
   rcases Nat.lt_or_ge l.length 2 with h2 | h2
   ·match l, h2 with
    | [], _ => rw [qbz] at h; exact h.of
    | [a], _ => rw [qcb] at h; exact h
   ·have a1 := qa3 h2
    have a2 := qbo h2
    rw [qcc x h2] at h
    exact bkIn.root k (by simp only [List.length_take]; omega) (bkIn.root k (by simp only [List.length_drop]; omega) h.of)
theorem qd9.node {N : List Nt} (hN : qd9 N) {a b c d : Sm} (h1 : (qaw 2 [a, b], preimage 2 [a, b]) ∈ N) (h2 : (qaw 2 [c, d], preimage 2 [c, d]) ∈ N) (he : qaw 2 [a, b] = qaw 2 [c, d]) (ha : a.length = 32) (hb : b.length = 32) (hc : c.length = 32) (hd : d.length = 32) : a = c ∧ b = d := by
 rw [he] at h1
 have hp := hN _ _ _ h1 h2
 have := (qfW (k := 2) (o := 2) (a := [a, b]) (b := [c, d]) (by intro x hx; simp at hx; rcases hx with rfl | rfl <;> omega) (by intro x hx; simp at hx; rcases hx with rfl | rfl <;> omega)).1 hp
 simpa using this.2
def qbL (x : qan) : Prop := ∀ y, x = some y → ∀ z ∈ y.1, z.2.length ≤ 200
theorem qbL.of {x : qan} {k : Int} {p : List (List UInt8)} (h : qbL x) (hp : qaj p ≤ 199) : qbL (qaG x k p) := fun y hy z hz => by
 cases x with
 | none => cases hy
 | some u =>
   cases hy
   rcases qlF hz with hz | hz
   ·exact h u rfl z hz
   ·rw [hz]
    have := qcy k (l := p) (by omega)
    exact Nat.le_trans this (by omega)
theorem qm4 {a b : Sm} (ha : a.length = 32) (hb : b.length = 32) : qaj [a, b] ≤ 199 := by simp [qaj, ha, hb]
theorem qbL.root : ∀ (k : Nat) {l : List Sm} {x : qan}, l.length ≤ k → (∀ z ∈ l, z.length = 32) → qbL x → qbL (qaT x l)
 | 0, l, x, hk, hl, h => by
   obtain rfl : l = [] := List.length_eq_zero_iff.1 (by omega)
   rw [qbz]; exact h.of (by simp [qaj])
 | k + 1, l, x, hk, hl, h => by
   rcases Nat.lt_or_ge l.length 2 with h2 | h2
   ·match l, h2 with
    | [], _ => rw [qbz]; exact h.of (by simp [qaj])
    | [a], _ => rw [qcb]; exact h
   ·have a1 := qa3 h2
    have a2 := qbo h2
    have w1 : ∀ z ∈ l.take (half l.length), z.length = 32 := fun z hz => hl z (List.mem_of_mem_take hz)
    have w2 : ∀ z ∈ l.drop (half l.length), z.length = 32 := fun z hz => hl z (List.mem_of_mem_drop hz)
    rw [qcc x h2]
    exact (qbL.root k (by simp only [List.length_drop]; omega) w2 (qbL.root k (by simp only [List.length_take]; omega) w1 h)).of (qm4 (qeM w1) (qeM w2))
theorem qbL.fold : ∀ {A : List Int} {P : List Sm} {s : Sm × Sm} {x : qan}, s.1.length = 32 → s.2.length = 32 → (∀ z ∈ P, z.length = 32) → qbL x → qbL (qiD A P s x)
 | [], P, s, x, _, _, _, h => by simpa [qiD] using h
 | _ :: _, [], s, x, _, _, _, h => by simpa [qiD] using h
 | a :: A, p :: P, s, x, h1, h2, hP, h => by
   have hp := hP p (by simp)
   have hP' : ∀ z ∈ P, z.length = 32 := fun z hz => hP z (by simp [hz])
   simp only [qiD]
   split
   ·exact qbL.fold h1 (qbj _ _) hP' (h.of (qm4 h2 hp))
   ·exact qbL.fold (qbj _ _) (qbj _ _) hP' ((h.of (qm4 hp h1)).of (qm4 hp h2))
theorem qah.fold : ∀ {A : List Int} {P : List Sm} {s : Sm × Sm} {x : qan} {n : Nat}, qah x (n + 2 * P.length) → qah (qiD A P s x) n
 | [], P, s, x, n, h => by simp only [qiD]; exact h.le (by omega)
 | _ :: _, [], s, x, n, h => by simp only [qiD]; exact h.le (by omega)
 | a :: A, p :: P, s, x, n, h => by
   simp only [qiD]
   refine qah.fold ?_
   have h' : qah x (n + 2 * P.length + 1 + 1) := h.le (by simp only [List.length_cons]; omega)
   split
   ·exact (h'.le (by omega) : qah x (n + 2 * P.length + 1)).of _ _
   ·exact (h'.of _ _).of _ _
end Go.Inc

set_option linter.unusedVariables false
namespace Go.Inc
open Go
def qaI (n a : Nat) : List Int :=
 if h : 1 < n then (if half n ≤ a then 1 :: qaI (n - half n) (a - half n) else 0 :: qaI (half n) a) else []
termination_by n
decreasing_by
 ·have := qa3 (n := n) (by omega); omega
 ·exact qbo (by omega)
theorem qbk {n a : Nat} (h : ¬ 1 < n) : qaI n a = [] := by rw [qaI, dif_neg h]
theorem qbx {n a : Nat} (h : 1 < n) (ha : a < half n) : qaI n a = 0 :: qaI (half n) a := by rw [qaI, dif_pos h, if_neg (by omega)]
theorem qbe {n a : Nat} (h : 1 < n) (ha : half n ≤ a) : qaI n a = 1 :: qaI (n - half n) (a - half n) := by rw [qaI, dif_pos h, if_pos ha]
theorem qhU {n a : Nat} (h : qaI n a = []) : ¬ 1 < n := fun hn => by
 rcases Nat.lt_or_ge a (half n) with ha | ha
 ·rw [qbx hn ha] at h; cases h
 ·rw [qbe hn ha] at h; cases h
theorem qcd : ∀ (j : Nat) {n a : Nat}, n ≤ 2 ^ j → (qaI n a).length ≤ j
 | 0, n, a, h => by
   rw [qbk (by simp at h; omega)]
   exact Nat.le_refl _
 | j + 1, n, a, h => by
   by_cases hl : 1 < n
   ·obtain ⟨i, hi⟩ := qra hl
    have a2 := qbo hl
    have a3 := qt9 hl
    have hij : i < j + 1 := (Nat.pow_lt_pow_iff_right (a := 2) (by omega)).1 (by omega)
    have hh : half n ≤ 2 ^ j := by rw [hi]; exact Nat.pow_le_pow_right (by omega) (by omega)
    rcases Nat.lt_or_ge a (half n) with ha | ha
    ·rw [qbx hl ha, List.length_cons]
     have := qcd j (a := a) hh
     omega
    ·rw [qbe hl ha, List.length_cons]
     have := qcd j (n := n - half n) (a := a - half n) (by omega)
     omega
   ·rw [qbk hl]
    exact Nat.zero_le _
theorem qfF : ∀ (k : Nat) {n a : Nat}, n ≤ k → ∀ x ∈ qaI n a, x = 0 ∨ x = 1
 | 0, n, a, hk, x, hx => by rw [qbk (by omega)] at hx; cases hx
 | k + 1, n, a, hk, x, hx => by
   by_cases hl : 1 < n
   ·have a1 := qa3 hl
    have a2 := qbo hl
    rcases Nat.lt_or_ge a (half n) with ha | ha
    ·rw [qbx hl ha] at hx
     rcases List.mem_cons.1 hx with rfl | hx
     ·exact .inl rfl
     ·exact qfF k (by omega) x hx
    ·rw [qbe hl ha] at hx
     rcases List.mem_cons.1 hx with rfl | hx
     ·exact .inr rfl
     ·exact qfF k (by omega) x hx
   ·rw [qbk hl] at hx; cases hx
def qcT (n a : Int) : Int := if 0 ≤ a ∧ a < n then ((qaI n.toNat a.toNat).length : Int) else 0
def sdI (n0 : Int) (L : List Int) (j : Nat) (n a : Int) : Prop := 0 ≤ a ∧ a < n ∧ n ≤ n0 ∧ j ≤ L.length ∧ L.drop j = qaI n.toNat a.toNat
theorem qrM {n0 n a : Int} {L : List Int} {j : Nat} (h : sdI n0 L j n a) (hn : 1 < n) : 1 ≤ half n.toNat ∧ ((half n.toNat : Nat) : Int) < n ∧ j < L.length ∧ ((half n.toNat : Int) ≤ a → L[j]? = some 1 ∧ sdI n0 L (j + 1) (n - (half n.toNat : Int)) (a - (half n.toNat : Int))) ∧ (¬ (half n.toNat : Int) ≤ a → L[j]? = some 0 ∧ sdI n0 L (j + 1) (half n.toNat : Int) a) := by
 obtain ⟨h1, h2, h3, h4, h5⟩ := h
 have a1 := qa3 (n := n.toNat) (by omega)
 have a2 := qbo (n := n.toNat) (by omega)
 have hj : j < L.length := by
  apply Classical.byContradiction
  intro hj
  rw [List.drop_eq_nil_of_le (by omega)] at h5
  exact qhU h5.symm (by omega)
 rw [List.drop_eq_getElem_cons hj] at h5
 refine ⟨a1, by omega, hj, fun hle => ?_, fun hgt => ?_⟩
 ·rw [qbe (by omega) (by omega)] at h5
  obtain ⟨h6, h7⟩ := List.cons.inj h5
  refine ⟨by rw [List.getElem?_eq_getElem hj, h6], by omega, by omega, by omega, hj, ?_⟩
  rw [h7]
  congr 1 <;> omega
 ·rw [qbx (by omega) (by omega)] at h5
  obtain ⟨h6, h7⟩ := List.cons.inj h5
  refine ⟨by rw [List.getElem?_eq_getElem hj, h6], by omega, by omega, by omega, hj, ?_⟩
  rw [h7]
  congr 1
theorem quA {n0 n a : Int} {L : List Int} {j : Nat} (h : sdI n0 L j n a) (hn : ¬ 1 < n) : j = L.length := by
 obtain ⟨h1, h2, h3, h4, h5⟩ := h
 rw [qbk (by omega)] at h5
 have := List.drop_eq_nil_iff.1 h5
 omega
def topL (l : List Sm) (a : Nat) : List Sm :=
 if h : 1 < l.length then (if half l.length ≤ a then qaK (l.take (half l.length)) :: topL (l.drop (half l.length)) (a - half l.length) else qaK (l.drop (half l.length)) :: topL (l.take (half l.length)) a) else []
termination_by l.length
decreasing_by
 ·have := qa3 (n := l.length) (by omega); simp only [List.length_drop]; omega
 ·have := qbo (n := l.length) (by omega); simp only [List.length_take]; omega
theorem qgj {l : List Sm} {a : Nat} (h : ¬ 1 < l.length) : topL l a = [] := by rw [topL, dif_neg h]
theorem qha {l : List Sm} {a : Nat} (h : 1 < l.length) (ha : a < half l.length) : topL l a = qaK (l.drop (half l.length)) :: topL (l.take (half l.length)) a := by rw [topL, dif_pos h, if_neg (by omega)]
theorem qfK {l : List Sm} {a : Nat} (h : 1 < l.length) (ha : half l.length ≤ a) : topL l a = qaK (l.take (half l.length)) :: topL (l.drop (half l.length)) (a - half l.length) := by rw [topL, dif_pos h, if_pos ha]
theorem qdo : ∀ (k : Nat) {l : List Sm} {a : Nat}, l.length ≤ k → (topL l a).length = (qaI l.length a).length
 | 0, l, a, hk => by rw [qgj (by omega), qbk (by omega)]; rfl
 | k + 1, l, a, hk => by
   by_cases hl : 1 < l.length
   ·have a1 := qa3 hl
    have a2 := qbo hl
    have e1 : (l.take (half l.length)).length = half l.length := by rw [List.length_take]; omega
    have e2 : (l.drop (half l.length)).length = l.length - half l.length := List.length_drop
    rcases Nat.lt_or_ge a (half l.length) with ha | ha
    ·rw [qha hl ha, qbx hl ha, List.length_cons, List.length_cons, qdo k (by omega), e1]
    ·rw [qfK hl ha, qbe hl ha, List.length_cons, List.length_cons, qdo k (by omega), e2]
   ·rw [qgj hl, qbk hl]; rfl
def qbJ (l : List Sm) (a : Int) : List Sm := if 0 ≤ a ∧ a < (l.length : Int) then (topL l a.toNat).reverse else []
def qhh : List Int → List Sm → Sm → Sm
 | a :: A, p :: P, s => qhh A P (if a = 0 then qaw 2 [s, p] else qaw 2 [p, s])
 | _, _, s => s
def foldK : List Int → List Sm → Sm → qan → qan
 | a :: A, p :: P, s, x => foldK A P (if a = 0 then qaw 2 [s, p] else qaw 2 [p, s]) (if a = 0 then qaG x 2 [s, p] else qaG x 2 [p, s])
 | _, _, _, x => x
def qdr (n a : Int) (P : List Sm) : Bool := decide ((0 ≤ a ∧ a < n) ∧ P.length = (qaI n.toNat a.toNat).length)
def sm0L : Sm := List.replicate 32 0
def qbA (n a : Int) (s : Sm) (P : List Sm) : Sm := if qdr n a P then qhh (qaI n.toNat a.toNat).reverse P s else sm0L
def qhl (n a : Int) (P : List Sm) : Int := if qdr n a P then 0 else 10
def leadK (x : qan) (n a : Int) (s : Sm) (P : List Sm) : qan := if qdr n a P then foldK (qaI n.toNat a.toNat).reverse P s x else x
theorem qdv : ∀ (A : List Int) (P : List Sm) (a : Int) (p s : Sm), A.length = P.length → qhh (A ++ [a]) (P ++ [p]) s = if a = 0 then qaw 2 [qhh A P s, p] else qaw 2 [p, qhh A P s]
 | [], [], a, p, s, _ => rfl
 | [], _ :: _, a, p, s, h => by simp at h
 | _ :: _, [], a, p, s, h => by simp at h
 | b :: A, q :: P, a, p, s, h => by
   simp only [List.cons_append, qhh]
   exact qdv A P a p _ (by simpa using h)
end Go.Inc

set_option linter.unusedVariables false
namespace Go.Inc
open Go
theorem qpl {l : List Sm} {a : Int} (h : l.length ≤ 1048576) : (qbJ l a).length ≤ 20 := by
 unfold qbJ
 split
 ·rw [List.length_reverse, qdo _ (Nat.le_refl _)]
  exact qcd 20 (by omega)
 ·exact Nat.zero_le _
theorem qfz : ∀ (k : Nat) {l : List Sm} {a : Nat}, l.length ≤ k → a < l.length → qhh (qaI l.length a).reverse (topL l a).reverse (ix l (a : Int)) = qaK l
 | 0, l, a, hk, ha => by omega
 | k + 1, l, a, hk, ha => by
   rw [ixN ha]
   by_cases h : 1 < l.length
   ·have a1 := qa3 (n := l.length) (by omega)
    have a2 := qbo (n := l.length) (by omega)
    have l1 : (l.take (half l.length)).length = half l.length := by rw [List.length_take]; omega
    have l2 : (l.drop (half l.length)).length = l.length - half l.length := List.length_drop
    rcases Nat.lt_or_ge a (half l.length) with hh | hh
    ·have ih := qfz k (l := l.take (half l.length)) (a := a) (by omega) (by omega)
     have hlen := qdo _ (l := l.take (half l.length)) (a := a) (Nat.le_refl _)
     have ev : ix (l.take (half l.length)) (a : Int) = l[a] := by rw [ixN (by omega), List.getElem_take]
     rw [ev, l1] at ih
     rw [l1] at hlen
     rw [qbx h hh, qha h hh, List.reverse_cons, List.reverse_cons, qdv _ _ _ _ _ (by rw [List.length_reverse, List.length_reverse, hlen]), if_pos rfl, qeN (l := l) h]
     rw [ih]
    ·have ih := qfz k (l := l.drop (half l.length)) (a := a - half l.length) (by omega) (by omega)
     have hlen := qdo _ (l := l.drop (half l.length)) (a := a - half l.length) (Nat.le_refl _)
     have ei : half l.length + (a - half l.length) = a := by omega
     have ev : ix (l.drop (half l.length)) ((a - half l.length : Nat) : Int) = l[a] := by
      rw [ixN (by omega), List.getElem_drop]
      simp only [ei]
     rw [ev, l2] at ih
     rw [l2] at hlen
     rw [qbe h hh, qfK h hh, List.reverse_cons, List.reverse_cons, qdv _ _ _ _ _ (by rw [List.length_reverse, List.length_reverse, hlen]), if_neg (by decide), qeN (l := l) h]
     rw [ih]
   ·have e : l.length = 1 := by omega
    obtain ⟨x, rfl⟩ := List.length_eq_one_iff.1 e
    obtain rfl : a = 0 := by simp at ha; exact ha
    rw [qbk h, qgj h, qg4]
    rfl
theorem qhL {l : List Sm} {a : Int} (h : 0 ≤ a ∧ a < (l.length : Int)) : qdr (l.length : Int) a (qbJ l a) = true := by
 unfold qdr qbJ
 rw [if_pos h, List.length_reverse, qdo _ (Nat.le_refl _), Int.toNat_natCast]
 exact decide_eq_true ⟨h, rfl⟩
theorem qmZ {l : List Sm} {a : Int} (h : 0 ≤ a ∧ a < (l.length : Int)) : qbA (l.length : Int) a (ix l a) (qbJ l a) = qaK l := by
 unfold qbA
 rw [qhL h, if_pos rfl, Int.toNat_natCast]
 have := qfz _ (l := l) (a := a.toNat) (Nat.le_refl _) (by omega)
 rw [Int.toNat_of_nonneg h.1] at this
 unfold qbJ
 rw [if_pos h]
 exact this
theorem qah.foldK : ∀ {A : List Int} {P : List Sm} {s : Sm} {x : qan} {n : Nat}, qah x (n + P.length) → qah (foldK A P s x) n
 | [], P, s, x, n, h => by simp only [Go.Inc.foldK]; exact h.le (by omega)
 | _ :: _, [], s, x, n, h => by simpa [Go.Inc.foldK] using h
 | a :: A, p :: P, s, x, n, h => by
   simp only [Go.Inc.foldK]
   refine qah.foldK ?_
   rw [List.length_cons] at h
   split <;> exact qah.of (h.le (by omega)) _ _
theorem qbL.foldK : ∀ {A : List Int} {P : List Sm} {s : Sm} {x : qan}, s.length = 32 → (∀ z ∈ P, z.length = 32) → qbL x → qbL (foldK A P s x)
 | [], P, s, x, hs, hp, h => by simpa [Go.Inc.foldK] using h
 | _ :: _, [], s, x, hs, hp, h => by simpa [Go.Inc.foldK] using h
 | a :: A, p :: P, s, x, hs, hp, h => by
   have hp1 := hp p List.mem_cons_self
   have hp2 : ∀ z ∈ P, z.length = 32 := fun z hz => hp z (List.mem_cons_of_mem _ hz)
   simp only [Go.Inc.foldK]
   split
   ·exact qbL.foldK (qbj _ _) hp2 (h.of (qm4 hs hp1))
   ·exact qbL.foldK (qbj _ _) hp2 (h.of (qm4 hp1 hs))
def qbC (x : qan) (n : Nat) : Prop := ∃ y, x = some y ∧ y.2 = (n : Int)
theorem qbC.of {x : qan} {n : Nat} (h : qbC x n) (hn : n ≤ 1048576) (k : Int) (l : List (List UInt8)) : qbC (qaG x k l) (n + 1) := by
 obtain ⟨y, rfl, hy⟩ := h
 refine ⟨_, rfl, ?_⟩
 show IntKind.i64.wrap (y.2 + 1) = _
 rw [hy, qam (wf64 (by omega) (by omega))]
 omega
theorem qbC.calls {x : qan} {n : Nat} (h : qbC x n) : qog x = (n : Int) := by
 obtain ⟨y, rfl, hy⟩ := h
 exact hy
theorem qbC.foldK : ∀ {A : List Int} {P : List Sm} {s : Sm} {x : qan} {n : Nat}, qbC x n → A.length = P.length → n + P.length ≤ 1048576 → qbC (foldK A P s x) (n + P.length)
 | [], [], s, x, n, h, _, _ => by simpa [Go.Inc.foldK] using h
 | [], _ :: _, s, x, n, h, e, _ => by cases e
 | _ :: _, [], s, x, n, h, e, _ => by cases e
 | a :: A, p :: P, s, x, n, h, e, hb => by
   simp only [List.length_cons] at e hb
   simp only [Go.Inc.foldK, List.length_cons]
   rw [show n + (P.length + 1) = n + 1 + P.length from by omega]
   refine qbC.foldK ?_ (by omega) (by omega)
   split <;> exact h.of (by omega) _ _
theorem qbC.root : ∀ (k : Nat) {l : List Sm} {x : qan} {n : Nat}, l.length ≤ k → 1 ≤ l.length → qbC x n → n + l.length ≤ 1048576 → qbC (qaT x l) (n + (l.length - 1))
 | 0, l, x, n, hk, h1, h, hb => by omega
 | k + 1, l, x, n, hk, h1, h, hb => by
   rcases Nat.lt_or_ge l.length 2 with h2 | h2
   ·match l, h1, h2 with
    | [a], _, _ => rw [qcb]; exact h
   ·have a1 := qa3 h2
    have a2 := qbo h2
    have l1 : (l.take (half l.length)).length = half l.length := by rw [List.length_take]; omega
    have l2 : (l.drop (half l.length)).length = l.length - half l.length := List.length_drop
    rw [qcc x h2]
    have i1 := qbC.root k (l := l.take (half l.length)) (by omega) (by omega) h (by omega)
    have i2 := qbC.root k (l := l.drop (half l.length)) (by omega) (by omega) i1 (by omega)
    have i3 := i2.of (by omega) 2 [qaK (l.take (half l.length)), qaK (l.drop (half l.length))]
    rw [l1, l2, show n + (half l.length - 1) + (l.length - half l.length - 1) + 1 = n + (l.length - 1) from by omega] at i3
    exact i3
end Go.Inc

set_option linter.unusedVariables false
namespace Go.Inc
open Go
abbrev By := List UInt8
abbrev Pk := By × By
abbrev Sp := Int × (Pk × List Sm)
abbrev Sn := Int × List Sp
theorem qco : ∀ a : By, sless a a = false
 | [] => rfl
 | x :: a => by
   have := qco a
   unfold sless at this ⊢
   simp [Op.bytesLess, this]
theorem qfH {x y : UInt8} {a b : By} : sless (x :: a) (y :: b) = (decide (x < y) || (decide (x = y) && sless a b)) := by
 unfold sless
 simp only [Op.bytesLess]
 by_cases h1 : x < y
 ·simp [h1]
 ·by_cases h2 : x = y
  ·simp [h2]
  ·simp [h1, h2]
theorem qcp : ∀ {a b c : By}, sless a b = true → sless b c = true → sless a c = true
 | [], b, c, h1, h2 => by
   cases c with
   | nil => cases b <;> cases h2
   | cons z c => rfl
 | x :: a, [], c, h1, h2 => by cases h1
 | x :: a, y :: b, [], h1, h2 => by cases h2
 | x :: a, y :: b, z :: c, h1, h2 => by
   rw [qfH] at h1 h2 ⊢
   simp only [Bool.or_eq_true, Bool.and_eq_true, decide_eq_true_eq] at h1 h2 ⊢
   rcases h1 with h1 | ⟨rfl, h1⟩ <;> rcases h2 with h2 | ⟨rfl, h2⟩
   ·exact .inl (UInt8.lt_trans h1 h2)
   ·exact .inl h1
   ·exact .inl h2
   ·exact .inr ⟨rfl, qcp h1 h2⟩
theorem qeP : ∀ {a b : By}, sless a b = false → a ≠ b → sless b a = true
 | [], [], _, h => absurd rfl h
 | [], y :: b, h, _ => by cases h
 | x :: a, [], _, _ => rfl
 | x :: a, y :: b, h, hne => by
   rw [qfH] at h ⊢
   simp only [Bool.or_eq_false_iff, Bool.and_eq_false_iff, decide_eq_false_iff_not] at h
   simp only [Bool.or_eq_true, Bool.and_eq_true, decide_eq_true_eq]
   by_cases hxy : x = y
   ·subst hxy
    refine .inr ⟨rfl, qeP ?_ (fun e => hne (by rw [e]))⟩
    rcases h.2 with h2 | h2
    ·exact absurd rfl h2
    ·exact h2
   ·refine .inl ?_
    have h1 := h.1
    rw [UInt8.lt_iff_toNat_lt] at h1 ⊢
    have : x.toNat ≠ y.toNat := fun e => hxy (UInt8.toNat_inj.1 e)
    omega
theorem qm8 {a b : By} (h : sless a b = true) : sless b a = false := by
 cases hb : sless b a with
 | false => rfl
 | true => have := qcp h hb; rw [qco] at this; cases this
def cmpB (a b : By) : Int := if sless a b = true then -1 else if a = b then 0 else 1
theorem qed {a b : By} : cmpB a b < 0 ↔ sless a b = true := by
 unfold cmpB
 split
 ·rename_i h; simp [h]
 ·rename_i h
  split <;> simp [h]
theorem qon {a b : By} : cmpB a b = 0 ↔ a = b := by
 unfold cmpB
 split
 ·rename_i h
  exact ⟨fun h2 => absurd h2 (by decide), fun h2 => by subst h2; rw [qco] at h; cases h⟩
 ·split
  ·rename_i h; exact ⟨fun _ => h, fun _ => rfl⟩
  ·rename_i h; exact ⟨fun h2 => absurd h2 (by decide), fun h2 => absurd h2 h⟩
theorem qtW {a b : By} : 0 < cmpB a b ↔ sless b a = true := by
 unfold cmpB
 split
 ·rename_i h
  rw [qm8 h]
  simp
 ·rename_i h
  split
  ·rename_i h2; subst h2; rw [qco]; simp
  ·rename_i h2; simp [qeP (by simpa using h) h2]
def mayK : List Pk → Bool
 | a :: b :: l => sless a.1 b.1 && mayK (b :: l)
 | _ => true
theorem qjM {a : Pk} {l : List Pk} (h : mayK (a :: l) = true) : mayK l = true := by
 cases l with
 | nil => rfl
 | cons b l => simp only [mayK, Bool.and_eq_true] at h; exact h.2
theorem qjL : ∀ {l : List Pk} {a x : Pk}, mayK (a :: l) = true → x ∈ l → sless a.1 x.1 = true
 | [], a, x, h, hx => by cases hx
 | b :: l, a, x, h, hx => by
   have h1 : sless a.1 b.1 = true := by simp only [mayK, Bool.and_eq_true] at h; exact h.1
   rcases List.mem_cons.1 hx with rfl | hx
   ·exact h1
   ·exact qcp h1 (qjL (qjM h) hx)
theorem qel : ∀ {l : List Pk} {i j : Nat} (hi : i < l.length) (hj : j < l.length), mayK l = true → i < j → sless l[i].1 l[j].1 = true
 | [], i, j, hi, _, _, _ => by simp at hi
 | a :: l, 0, j + 1, hi, hj, h, _ => qjL h (List.getElem_mem (l := l) (n := j) (by simpa using hj))
 | a :: l, i + 1, j + 1, hi, hj, h, hij => qel (l := l) (i := i) (j := j) (by simpa using hi) (by simpa using hj) (qjM h) (by omega)
theorem qhN : ∀ {l : List Pk}, mayK l = false → ∃ (i : Nat) (h : i + 1 < l.length), sless l[i].1 l[i + 1].1 = false
 | [], h => by cases h
 | [a], h => by cases h
 | a :: b :: l, h => by
   simp only [mayK, Bool.and_eq_false_iff] at h
   rcases h with h | h
   ·exact ⟨0, by simp, h⟩
   ·obtain ⟨i, hi, hs⟩ := qhN h
    exact ⟨i + 1, by simpa using hi, hs⟩
def qbb (p : Pk) : Sm := qaw 4 [p.1, p.2]
def qaq (l : List Pk) : List Sm := l.map qbb
def qcr (n : Int) (t : Sm) : Sm := qaw 5 [numB n.toNat, t]
def qa8 (l : List Pk) : Sm := qcr l.length (qaK (qaq l))
theorem qa4 (l : List Pk) : (qaq l).length = l.length := List.length_map ..
def lowK (l : List Pk) (key : By) : Nat := (l.takeWhile fun p => sless p.1 key).length
theorem qiN : ∀ {l : List Pk} {key : By} {i : Nat}, i ≤ l.length → (∀ (t : Nat) (h : t < l.length), t < i → sless l[t].1 key = true) → (∀ h : i < l.length, sless l[i].1 key = false) → lowK l key = i
 | [], key, i, hi, _, _ => by
   have : i = 0 := by simpa using hi
   subst this; rfl
 | a :: l, key, 0, hi, h1, h2 => by
   have := h2 (by simp)
   simp only [List.getElem_cons_zero] at this
   simp [lowK, List.takeWhile, this]
 | a :: l, key, i + 1, hi, h1, h2 => by
   have h0 := h1 0 (by simp) (by omega)
   simp only [List.getElem_cons_zero] at h0
   have := qiN (l := l) (key := key) (i := i) (by simpa using hi) (fun t ht hti => h1 (t + 1) (by simpa using ht) (by omega)) (fun h => h2 (by simpa using h))
   simp only [lowK, List.takeWhile, h0, List.length_cons]
   exact congrArg (· + 1) this
theorem qkX : ∀ (l : List Pk) (key : By), lowK l key ≤ l.length
 | [], key => Nat.le_refl _
 | a :: l, key => by
   have := qkX l key
   unfold lowK at this ⊢
   simp only [List.takeWhile]
   split
   ·simp only [List.length_cons]; omega
   ·exact Nat.zero_le _
theorem qkY : ∀ {l : List Pk} {key : By} {t : Nat} (h : t < l.length), t < lowK l key → sless l[t].1 key = true
 | [], key, t, h, _ => by simp at h
 | a :: l, key, t, h, ht => by
   cases hs : sless a.1 key with
   | false => simp [lowK, List.takeWhile, hs] at ht
   | true =>
     cases t with
     | zero => exact hs
     | succ t =>
       simp only [lowK, List.takeWhile, hs, List.length_cons] at ht
       exact qkY (l := l) (by simpa using h) (by unfold lowK; omega)
theorem qkW : ∀ {l : List Pk} {key : By} (h : lowK l key < l.length), sless l[lowK l key].1 key = false
 | [], key, h => by simp at h
 | a :: l, key, h => by
   cases hs : sless a.1 key with
   | false =>
     have e : lowK (a :: l) key = 0 := by simp [lowK, List.takeWhile, hs]
     simp only [e, List.getElem_cons_zero]
     exact hs
   | true =>
     have e : lowK (a :: l) key = lowK l key + 1 := by simp [lowK, List.takeWhile, hs]
     simp only [e, List.getElem_cons_succ]
     exact qkW (l := l) (by rw [e] at h; simpa using h)
def isK (l : List Pk) (key : By) : Bool := decide (lowK l key < l.length) && decide ((ix l (lowK l key : Int)).1 = key)
def qdE (l : List Pk) (i : Nat) : Sp := ((i : Int), ix l (i : Int), qbJ (qaq l) (i : Int))
def qbs (l : List Pk) (key : By) : Nat := if isK l key then lowK l key else lowK l key - 1
def toK (l : List Pk) (key : By) : Nat := min (lowK l key + 1) l.length
def qaF (l : List Pk) (key : By) : Sn := if mayK l then ((l.length : Int), (List.range' (qbs l key) (toK l key - qbs l key)).map (qdE l)) else (0, [])
def qf3 (key : By) (s : Sn) : Bool × Bool := match s.2 with
 | [] => (false, decide (s.1 = 0))
 | [a] => (decide (cmpB key a.2.1.1 = 0), decide (cmpB key a.2.1.1 = 0 ∨ cmpB key a.2.1.1 < 0 ∧ a.1 = 0 ∨ 0 < cmpB key a.2.1.1 ∧ a.1 = s.1 - 1))
 | [a, b] => (false, decide (0 ≤ a.1 ∧ a.1 < b.1 ∧ b.1 - a.1 = 1 ∧ cmpB a.2.1.1 key < 0 ∧ cmpB key b.2.1.1 < 0))
 | _ => (false, false)
def goK (n : Int) : Bool → List Sp → Sm → Option Sm
 | _, [], t => some t
 | f, x :: l, t => if qdr n x.1 x.2.2 = true ∧ (f = true ∨ qbA n x.1 (qbb x.2.1) x.2.2 = t) then goK n false l (qbA n x.1 (qbb x.2.1) x.2.2) else none
def goBk (n : Int) : Bool → List Sp → Sm → qan → qan
 | _, [], t, b => b
 | f, x :: l, t, b => if qdr n x.1 x.2.2 = true ∧ (f = true ∨ qbA n x.1 (qbb x.2.1) x.2.2 = t) then goBk n false l (qbA n x.1 (qbb x.2.1) x.2.2) (leadK (qaG b 4 [x.2.1.1, x.2.1.2]) n x.1 (qbb x.2.1) x.2.2)
   else leadK (qaG b 4 [x.2.1.1, x.2.1.2]) n x.1 (qbb x.2.1) x.2.2
def begK (n : Int) : Sm := if n = 0 then qaK [] else sm0L
def qf2 (root : Sm) (key : By) (s : Sn) : Option Bool := if (qf3 key s).2 = true ∧ 0 ≤ s.1 then (match goK s.1 true s.2 (begK s.1) with
 | some t => if qcr s.1 t = root then some (qf3 key s).1 else none
 | none => none) else none
def qct (root : Sm) (key : By) (s : Sn) : By := if qf2 root key s = some true then (ix s.2 0).2.1.2 else []
def qcW (root : Sm) (key : By) (s : Sn) : Bool := decide (qf2 root key s = some true)
def qbw (root : Sm) (key : By) (s : Sn) : Int := if qf2 root key s = none then 10 else 0
end Go.Inc

set_option linter.unusedVariables false
namespace Go.Inc
open Go Go.RowKit
theorem qhE : ∀ a b : List UInt8, Lib.compareBytes a b = cmpB a b
 | [], [] => rfl
 | [], y :: b => rfl
 | x :: a, [] => rfl
 | x :: a, y :: b => by
   have ih := qhE a b
   unfold Lib.compareBytes
   unfold cmpB at ih ⊢
   rw [qfH]
   by_cases hxy : x = y
   ·subst hxy
    simp only [UInt8.lt_irrefl, if_false, ih, decide_false, decide_true, Bool.false_or, Bool.true_and, List.cons.injEq, true_and]
   ·by_cases hlt : x < y
    ·simp [hlt]
    ·have : y < x := UInt8.lt_of_le_of_ne (UInt8.not_lt.1 hlt) (Ne.symm hxy)
     simp [hlt, hxy, this]
section
variable {P : Program} {w : World} {K : Ghost} {ρ : Env} {dst : Option Tmp} {x y : Operand} {ty : TypeId}
theorem qjW : ∀ (xs : List UInt8) (a : Addr) (acc : ByteArray), (∀ j (hj : j < xs.length), w.cell? (a.add j) = some (.int .u8 (xs[j].toNat : Int))) → (Extern.Bytes.loadBytes a xs.length acc).run P w = .ok ⟨acc.data ++ xs.toArray⟩ w
 | [], a, acc, _ => by simp [Extern.Bytes.loadBytes]
 | x :: l, a, acc, h => by
   have h0 : w.cell? a = some (.int .u8 (x.toNat : Int)) := by
    have := h 0 (by simp)
    simpa [Addr.add] using this
   have ih := qjW l (a.add 1) (acc.push x) (fun j hj => by
    have := h (j + 1) (by simpa using hj)
    have e : (a.add 1).add j = a.add (j + 1) := by
     unfold Addr.add
     by_cases hj : j = 0
     ·subst hj; simp
     ·simp [hj]; omega
    rw [e, this]; rfl)
   have e : (x.toNat : Int).toNat.toUInt8 = x := by simp
   simp only [List.length_cons, Extern.Bytes.loadBytes, Sem.run_bind, run_load, h0, Result.andThen, e]
   rw [ih]
   congr 1
   apply ByteArray.ext
   simp [ByteArray.push]
theorem qg5 {l : List UInt8} {v : Value} (hM : Models w K) (hV : (Kd.sl Kd.byte).V K l v) : (Extern.Bytes.bytesOf v).run P w = .ok ⟨l.toArray⟩ w := by
 obtain ⟨A, cap, rfl, hc, hl, hwf, hS⟩ := qb1 hV
 have he : (⟨ByteArray.empty.data ++ l.toArray⟩ : ByteArray) = ⟨l.toArray⟩ := by
  apply ByteArray.ext
  show (#[] : Array UInt8) ++ l.toArray = l.toArray
  simp
 rcases qgD hM hS with rfl | ⟨a, rfl, hcell⟩
 ·cases A with
  | none => rfl
  | some a => rfl
 ·rw [← he]
  exact qjW l a .empty hcell
theorem qwJ {f : FuncId} {fn : Func} {a b : List UInt8} {v u : Value} {ts : Array TypeId} {pos af g} (hf : P.funcs[f]? = some fn) (hname : (fn.name == "runtime.NumGoroutine") = false) (hb : fn.body.isNone = true) (hn : Extern.findNext fn = none) (he : Extern.find fn = some Extern.BytealgCompare.compare)
 (hM : Models w K) (hx : ev ρ x = v) (hy : ev ρ y = u) (hv : (Kd.sl Kd.byte).V K a v) (hu : (Kd.sl Kd.byte).V K b u) :
 (execOp (ev ρ) ⟨dst, .call { callee := .value (.func f), args := #[x, y], argTypes := ts }, ty, pos, af, g⟩).run P w = .ok (.value (.int .i64 (cmpB a b))) w := by
 have hc : (Extern.BytealgCompare.compare #[v, u]).run P w = .ok (.int .i64 (cmpB a b)) w := by
  change Sem.run P (do pure (goInt (Extern.BytealgCompare.cmp (← Extern.Bytes.bytesOf v) (← Extern.Bytes.bytesOf u)))) w = _
  simp only [Sem.run_bind, qg5 hM hv, qg5 hM hu, Result.andThen, Sem.run_pure, Lib.cmp_eq]
  rw [qhE]
  rfl
 have hfn : ev ρ (.func f) = .func (.func f) #[] #[] := rfl
 unfold execOp
 simp [resolve, Deferred.ofValue, invoke, hfn, hx, hy, run_callFunc_extern hf hname hb hn he, hc, Result.andThen]
end
end Go.Inc

set_option linter.unusedVariables false
set_option maxRecDepth 100000
set_option maxHeartbeats 2000000
namespace Go.Proofs.Ytmjjkpiglbpkhaa
open Go Go.RowKit Go.Inc
theorem tt2 : TyOk Try.prog 2 (Ty.kd (.int .i64)) 8 := ⟨⟨Try.t2, _, Try.type2, rfl, rfl, rfl, rfl, rfl⟩, ⟨_, Try.underlying2, rfl⟩⟩
theorem tt3 : TyOk Try.prog 3 (Ty.kd (.int .i64)) 8 := ⟨⟨Try.t3, _, Try.type3, rfl, rfl, rfl, rfl, rfl⟩, ⟨_, Try.underlying3, rfl⟩⟩
theorem tt4 : TyOk Try.prog 4 (Ty.kd (.bool)) 1 := ⟨⟨Try.t4, _, Try.type4, rfl, rfl, rfl, rfl, rfl⟩, ⟨_, Try.underlying4, rfl⟩⟩
theorem tt5 : TyOk Try.prog 5 (Ty.kd (.int .u8)) 1 := ⟨⟨Try.t5, _, Try.type5, rfl, rfl, rfl, rfl, rfl⟩, ⟨_, Try.underlying5, rfl⟩⟩
theorem tt5b : TyOk Try.prog 5 (Ty.kd (.byte)) 1 := ⟨⟨Try.t5, _, Try.type5, rfl, rfl, rfl, rfl, rfl⟩, ⟨_, Try.underlying5, rfl⟩⟩
theorem tt9 : TyOk Try.prog 9 (Ty.kd (.str)) 16 := ⟨⟨Try.t9, _, Try.type9, rfl, rfl, rfl, rfl, rfl⟩, ⟨_, Try.underlying9, rfl⟩⟩
theorem tt12 : TyOk Try.prog 12 (Ty.kd (.int .u64)) 8 := ⟨⟨Try.t12, _, Try.type12, rfl, rfl, rfl, rfl, rfl⟩, ⟨_, Try.underlying12, rfl⟩⟩
theorem tt13 : TyOk Try.prog 13 (Ty.kd (.pr .str (.int .u64))) 24 := ⟨⟨Try.t13, _, Try.type13, rfl, rfl, rfl, rfl, rfl⟩, ⟨_, Try.underlying13, rfl⟩⟩
theorem tt21 : TyOk Try.prog 21 (Ty.kd (.int .i32)) 4 := ⟨⟨Try.t21, _, Try.type21, rfl, rfl, rfl, rfl, rfl⟩, ⟨_, Try.underlying21, rfl⟩⟩
theorem tt22 : TyOk Try.prog 22 (Ty.kd (.sl .str)) 24 := ⟨⟨Try.t22, _, Try.type22, rfl, rfl, rfl, rfl, rfl⟩, ⟨_, Try.underlying22, rfl⟩⟩
theorem tt23 : TyOk Try.prog 23 (Ty.kd (.int .u64)) 8 := ⟨⟨Try.t23, _, Try.type23, rfl, rfl, rfl, rfl, rfl⟩, ⟨_, Try.underlying23, rfl⟩⟩
theorem tt24 : TyOk Try.prog 24 (Ty.kd (.arr 32 .byte)) 32 := ⟨⟨Try.t24, _, Try.type24, rfl, rfl, rfl, rfl, rfl⟩, ⟨_, Try.underlying24, rfl⟩⟩
theorem tt25 : TyOk Try.prog 25 (Ty.kd (.pr (.int .u64) (.pr (.arr 32 .byte) (.pr (.arr 32 .byte) (.pr (.arr 32 .byte) (.pr (.arr 32 .byte) (.arr 32 .byte))))))) 168 := ⟨⟨Try.t25, _, Try.type25, rfl, rfl, rfl, rfl, rfl⟩, ⟨_, Try.underlying25, rfl⟩⟩
theorem tt26 : TyOk Try.prog 26 (Ty.kd (.pr (.int .u64) (.pr (.arr 32 .byte) (.pr (.arr 32 .byte) (.pr (.arr 32 .byte) (.pr (.arr 32 .byte) (.arr 32 .byte))))))) 168 := ⟨⟨Try.t26, _, Try.type26, rfl, rfl, rfl, rfl, rfl⟩, ⟨_, Try.underlying26, rfl⟩⟩
theorem tt27 : TyOk Try.prog 27 (Ty.kd (.pr (.arr 32 .byte) (.pr (.arr 32 .byte) (.arr 32 .byte)))) 96 := ⟨⟨Try.t27, _, Try.type27, rfl, rfl, rfl, rfl, rfl⟩, ⟨_, Try.underlying27, rfl⟩⟩
theorem tt28 : TyOk Try.prog 28 (Ty.kd (.pr (.arr 32 .byte) (.pr (.arr 32 .byte) (.arr 32 .byte)))) 96 := ⟨⟨Try.t28, _, Try.type28, rfl, rfl, rfl, rfl, rfl⟩, ⟨_, Try.underlying28, rfl⟩⟩
theorem tt32 : TyOk Try.prog 32 (Ty.kd (.sl .byte)) 24 := ⟨⟨Try.t32, _, Try.type32, rfl, rfl, rfl, rfl, rfl⟩, ⟨_, Try.underlying32, rfl⟩⟩
theorem tt35 : TyOk Try.prog 35 (Ty.kd (.hpt)) 8 := ⟨⟨Try.t35, _, Try.type35, rfl, rfl, rfl, rfl, rfl⟩, ⟨_, Try.underlying35, rfl⟩⟩
theorem qxS : TyOk Try.prog 35 (Ty.kd (.ptr (.pr (.pr (.sl (.pr (.arr 32 .byte) (.sl .byte))) .anm) (.int .i64)))) 8 := ⟨⟨Try.t35, _, Try.type35, rfl, rfl, rfl, rfl, rfl⟩, ⟨_, Try.underlying35, rfl⟩⟩
theorem tt36 : TyOk Try.prog 36 (Ty.kd (.sl (.pr (.arr 32 .byte) (.sl .byte)))) 24 := ⟨⟨Try.t36, _, Try.type36, rfl, rfl, rfl, rfl, rfl⟩, ⟨_, Try.underlying36, rfl⟩⟩
theorem tt38 : TyOk Try.prog 38 (Ty.kd (.pr (.sl (.pr (.arr 32 .byte) (.sl .byte))) (.hmp (.arr 32 .byte) (.int .i64)))) 32 := ⟨⟨Try.t38, _, Try.type38, rfl, rfl, rfl, rfl, rfl⟩, ⟨_, Try.underlying38, rfl⟩⟩
theorem qxT : TyOk Try.prog 38 (Ty.kd (.pr (.sl (.pr (.arr 32 .byte) (.sl .byte))) .anm)) 32 := ⟨⟨Try.t38, _, Try.type38, rfl, rfl, rfl, rfl, rfl⟩, ⟨_, Try.underlying38, rfl⟩⟩
theorem tt39 : TyOk Try.prog 39 (Ty.kd (.pr (.hsl 146 (.pr (.arr 32 .byte) (.sl .byte))) (.hmp (.arr 32 .byte) (.int .i64)))) 32 := ⟨⟨Try.t39, _, Try.type39, rfl, rfl, rfl, rfl, rfl⟩, ⟨_, Try.underlying39, rfl⟩⟩
theorem qxU : TyOk Try.prog 39 (Ty.kd (.pr (.sl (.pr (.arr 32 .byte) (.sl .byte))) .anm)) 32 := ⟨⟨Try.t39, _, Try.type39, rfl, rfl, rfl, rfl, rfl⟩, ⟨_, Try.underlying39, rfl⟩⟩
theorem tt40 : TyOk Try.prog 40 (Ty.kd (.pr (.pr (.hsl 146 (.pr (.arr 32 .byte) (.sl .byte))) (.hmp (.arr 32 .byte) (.int .i64))) (.int .i64))) 40 := ⟨⟨Try.t40, _, Try.type40, rfl, rfl, rfl, rfl, rfl⟩, ⟨_, Try.underlying40, rfl⟩⟩
theorem qxV : TyOk Try.prog 40 (Ty.kd (.pr (.pr (.sl (.pr (.arr 32 .byte) (.sl .byte))) .anm) (.int .i64))) 40 := ⟨⟨Try.t40, _, Try.type40, rfl, rfl, rfl, rfl, rfl⟩, ⟨_, Try.underlying40, rfl⟩⟩
theorem tt41 : TyOk Try.prog 41 (Ty.kd (.pr (.pr (.hsl 146 (.pr (.arr 32 .byte) (.sl .byte))) (.hmp (.arr 32 .byte) (.int .i64))) (.int .i64))) 40 := ⟨⟨Try.t41, _, Try.type41, rfl, rfl, rfl, rfl, rfl⟩, ⟨_, Try.underlying41, rfl⟩⟩
theorem qxW : TyOk Try.prog 41 (Ty.kd (.pr (.pr (.sl (.pr (.arr 32 .byte) (.sl .byte))) .anm) (.int .i64))) 40 := ⟨⟨Try.t41, _, Try.type41, rfl, rfl, rfl, rfl, rfl⟩, ⟨_, Try.underlying41, rfl⟩⟩
theorem tt46 : TyOk Try.prog 46 (Ty.kd (.hpt)) 8 := ⟨⟨Try.t46, _, Try.type46, rfl, rfl, rfl, rfl, rfl⟩, ⟨_, Try.underlying46, rfl⟩⟩
theorem qxX : TyOk Try.prog 46 (Ty.kd (.ptr (.st (.pr (.sl .byte) .bool)))) 8 := ⟨⟨Try.t46, _, Try.type46, rfl, rfl, rfl, rfl, rfl⟩, ⟨_, Try.underlying46, rfl⟩⟩
theorem tt49 : TyOk Try.prog 49 (Ty.kd (.int .i64)) 8 := ⟨⟨Try.t49, _, Try.type49, rfl, rfl, rfl, rfl, rfl⟩, ⟨_, Try.underlying49, rfl⟩⟩
theorem tt53 : TyOk Try.prog 53 (Ty.kd (.sl (.pr (.sl .byte) (.sl .byte)))) 24 := ⟨⟨Try.t53, _, Try.type53, rfl, rfl, rfl, rfl, rfl⟩, ⟨_, Try.underlying53, rfl⟩⟩
theorem tt56 : TyOk Try.prog 56 (Ty.kd (.pr (.sl .byte) (.sl .byte))) 48 := ⟨⟨Try.t56, _, Try.type56, rfl, rfl, rfl, rfl, rfl⟩, ⟨_, Try.underlying56, rfl⟩⟩
theorem tt57 : TyOk Try.prog 57 (Ty.kd (.pr (.sl .byte) (.sl .byte))) 48 := ⟨⟨Try.t57, _, Try.type57, rfl, rfl, rfl, rfl, rfl⟩, ⟨_, Try.underlying57, rfl⟩⟩
theorem tt61 : TyOk Try.prog 61 (Ty.kd (.sl (.pr (.int .i64) (.pr (.pr (.sl .byte) (.sl .byte)) (.sl (.arr 32 .byte)))))) 24 := ⟨⟨Try.t61, _, Try.type61, rfl, rfl, rfl, rfl, rfl⟩, ⟨_, Try.underlying61, rfl⟩⟩
theorem tt62 : TyOk Try.prog 62 (Ty.kd (.pr (.int .i64) (.sl (.pr (.int .i64) (.pr (.pr (.sl .byte) (.sl .byte)) (.sl (.arr 32 .byte))))))) 32 := ⟨⟨Try.t62, _, Try.type62, rfl, rfl, rfl, rfl, rfl⟩, ⟨_, Try.underlying62, rfl⟩⟩
theorem tt63 : TyOk Try.prog 63 (Ty.kd (.pr (.int .i64) (.sl (.pr (.int .i64) (.pr (.pr (.sl .byte) (.sl .byte)) (.sl (.arr 32 .byte))))))) 32 := ⟨⟨Try.t63, _, Try.type63, rfl, rfl, rfl, rfl, rfl⟩, ⟨_, Try.underlying63, rfl⟩⟩
theorem tt80 : TyOk Try.prog 80 (Ty.kd (.sl (.arr 32 .byte))) 24 := ⟨⟨Try.t80, _, Try.type80, rfl, rfl, rfl, rfl, rfl⟩, ⟨_, Try.underlying80, rfl⟩⟩
theorem tt81 : TyOk Try.prog 81 (Ty.kd (.pr (.int .i64) (.pr (.pr (.sl .byte) (.sl .byte)) (.sl (.arr 32 .byte))))) 80 := ⟨⟨Try.t81, _, Try.type81, rfl, rfl, rfl, rfl, rfl⟩, ⟨_, Try.underlying81, rfl⟩⟩
theorem tt82 : TyOk Try.prog 82 (Ty.kd (.pr (.int .i64) (.pr (.pr (.sl .byte) (.sl .byte)) (.sl (.arr 32 .byte))))) 80 := ⟨⟨Try.t82, _, Try.type82, rfl, rfl, rfl, rfl, rfl⟩, ⟨_, Try.underlying82, rfl⟩⟩
theorem tt89 : TyOk Try.prog 89 (Ty.kd (.sl (.pr (.int .i64) (.pr (.int .i64) (.pr (.sl (.sl .byte)) (.pr (.arr 32 .byte) (.sl .byte))))))) 24 := ⟨⟨Try.t89, _, Try.type89, rfl, rfl, rfl, rfl, rfl⟩, ⟨_, Try.underlying89, rfl⟩⟩
theorem tt91 : TyOk Try.prog 91 (Ty.kd (.hpt)) 8 := ⟨⟨Try.t91, _, Try.type91, rfl, rfl, rfl, rfl, rfl⟩, ⟨_, Try.underlying91, rfl⟩⟩
theorem qx2 : TyOk Try.prog 91 (Ty.kd (.ptr (.pr (.sl (.pr (.arr 32 .byte) .str)) (.int .i64)))) 8 := ⟨⟨Try.t91, _, Try.type91, rfl, rfl, rfl, rfl, rfl⟩, ⟨_, Try.underlying91, rfl⟩⟩
theorem tt92 : TyOk Try.prog 92 (Ty.kd (.sl (.pr (.arr 32 .byte) .str))) 24 := ⟨⟨Try.t92, _, Try.type92, rfl, rfl, rfl, rfl, rfl⟩, ⟨_, Try.underlying92, rfl⟩⟩
theorem tt93 : TyOk Try.prog 93 (Ty.kd (.pr (.sl (.pr (.arr 32 .byte) .str)) (.int .i64))) 32 := ⟨⟨Try.t93, _, Try.type93, rfl, rfl, rfl, rfl, rfl⟩, ⟨_, Try.underlying93, rfl⟩⟩
theorem tt94 : TyOk Try.prog 94 (Ty.kd (.pr (.sl (.pr (.arr 32 .byte) .str)) (.int .i64))) 32 := ⟨⟨Try.t94, _, Try.type94, rfl, rfl, rfl, rfl, rfl⟩, ⟨_, Try.underlying94, rfl⟩⟩
theorem tt96 : TyOk Try.prog 96 (Ty.kd (.sl (.sl .byte))) 24 := ⟨⟨Try.t96, _, Try.type96, rfl, rfl, rfl, rfl, rfl⟩, ⟨_, Try.underlying96, rfl⟩⟩
theorem tt97 : TyOk Try.prog 97 (Ty.kd (.pr (.int .i64) (.pr (.int .i64) (.pr (.sl (.sl .byte)) (.pr (.arr 32 .byte) (.sl .byte)))))) 96 := ⟨⟨Try.t97, _, Try.type97, rfl, rfl, rfl, rfl, rfl⟩, ⟨_, Try.underlying97, rfl⟩⟩
theorem tt98 : TyOk Try.prog 98 (Ty.kd (.pr (.int .i64) (.pr (.int .i64) (.pr (.sl (.sl .byte)) (.pr (.arr 32 .byte) (.sl .byte)))))) 96 := ⟨⟨Try.t98, _, Try.type98, rfl, rfl, rfl, rfl, rfl⟩, ⟨_, Try.underlying98, rfl⟩⟩
theorem qxp : TyOk Try.prog 107 (Ty.kd (.sl (.ptr (.pr (.pr (.sl (.pr (.arr 32 .byte) (.sl .byte))) .anm) (.int .i64))))) 24 := ⟨⟨Try.t107, _, Try.type107, rfl, rfl, rfl, rfl, rfl⟩, ⟨_, Try.underlying107, rfl⟩⟩
theorem qxq : TyOk Try.prog 115 (Ty.kd (.hpt)) 8 := ⟨⟨Try.t115, _, Try.type115, rfl, rfl, rfl, rfl, rfl⟩, ⟨_, Try.underlying115, rfl⟩⟩
theorem qws : TyOk Try.prog 115 (Ty.kd (.ptr (.arr 32 .byte))) 8 := ⟨⟨Try.t115, _, Try.type115, rfl, rfl, rfl, rfl, rfl⟩, ⟨_, Try.underlying115, rfl⟩⟩
theorem qxr : TyOk Try.prog 116 (Ty.kd (.arr 5 (.ptr (.arr 32 .byte)))) 40 := ⟨⟨Try.t116, _, Try.type116, rfl, rfl, rfl, rfl, rfl⟩, ⟨_, Try.underlying116, rfl⟩⟩
theorem qxs : TyOk Try.prog 118 (Ty.kd (.hpt)) 8 := ⟨⟨Try.t118, _, Try.type118, rfl, rfl, rfl, rfl, rfl⟩, ⟨_, Try.underlying118, rfl⟩⟩
theorem qwt : TyOk Try.prog 118 (Ty.kd (.ptr (.pr (.int .u64) (.pr (.arr 32 .byte) (.pr (.arr 32 .byte) (.pr (.arr 32 .byte) (.pr (.arr 32 .byte) (.arr 32 .byte)))))))) 8 := ⟨⟨Try.t118, _, Try.type118, rfl, rfl, rfl, rfl, rfl⟩, ⟨_, Try.underlying118, rfl⟩⟩
theorem qxt : TyOk Try.prog 121 (Ty.kd (.pr (.pr (.int .u64) (.pr (.arr 32 .byte) (.pr (.arr 32 .byte) (.pr (.arr 32 .byte) (.pr (.arr 32 .byte) (.arr 32 .byte)))))) (.arr 32 .byte))) 200 := ⟨⟨Try.t121, _, Try.type121, rfl, rfl, rfl, rfl, rfl⟩, ⟨_, Try.underlying121, rfl⟩⟩
theorem qxu : TyOk Try.prog 122 (Ty.kd (.pr (.pr (.int .u64) (.pr (.arr 32 .byte) (.pr (.arr 32 .byte) (.pr (.arr 32 .byte) (.pr (.arr 32 .byte) (.arr 32 .byte)))))) (.arr 32 .byte))) 200 := ⟨⟨Try.t122, _, Try.type122, rfl, rfl, rfl, rfl, rfl⟩, ⟨_, Try.underlying122, rfl⟩⟩
theorem qxv : TyOk Try.prog 124 (Ty.kd (.pr (.sl .byte) .bool)) 32 := ⟨⟨Try.t124, _, Try.type124, rfl, rfl, rfl, rfl, rfl⟩, ⟨_, Try.underlying124, rfl⟩⟩
theorem qxw : TyOk Try.prog 125 (Ty.kd (.pr (.sl .byte) .bool)) 32 := ⟨⟨Try.t125, _, Try.type125, rfl, rfl, rfl, rfl, rfl⟩, ⟨_, Try.underlying125, rfl⟩⟩
theorem qxx : TyOk Try.prog 126 (Ty.kd (.st (.pr (.sl .byte) .bool))) 32 := ⟨⟨Try.t126, _, Try.type126, rfl, rfl, rfl, rfl, rfl⟩, ⟨_, Try.underlying126, rfl⟩⟩
theorem qxy : TyOk Try.prog 127 (Ty.kd (.st (.pr (.sl .byte) .bool))) 32 := ⟨⟨Try.t127, _, Try.type127, rfl, rfl, rfl, rfl, rfl⟩, ⟨_, Try.underlying127, rfl⟩⟩
theorem qxz : TyOk Try.prog 130 (Ty.kd (.hpt)) 8 := ⟨⟨Try.t130, _, Try.type130, rfl, rfl, rfl, rfl, rfl⟩, ⟨_, Try.underlying130, rfl⟩⟩
theorem qwu : TyOk Try.prog 130 (Ty.kd (.ptr (.pr (.sl .byte) .bool))) 8 := ⟨⟨Try.t130, _, Try.type130, rfl, rfl, rfl, rfl, rfl⟩, ⟨_, Try.underlying130, rfl⟩⟩
theorem qxA : TyOk Try.prog 145 (Ty.kd (.pr (.arr 32 .byte) (.sl .byte))) 56 := ⟨⟨Try.t145, _, Try.type145, rfl, rfl, rfl, rfl, rfl⟩, ⟨_, Try.underlying145, rfl⟩⟩
theorem qxB : TyOk Try.prog 146 (Ty.kd (.pr (.arr 32 .byte) (.sl .byte))) 56 := ⟨⟨Try.t146, _, Try.type146, rfl, rfl, rfl, rfl, rfl⟩, ⟨_, Try.underlying146, rfl⟩⟩
theorem qxC : TyOk Try.prog 161 (Ty.kd (.pr (.arr 32 .byte) .str)) 48 := ⟨⟨Try.t161, _, Try.type161, rfl, rfl, rfl, rfl, rfl⟩, ⟨_, Try.underlying161, rfl⟩⟩
theorem qxD : TyOk Try.prog 162 (Ty.kd (.pr (.arr 32 .byte) .str)) 48 := ⟨⟨Try.t162, _, Try.type162, rfl, rfl, rfl, rfl, rfl⟩, ⟨_, Try.underlying162, rfl⟩⟩
theorem qxE : TyOk Try.prog 166 (Ty.kd (.sl (.int .u64))) 24 := ⟨⟨Try.t166, _, Try.type166, rfl, rfl, rfl, rfl, rfl⟩, ⟨_, Try.underlying166, rfl⟩⟩
theorem qxF : TyOk Try.prog 175 (Ty.kd (.sl (.int .i64))) 24 := ⟨⟨Try.t175, _, Try.type175, rfl, rfl, rfl, rfl, rfl⟩, ⟨_, Try.underlying175, rfl⟩⟩
theorem qxG : TyOk Try.prog 180 (Ty.kd (.int .u64)) 8 := ⟨⟨Try.t180, _, Try.type180, rfl, rfl, rfl, rfl, rfl⟩, ⟨_, Try.underlying180, rfl⟩⟩
theorem qxH : TyOk Try.prog 182 (Ty.kd (.hpt)) 8 := ⟨⟨Try.t182, _, Try.type182, rfl, rfl, rfl, rfl, rfl⟩, ⟨_, Try.underlying182, rfl⟩⟩
theorem qww : TyOk Try.prog 182 (Ty.kd (.ptr (.pr (.sl (.pr (.arr 32 .byte) (.sl .byte))) .anm))) 8 := ⟨⟨Try.t182, _, Try.type182, rfl, rfl, rfl, rfl, rfl⟩, ⟨_, Try.underlying182, rfl⟩⟩
theorem qxI : TyOk Try.prog 186 (Ty.kd (.hpt)) 8 := ⟨⟨Try.t186, _, Try.type186, rfl, rfl, rfl, rfl, rfl⟩, ⟨_, Try.underlying186, rfl⟩⟩
theorem qwx : TyOk Try.prog 186 (Ty.kd (.ptr (.pr (.arr 8 (.int .u32)) (.pr (.int .u64) (.sl .byte))))) 8 := ⟨⟨Try.t186, _, Try.type186, rfl, rfl, rfl, rfl, rfl⟩, ⟨_, Try.underlying186, rfl⟩⟩
theorem qxJ : TyOk Try.prog 189 (Ty.kd (.int .u32)) 4 := ⟨⟨Try.t189, _, Try.type189, rfl, rfl, rfl, rfl, rfl⟩, ⟨_, Try.underlying189, rfl⟩⟩
theorem qxK : TyOk Try.prog 190 (Ty.kd (.sl (.int .u32))) 24 := ⟨⟨Try.t190, _, Try.type190, rfl, rfl, rfl, rfl, rfl⟩, ⟨_, Try.underlying190, rfl⟩⟩
theorem qxL : TyOk Try.prog 198 (Ty.kd (.arr 8 (.int .u32))) 32 := ⟨⟨Try.t198, _, Try.type198, rfl, rfl, rfl, rfl, rfl⟩, ⟨_, Try.underlying198, rfl⟩⟩
theorem qxM : TyOk Try.prog 199 (Ty.kd (.arr 8 (.int .u32))) 32 := ⟨⟨Try.t199, _, Try.type199, rfl, rfl, rfl, rfl, rfl⟩, ⟨_, Try.underlying199, rfl⟩⟩
theorem qxN : TyOk Try.prog 200 (Ty.kd (.pr (.arr 8 (.int .u32)) (.pr (.int .u64) (.sl .byte)))) 64 := ⟨⟨Try.t200, _, Try.type200, rfl, rfl, rfl, rfl, rfl⟩, ⟨_, Try.underlying200, rfl⟩⟩
theorem qxO : TyOk Try.prog 201 (Ty.kd (.pr (.arr 8 (.int .u32)) (.pr (.int .u64) (.sl .byte)))) 64 := ⟨⟨Try.t201, _, Try.type201, rfl, rfl, rfl, rfl, rfl⟩, ⟨_, Try.underlying201, rfl⟩⟩
theorem qxP : TyOk Try.prog 212 (Ty.kd (.hpt)) 8 := ⟨⟨Try.t212, _, Try.type212, rfl, rfl, rfl, rfl, rfl⟩, ⟨_, Try.underlying212, rfl⟩⟩
theorem qwy : TyOk Try.prog 212 (Ty.kd (.ptr (.arr 8 (.int .u32)))) 8 := ⟨⟨Try.t212, _, Try.type212, rfl, rfl, rfl, rfl, rfl⟩, ⟨_, Try.underlying212, rfl⟩⟩
theorem qxQ : TyOk Try.prog 213 (Ty.kd (.arr 64 (.int .u32))) 256 := ⟨⟨Try.t213, _, Try.type213, rfl, rfl, rfl, rfl, rfl⟩, ⟨_, Try.underlying213, rfl⟩⟩
theorem qxR : TyOk Try.prog 225 (Ty.kd (.hpt)) 8 := ⟨⟨Try.t225, _, Try.type225, rfl, rfl, rfl, rfl, rfl⟩, ⟨_, Try.underlying225, rfl⟩⟩
theorem qwz : TyOk Try.prog 225 (Ty.kd (.ptr (.int .u8))) 8 := ⟨⟨Try.t225, _, Try.type225, rfl, rfl, rfl, rfl, rfl⟩, ⟨_, Try.underlying225, rfl⟩⟩
theorem qxY : TyOk Try.prog 61 (Ty.kd (.hsl 82 (.pr (.int .i64) (.pr (.pr (.sl .byte) (.sl .byte)) (.sl (.arr 32 .byte)))))) 24 := ⟨⟨Try.t61, _, Try.type61, rfl, rfl, rfl, rfl, rfl⟩, ⟨_, Try.underlying61, rfl⟩⟩
theorem qxZ : TyOk Try.prog 63 (Ty.kd (.pr (.int .i64) (.hsl 82 (.pr (.int .i64) (.pr (.pr (.sl .byte) (.sl .byte)) (.sl (.arr 32 .byte))))))) 32 := ⟨⟨Try.t63, _, Try.type63, rfl, rfl, rfl, rfl, rfl⟩, ⟨_, Try.underlying63, rfl⟩⟩
theorem qx0 : TyOk Try.prog 80 (Ty.kd (.hsl 24 (.arr 32 .byte))) 24 := ⟨⟨Try.t80, _, Try.type80, rfl, rfl, rfl, rfl, rfl⟩, ⟨_, Try.underlying80, rfl⟩⟩
theorem qx1 : TyOk Try.prog 82 (Ty.kd (.pr (.int .i64) (.pr (.pr (.sl .byte) (.sl .byte)) (.hsl 24 (.arr 32 .byte))))) 80 := ⟨⟨Try.t82, _, Try.type82, rfl, rfl, rfl, rfl, rfl⟩, ⟨_, Try.underlying82, rfl⟩⟩
theorem qwv : TyOk Try.prog 175 (Ty.kd (.hsl 3 (.int .i64))) 24 := ⟨⟨Try.t175, _, Try.type175, rfl, rfl, rfl, rfl, rfl⟩, ⟨_, Try.underlying175, rfl⟩⟩
def tab : List (Nat × Bool × Ty × Nat) := [(2, false, .int .i64, 8), (3, false, .int .i64, 8), (4, false, .bool, 1), (5, false, .int .u8, 1), (5, true, .byte, 1), (9, false, .str, 16), (12, false, .int .u64, 8), (13, false, .pr .str (.int .u64), 24), (21, false, .int .i32, 4), (22, false, .sl .str, 24), (23, false, .int .u64, 8), (24, false, .arr 32 .byte, 32), (25, false, .pr (.int .u64) (.pr (.arr 32 .byte) (.pr (.arr 32 .byte) (.pr (.arr 32 .byte) (.pr (.arr 32 .byte) (.arr 32 .byte))))), 168), (26, false, .pr (.int .u64) (.pr (.arr 32 .byte) (.pr (.arr 32 .byte) (.pr (.arr 32 .byte) (.pr (.arr 32 .byte) (.arr 32 .byte))))), 168), (27, false, .pr (.arr 32 .byte) (.pr (.arr 32 .byte) (.arr 32 .byte)), 96), (28, false, .pr (.arr 32 .byte) (.pr (.arr 32 .byte) (.arr 32 .byte)), 96), (32, false, .sl .byte, 24), (35, false, .hpt, 8), (35, true, .ptr (.pr (.pr (.sl (.pr (.arr 32 .byte) (.sl .byte))) .anm) (.int .i64)), 8), (36, false, .sl (.pr (.arr 32 .byte) (.sl .byte)), 24), (38, false, .pr (.sl (.pr (.arr 32 .byte) (.sl .byte))) (.hmp (.arr 32 .byte) (.int .i64)), 32), (38, true, .pr (.sl (.pr (.arr 32 .byte) (.sl .byte))) .anm, 32), (39, false, .pr (.hsl 146 (.pr (.arr 32 .byte) (.sl .byte))) (.hmp (.arr 32 .byte) (.int .i64)), 32), (39, true, .pr (.sl (.pr (.arr 32 .byte) (.sl .byte))) .anm, 32), (40, false, .pr (.pr (.hsl 146 (.pr (.arr 32 .byte) (.sl .byte))) (.hmp (.arr 32 .byte) (.int .i64))) (.int .i64), 40), (40, true, .pr (.pr (.sl (.pr (.arr 32 .byte) (.sl .byte))) .anm) (.int .i64), 40), (41, false, .pr (.pr (.hsl 146 (.pr (.arr 32 .byte) (.sl .byte))) (.hmp (.arr 32 .byte) (.int .i64))) (.int .i64), 40), (41, true, .pr (.pr (.sl (.pr (.arr 32 .byte) (.sl .byte))) .anm) (.int .i64), 40), (46, false, .hpt, 8), (46, true, .ptr (.st (.pr (.sl .byte) .bool)), 8), (49, false, .int .i64, 8), (53, false, .sl (.pr (.sl .byte) (.sl .byte)), 24), (56, false, .pr (.sl .byte) (.sl .byte), 48), (57, false, .pr (.sl .byte) (.sl .byte), 48), (61, false, .sl (.pr (.int .i64) (.pr (.pr (.sl .byte) (.sl .byte)) (.sl (.arr 32 .byte)))), 24), (62, false, .pr (.int .i64) (.sl (.pr (.int .i64) (.pr (.pr (.sl .byte) (.sl .byte)) (.sl (.arr 32 .byte))))), 32), (63, false, .pr (.int .i64) (.sl (.pr (.int .i64) (.pr (.pr (.sl .byte) (.sl .byte)) (.sl (.arr 32 .byte))))), 32), (80, false, .sl (.arr 32 .byte), 24), (81, false, .pr (.int .i64) (.pr (.pr (.sl .byte) (.sl .byte)) (.sl (.arr 32 .byte))), 80), (82, false, .pr (.int .i64) (.pr (.pr (.sl .byte) (.sl .byte)) (.sl (.arr 32 .byte))), 80), (89, false, .sl (.pr (.int .i64) (.pr (.int .i64) (.pr (.sl (.sl .byte)) (.pr (.arr 32 .byte) (.sl .byte))))), 24), (91, false, .hpt, 8), (91, true, .ptr (.pr (.sl (.pr (.arr 32 .byte) .str)) (.int .i64)), 8), (92, false, .sl (.pr (.arr 32 .byte) .str), 24), (93, false, .pr (.sl (.pr (.arr 32 .byte) .str)) (.int .i64), 32), (94, false, .pr (.sl (.pr (.arr 32 .byte) .str)) (.int .i64), 32), (96, false, .sl (.sl .byte), 24), (97, false, .pr (.int .i64) (.pr (.int .i64) (.pr (.sl (.sl .byte)) (.pr (.arr 32 .byte) (.sl .byte)))), 96), (98, false, .pr (.int .i64) (.pr (.int .i64) (.pr (.sl (.sl .byte)) (.pr (.arr 32 .byte) (.sl .byte)))), 96), (107, false, .sl (.ptr (.pr (.pr (.sl (.pr (.arr 32 .byte) (.sl .byte))) .anm) (.int .i64))), 24), (115, false, .hpt, 8), (115, true, .ptr (.arr 32 .byte), 8), (116, false, .arr 5 (.ptr (.arr 32 .byte)), 40), (118, false, .hpt, 8), (118, true, .ptr (.pr (.int .u64) (.pr (.arr 32 .byte) (.pr (.arr 32 .byte) (.pr (.arr 32 .byte) (.pr (.arr 32 .byte) (.arr 32 .byte)))))), 8), (121, false, .pr (.pr (.int .u64) (.pr (.arr 32 .byte) (.pr (.arr 32 .byte) (.pr (.arr 32 .byte) (.pr (.arr 32 .byte) (.arr 32 .byte)))))) (.arr 32 .byte), 200), (122, false, .pr (.pr (.int .u64) (.pr (.arr 32 .byte) (.pr (.arr 32 .byte) (.pr (.arr 32 .byte) (.pr (.arr 32 .byte) (.arr 32 .byte)))))) (.arr 32 .byte), 200), (124, false, .pr (.sl .byte) .bool, 32), (125, false, .pr (.sl .byte) .bool, 32), (126, false, .st (.pr (.sl .byte) .bool), 32), (127, false, .st (.pr (.sl .byte) .bool), 32), (130, false, .hpt, 8), (130, true, .ptr (.pr (.sl .byte) .bool), 8), (145, false, .pr (.arr 32 .byte) (.sl .byte), 56), (146, false, .pr (.arr 32 .byte) (.sl .byte), 56), (161, false, .pr (.arr 32 .byte) .str, 48), (162, false, .pr (.arr 32 .byte) .str, 48), (166, false, .sl (.int .u64), 24), (175, false, .sl (.int .i64), 24), (180, false, .int .u64, 8), (182, false, .hpt, 8), (182, true, .ptr (.pr (.sl (.pr (.arr 32 .byte) (.sl .byte))) .anm), 8), (186, false, .hpt, 8), (186, true, .ptr (.pr (.arr 8 (.int .u32)) (.pr (.int .u64) (.sl .byte))), 8), (189, false, .int .u32, 4), (190, false, .sl (.int .u32), 24), (198, false, .arr 8 (.int .u32), 32), (199, false, .arr 8 (.int .u32), 32), (200, false, .pr (.arr 8 (.int .u32)) (.pr (.int .u64) (.sl .byte)), 64), (201, false, .pr (.arr 8 (.int .u32)) (.pr (.int .u64) (.sl .byte)), 64), (212, false, .hpt, 8), (212, true, .ptr (.arr 8 (.int .u32)), 8), (213, false, .arr 64 (.int .u32), 256), (225, false, .hpt, 8), (225, true, .ptr (.int .u8), 8), (61, false, .hsl 82 (.pr (.int .i64) (.pr (.pr (.sl .byte) (.sl .byte)) (.sl (.arr 32 .byte)))), 24), (63, false, .pr (.int .i64) (.hsl 82 (.pr (.int .i64) (.pr (.pr (.sl .byte) (.sl .byte)) (.sl (.arr 32 .byte))))), 32), (80, false, .hsl 24 (.arr 32 .byte), 24), (82, false, .pr (.int .i64) (.pr (.pr (.sl .byte) (.sl .byte)) (.hsl 24 (.arr 32 .byte))), 80), (175, false, .hsl 3 (.int .i64), 24)]
theorem qwq : qn2 Try.prog tab := ⟨tt2, tt3, tt4, tt5, tt5b, tt9, tt12, tt13, tt21, tt22, tt23, tt24, tt25, tt26, tt27, tt28, tt32, tt35, qxS, tt36, tt38, qxT, tt39, qxU, tt40, qxV, tt41, qxW, tt46, qxX, tt49, tt53, tt56, tt57, tt61, tt62, tt63, tt80, tt81, tt82, tt89, tt91, qx2, tt92, tt93, tt94, tt96, tt97, tt98, qxp, qxq, qws, qxr, qxs, qwt, qxt, qxu, qxv, qxw, qxx, qxy, qxz, qwu, qxA, qxB, qxC, qxD, qxE, qxF, qxG, qxH, qww, qxI, qwx, qxJ, qxK, qxL, qxM, qxN, qxO, qxP, qwy, qxQ, qxR, qwz, qxY, qxZ, qx0, qx1, qwv, trivial⟩
def eqs : List (Nat × Ty × Nat) := [(24, .arr 32 .byte, 2), (26, .pr (.int .u64) (.pr (.arr 32 .byte) (.pr (.arr 32 .byte) (.pr (.arr 32 .byte) (.pr (.arr 32 .byte) (.arr 32 .byte))))), 3), (28, .pr (.arr 32 .byte) (.pr (.arr 32 .byte) (.arr 32 .byte)), 3), (122, .pr (.pr (.int .u64) (.pr (.arr 32 .byte) (.pr (.arr 32 .byte) (.pr (.arr 32 .byte) (.pr (.arr 32 .byte) (.arr 32 .byte)))))) (.arr 32 .byte), 4)]
theorem qxh : EqT Try.prog 24 (.arr 32 .byte) 2 := (qbv Try.underlying24 Try.underlying5 (tt5b))
theorem qxi : EqT Try.prog 26 (.pr (.int .u64) (.pr (.arr 32 .byte) (.pr (.arr 32 .byte) (.pr (.arr 32 .byte) (.pr (.arr 32 .byte) (.arr 32 .byte)))))) 3 := (qdS Try.underlying26 (by kernel_rfl) rfl (qaX (tt23) rfl (by decide) (EqT.more (m' := 2) (qoA Try.underlying23) rfl) (qaX (tt24) rfl (by decide) (EqT.more (m' := 2) (qbv Try.underlying24 Try.underlying5 (tt5b)) rfl) (qaX (tt24) rfl (by decide) (EqT.more (m' := 2) (qbv Try.underlying24 Try.underlying5 (tt5b)) rfl) (qaX (tt24) rfl (by decide) (EqT.more (m' := 2) (qbv Try.underlying24 Try.underlying5 (tt5b)) rfl) (qaX (tt24) rfl (by decide) (EqT.more (m' := 2) (qbv Try.underlying24 Try.underlying5 (tt5b)) rfl) (qf8 (tt24) rfl (by decide) (EqT.more (m' := 2) (qbv Try.underlying24 Try.underlying5 (tt5b)) rfl))))))))
theorem qxj : EqT Try.prog 28 (.pr (.arr 32 .byte) (.pr (.arr 32 .byte) (.arr 32 .byte))) 3 := (qdS Try.underlying28 (by kernel_rfl) rfl (qaX (tt24) rfl (by decide) (EqT.more (m' := 2) (qbv Try.underlying24 Try.underlying5 (tt5b)) rfl) (qaX (tt24) rfl (by decide) (EqT.more (m' := 2) (qbv Try.underlying24 Try.underlying5 (tt5b)) rfl) (qf8 (tt24) rfl (by decide) (EqT.more (m' := 2) (qbv Try.underlying24 Try.underlying5 (tt5b)) rfl)))))
theorem qv9 : EqT Try.prog 122 (.pr (.pr (.int .u64) (.pr (.arr 32 .byte) (.pr (.arr 32 .byte) (.pr (.arr 32 .byte) (.pr (.arr 32 .byte) (.arr 32 .byte)))))) (.arr 32 .byte)) 4 := (qdS Try.underlying122 (by kernel_rfl) rfl (qaX (tt26) rfl (by decide) (EqT.more (m' := 3) (qdS Try.underlying26 (by kernel_rfl) rfl (qaX (tt23) rfl (by decide) (EqT.more (m' := 2) (qoA Try.underlying23) rfl) (qaX (tt24) rfl (by decide) (EqT.more (m' := 2) (qbv Try.underlying24 Try.underlying5 (tt5b)) rfl) (qaX (tt24) rfl (by decide) (EqT.more (m' := 2) (qbv Try.underlying24 Try.underlying5 (tt5b)) rfl) (qaX (tt24) rfl (by decide) (EqT.more (m' := 2) (qbv Try.underlying24 Try.underlying5 (tt5b)) rfl) (qaX (tt24) rfl (by decide) (EqT.more (m' := 2) (qbv Try.underlying24 Try.underlying5 (tt5b)) rfl) (qf8 (tt24) rfl (by decide) (EqT.more (m' := 2) (qbv Try.underlying24 Try.underlying5 (tt5b)) rfl)))))))) rfl) (qf8 (tt24) rfl (by decide) (EqT.more (m' := 3) (qbv Try.underlying24 Try.underlying5 (tt5b)) rfl))))
theorem qwa : qnp Try.prog eqs := ⟨qxh, qxi, qxj, qv9, trivial⟩
def fns : List Nat := [2, 3, 4, 5, 6, 7, 8, 9, 10, 11, 12, 13, 14, 15, 16, 17, 18, 19, 20, 21, 22, 23, 24, 25, 26, 27, 28, 29, 30, 31, 32, 33, 34, 35, 36, 37, 38, 39, 40, 41, 42, 43, 44, 45, 46, 47, 48, 49, 50, 51, 52, 53, 54, 55, 56, 57, 58, 59, 60, 61, 62, 63, 64, 65, 66, 67, 68, 69, 70, 71, 72, 73, 74, 75, 76, 77, 78, 79, 80, 81, 82, 83, 84, 85, 86, 87, 88, 89, 90, 91, 92, 93, 94, 95, 96, 97, 98, 99, 100, 101, 102, 103, 104, 105, 106, 107, 108, 109, 110, 111, 112, 113, 115, 116, 117, 118, 119, 120, 121, 122, 123, 124, 125, 126, 127, 128, 129, 130, 131, 132, 133, 134, 135, 136, 137, 138, 139, 140, 141, 142, 143, 144, 145, 146, 147, 148]
theorem qas : qmB Try.prog fns := ⟨Try.call2, Try.call3, Try.call4, Try.call5, Try.call6, Try.call7, Try.call8, Try.call9, Try.call10, Try.call11, Try.call12, Try.call13, Try.call14, Try.call15, Try.call16, Try.call17, Try.call18, Try.call19, Try.call20, Try.call21, Try.call22, Try.call23, Try.call24, Try.call25, Try.call26, Try.call27, Try.call28, Try.call29, Try.call30, Try.call31, Try.call32, Try.call33, Try.call34, Try.call35, Try.call36, Try.call37, Try.call38, Try.call39, Try.call40, Try.call41, Try.call42, Try.call43, Try.call44, Try.call45, Try.call46, Try.call47, Try.call48, Try.call49, Try.call50, Try.call51, Try.call52, Try.call53, Try.call54, Try.call55, Try.call56, Try.call57, Try.call58, Try.call59, Try.call60, Try.call61, Try.call62, Try.call63, Try.call64, Try.call65, Try.call66, Try.call67, Try.call68, Try.call69, Try.call70, Try.call71, Try.call72, Try.call73, Try.call74, Try.call75, Try.call76, Try.call77, Try.call78, Try.call79, Try.call80, Try.call81, Try.call82, Try.call83, Try.call84, Try.call85, Try.call86, Try.call87, Try.call88, Try.call89, Try.call90, Try.call91, Try.call92, Try.call93, Try.call94, Try.call95, Try.call96, Try.call97, Try.call98, Try.call99, Try.call100, Try.call101, Try.call102, Try.call103, Try.call104, Try.call105, Try.call106, Try.call107, Try.call108, Try.call109, Try.call110, Try.call111, Try.call112, Try.call113, Try.call115, Try.call116, Try.call117, Try.call118, Try.call119, Try.call120, Try.call121, Try.call122, Try.call123, Try.call124, Try.call125, Try.call126, Try.call127, Try.call128, Try.call129, Try.call130, Try.call131, Try.call132, Try.call133, Try.call134, Try.call135, Try.call136, Try.call137, Try.call138, Try.call139, Try.call140, Try.call141, Try.call142, Try.call143, Try.call144, Try.call145, Try.call146, Try.call147, Try.call148, trivial⟩
noncomputable def seat : Seat := ⟨Try.prog, tab, eqs, []⟩
theorem qal : seat.ok := ⟨qwq.all, qwa.all⟩
def bkT : Bk := ⟨41, 146, 40⟩
theorem qar : TyOk Try.prog bkT.t qeF bkT.bytes := ⟨⟨Try.t41, _, Try.type41, rfl, rfl, rfl, rfl, rfl⟩, ⟨_, Try.underlying41, rfl⟩⟩
end Go.Proofs.Ytmjjkpiglbpkhaa

set_option linter.unusedVariables false
set_option maxRecDepth 100000
set_option maxHeartbeats 2000000
namespace Go.Proofs.Ytmjjkpiglbpkhaa
open Go Go.RowKit Go.Inc
noncomputable def qp3 : Ctr := ⟨[.v (.sl .byte), .v (.sl .byte)], [.v (.int .i64)], none, fun a => (fun (a0_a : List UInt8) (a1_b : List UInt8) => (((cmpB a0_a a1_b), ()), (()))) a.1 a.2.1⟩
theorem qsW : qp3.valid Try.prog 75 := br_v (fun _ => rfl) (fun _ => rfl) fun a hp θ vs w K hM hv => by
 obtain ⟨v, vs, rfl, h1, u, vs', rfl, h2, h3⟩ := hv
 have h3' : vs' = [] := h3
 subst h3'
 have h1 := qdk (t := .sl .byte) h1 rfl
 have h2 := qdk (t := .sl .byte) h2 rfl
 refine qbr fun R hR => ?_
 refine qaW (args := [v, u]) Try.func75 rfl (Nat.le_of_ble_eq_true rfl) ?_
 refine qao (qag (qaa (.int .i64 0) (R_as rfl) rfl rfl (qay ?_)))
 refine qao (qag (qaa v (R_mv rfl) rfl rfl (qaa u (R_mv rfl) rfl rfl ?_)))
 refine qaa (.int .i64 (cmpB a.1 a.2.1)) (qwJ Try.func114 (by kernel_rfl) (by kernel_rfl) (by kernel_rfl) (by kernel_rfl) hM rfl rfl h1 h2) rfl rfl ?_
 refine qaa (.int .i64 (cmpB a.1 a.2.1)) (R_as rfl) rfl rfl (qay ?_)
 refine qcv ?_
 refine qbE hR (v := .int .i64 (cmpB a.1 a.2.1)) (qd7 rfl rfl) ⟨K, [.int .i64 (cmpB a.1 a.2.1)], rfl, Ext.refl _ _ _, hM, ?_⟩
 refine ⟨_, [], rfl, ⟨rfl, ?_⟩, rfl⟩
 show (Kd.int .i64).wf (cmpB a.1 a.2.1)
 unfold cmpB
 split
 ·exact ⟨by decide, by decide⟩
 ·split <;> exact ⟨by decide, by decide⟩
end Go.Proofs.Ytmjjkpiglbpkhaa

set_option linter.unusedVariables false
namespace Go.Inc
open Go
theorem qug {l : List Pk} {i : Nat} (h : i < l.length) : ix (qaq l) (i : Int) = qbb l[i] := by
 rw [ixN (by rw [qa4]; exact h)]
 simp [qaq]
theorem qc2 {l : List Pk} {i : Nat} (h : i < l.length) : qdr (l.length : Int) (qdE l i).1 (qdE l i).2.2 = true ∧ qbA (l.length : Int) (qdE l i).1 (qbb (qdE l i).2.1) (qdE l i).2.2 = qaK (qaq l) := by
 have hr : (0 : Int) ≤ (i : Int) ∧ (i : Int) < ((qaq l).length : Int) := by rw [qa4]; omega
 have h1 := qhL hr
 have h2 := qmZ hr
 rw [qa4] at h1 h2
 rw [qug h] at h2
 refine ⟨h1, ?_⟩
 show qbA (l.length : Int) (i : Int) (qbb (ix l (i : Int))) (qbJ (qaq l) (i : Int)) = _
 rw [ixN h]
 exact h2
theorem qkS {l : List Pk} {key : By} (hm : mayK l = true) : isK l key = true ↔ ∃ (i : Nat) (h : i < l.length), l[i].1 = key := by
 unfold isK
 simp only [Bool.and_eq_true, decide_eq_true_eq]
 refine ⟨fun ⟨h1, h2⟩ => ⟨_, h1, by rw [ixN h1] at h2; exact h2⟩, fun ⟨i, h, he⟩ => ?_⟩
 have e : lowK l key = i := qiN (Nat.le_of_lt h) (fun t ht hti => by rw [← he]; exact qel ht h hm hti) (fun _ => by rw [he]; exact qco key)
 refine ⟨by rw [e]; exact h, ?_⟩
 simp only [e]
 rw [ixN h]
 exact he
theorem qkO {n : Int} {x : Sp} {t r : Sm} (h1 : qdr n x.1 x.2.2 = true) (h2 : qbA n x.1 (qbb x.2.1) x.2.2 = r) : goK n true [x] t = some r := by
 rw [goK, if_pos ⟨h1, .inl rfl⟩, h2, goK]
theorem qt8 {n : Int} {x y : Sp} {t r : Sm} (h1 : qdr n x.1 x.2.2 = true) (h2 : qbA n x.1 (qbb x.2.1) x.2.2 = r) (h3 : qdr n y.1 y.2.2 = true) (h4 : qbA n y.1 (qbb y.2.1) y.2.2 = r) : goK n true [x, y] t = some r := by
 rw [goK, if_pos ⟨h1, .inl rfl⟩, h2, goK, if_pos ⟨h3, .inr h4⟩, h4, goK]
theorem qm7 {l : List Pk} {key : By} (hm : mayK l = true) : qf2 (qa8 l) key (qaF l key) = some (isK l key) ∧ (isK l key = true → ix (qaF l key).2 0 = qdE l (lowK l key)) := by
 have hle := qkX l key
 have fin : ∀ (L : List Sp) (b : Bool), qf3 key ((l.length : Int), L) = (b, true) → goK (l.length : Int) true L (begK (l.length : Int)) = some (qaK (qaq l)) → qf2 (qa8 l) key ((l.length : Int), L) = some b := fun L b h1 h2 => by
  unfold qf2
  rw [h1, if_pos ⟨rfl, Int.natCast_nonneg _⟩, h2]
  show (if qcr (l.length : Int) (qaK (qaq l)) = qa8 l then some b else none) = some b
  rw [if_pos (show qcr (l.length : Int) (qaK (qaq l)) = qa8 l from rfl)]
 have eshow : qaF l key = ((l.length : Int), (List.range' (qbs l key) (toK l key - qbs l key)).map (qdE l)) := by unfold qaF; rw [if_pos hm]
 rw [eshow]
 cases hi : isK l key with
 | true =>
   have hi' := hi
   unfold isK at hi'
   simp only [Bool.and_eq_true, decide_eq_true_eq] at hi'
   obtain ⟨hp, hk⟩ := hi'
   have e1 : qbs l key = lowK l key := by unfold qbs; rw [if_pos hi]
   have e2 : toK l key - qbs l key = 1 := by rw [e1]; unfold toK; omega
   rw [e2, e1]
   obtain ⟨s1, s2⟩ := qc2 hp
   refine ⟨fin _ _ ?_ (qkO s1 s2), fun _ => rfl⟩
   have hc : cmpB key (ix l (lowK l key : Int)).1 = 0 := qon.2 hk.symm
   exact Prod.ext (decide_eq_true hc) (decide_eq_true (.inl hc))
 | false =>
   refine ⟨?_, fun h => by cases h⟩
   have e1 : qbs l key = lowK l key - 1 := by unfold qbs; rw [hi]; rfl
   have hne : ∀ h : lowK l key < l.length, l[lowK l key].1 ≠ key := fun h he => by
    have : isK l key = true := (qkS hm).2 ⟨_, h, he⟩
    rw [hi] at this; cases this
   rcases Nat.eq_zero_or_pos l.length with h0 | h0
   ·have e0 : l = [] := List.length_eq_zero_iff.1 h0
    subst e0
    exact fin [] false rfl rfl
   rcases Nat.eq_zero_or_pos (lowK l key) with hz | hz
   ·have e2 : toK l key - qbs l key = 1 := by rw [e1]; unfold toK; omega
    rw [e2, e1, hz]
    obtain ⟨s1, s2⟩ := qc2 (l := l) (i := 0) h0
    refine fin _ _ ?_ (qkO s1 s2)
    have hs : sless key l[0].1 = true := by
     have h1 := qkW (l := l) (key := key) (by omega)
     have h2 := hne (by omega)
     simp only [hz] at h1 h2
     exact qeP h1 h2
    have hc : cmpB key l[0].1 < 0 := qed.2 hs
    refine Prod.ext (decide_eq_false ?_) (decide_eq_true (.inr (.inl ⟨?_, rfl⟩)))
    ·show ¬ cmpB key (ix l ((0 : Nat) : Int)).1 = 0
     rw [ixN h0]
     omega
    ·show cmpB key (ix l ((0 : Nat) : Int)).1 < 0
     rw [ixN h0]
     exact hc
   rcases Nat.lt_or_ge (lowK l key) l.length with hp | hp
   ·have e2 : toK l key - qbs l key = 2 := by rw [e1]; unfold toK; omega
    rw [e2, e1]
    obtain ⟨s1, s2⟩ := qc2 (l := l) (i := lowK l key - 1) (by omega)
    obtain ⟨s3, s4⟩ := qc2 (l := l) (i := lowK l key) hp
    have ea : (List.range' (lowK l key - 1) 2).map (qdE l) = [qdE l (lowK l key - 1), qdE l (lowK l key)] := by
     simp only [List.range', List.map_cons, List.map_nil]
     rw [show lowK l key - 1 + 1 = lowK l key from by omega]
    rw [ea]
    refine fin _ _ ?_ (qt8 s1 s2 s3 s4)
    have ha : sless l[lowK l key - 1].1 key = true := qkY (l := l) (by omega) (by omega)
    have hb : sless key l[lowK l key].1 = true := qeP (qkW hp) (hne hp)
    refine Prod.ext rfl (decide_eq_true ⟨?_, ?_, ?_, ?_, ?_⟩)
    ·show (0 : Int) ≤ ((lowK l key - 1 : Nat) : Int); omega
    ·show ((lowK l key - 1 : Nat) : Int) < (lowK l key : Int); omega
    ·show (lowK l key : Int) - ((lowK l key - 1 : Nat) : Int) = 1; omega
    ·show cmpB (ix l ((lowK l key - 1 : Nat) : Int)).1 key < 0
     rw [ixN (by omega)]
     exact qed.2 ha
    ·show cmpB key (ix l (lowK l key : Int)).1 < 0
     rw [ixN hp]
     exact qed.2 hb
   ·have ep : lowK l key = l.length := by omega
    have e2 : toK l key - qbs l key = 1 := by rw [e1]; unfold toK; omega
    rw [e2, e1, ep]
    obtain ⟨s1, s2⟩ := qc2 (l := l) (i := l.length - 1) (by omega)
    refine fin _ _ ?_ (qkO s1 s2)
    have ha : sless l[l.length - 1].1 key = true := qkY (l := l) (by omega) (by omega)
    have hc : 0 < cmpB key l[l.length - 1].1 := qtW.2 ha
    refine Prod.ext (decide_eq_false ?_) (decide_eq_true (.inr (.inr ⟨?_, ?_⟩)))
    ·show ¬ cmpB key (ix l ((l.length - 1 : Nat) : Int)).1 = 0
     rw [ixN (by omega)]
     omega
    ·show 0 < cmpB key (ix l ((l.length - 1 : Nat) : Int)).1
     rw [ixN (by omega)]
     exact hc
    ·show ((l.length - 1 : Nat) : Int) = (l.length : Int) - 1; omega
def qaU (b : qan) (l : List Pk) : qan := l.foldl (fun b p => qaG b 4 [p.1, p.2]) b
def qk6 (b : qan) (l : List Pk) : qan := qaG (qaT (qaU b l) (qaq l)) 5 [numB l.length, qaK (qaq l)]
theorem bkIn.leaves : ∀ {l : List Pk} {N : List Nt} {b : qan}, bkIn N (qaU b l) → bkIn N b
 | [], N, b, h => h
 | p :: l, N, b, h => (bkIn.leaves (l := l) h).of
theorem bkIn.leaf : ∀ {l : List Pk} {N : List Nt} {b : qan}, b.isSome = true → bkIn N (qaU b l) → ∀ p ∈ l, (qbb p, preimage 4 [p.1, p.2]) ∈ N
 | [], N, b, hb, h, p, hp => by cases hp
 | q :: l, N, b, hb, h, p, hp => by
   rcases List.mem_cons.1 hp with rfl | hp
   ·exact (bkIn.leaves (l := l) h).node hb
   ·exact bkIn.leaf (l := l) (qip hb) h p hp
theorem qd9.parts {N : List Nt} (hN : qd9 N) {k : Int} {a b : List By} (h1 : (qaw k a, preimage k a) ∈ N) (h2 : (qaw k b, preimage k b) ∈ N) (he : qaw k a = qaw k b) (ha : ∀ x ∈ a, x.length < 2 ^ 64) (hb : ∀ x ∈ b, x.length < 2 ^ 64) : a = b := by
 rw [he] at h1
 exact ((qfW ha hb).1 (hN _ _ _ h1 h2)).2
theorem bkIn.foldK : ∀ {A : List Int} {P : List Sm} {s : Sm} {x : qan} {N : List Nt}, bkIn N (foldK A P s x) → bkIn N x
 | [], P, s, x, N, h => by simpa [Go.Inc.foldK] using h
 | _ :: _, [], s, x, N, h => by simpa [Go.Inc.foldK] using h
 | a :: A, p :: P, s, x, N, h => by
   simp only [Go.Inc.foldK] at h
   have := bkIn.foldK h
   split at this
   ·exact this.of
   ·exact this.of
theorem bkIn.leadK {n a : Int} {P : List Sm} {s : Sm} {x : qan} {N : List Nt} (h : bkIn N (leadK x n a s P)) : bkIn N x := by
 unfold Go.Inc.leadK at h
 split at h
 ·exact h.foldK
 ·exact h
theorem bkIn.go : ∀ {l : List Sp} {n : Int} {f : Bool} {t : Sm} {b : qan} {N : List Nt}, bkIn N (goBk n f l t b) → bkIn N b
 | [], n, f, t, b, N, h => by simpa [goBk] using h
 | x :: l, n, f, t, b, N, h => by
   simp only [goBk] at h
   split at h
   ·exact (bkIn.leadK (bkIn.go (l := l) h)).of
   ·exact (bkIn.leadK h).of
theorem qwe {l : List Pk} {key : By} (hm : mayK l = true) (h : ∀ (i : Nat) (h : i < l.length), l[i].1 ≠ key) : isK l key = false := by
 cases hi : isK l key with
 | false => rfl
 | true =>
   obtain ⟨i, hi1, hi2⟩ := (qkS hm).1 hi
   exact absurd hi2 (h i hi1)
theorem qwd {l : List Pk} {key : By} (hm : mayK l = true) {i : Nat} (h : i < l.length) (he : l[i].1 = key) : isK l key = true ∧ lowK l key = i :=
 ⟨(qkS hm).2 ⟨i, h, he⟩, qiN (Nat.le_of_lt h) (fun t ht hti => by rw [← he]; exact qel ht h hm hti) (fun _ => by rw [he]; exact qco key)⟩
end Go.Inc

set_option linter.unusedVariables false
namespace Go.Inc
open Go
def szW (x : Sp) : Int := min (x.2.1.1.length : Int) 200000 + min (x.2.1.2.length : Int) 200000 + 1000 * min (x.2.2.length : Int) 200
theorem qk8 (p : Sp) : 0 ≤ szW p := by unfold szW; omega
def totI (l : List Int) : Int := l.foldl (· + ·) 0
theorem qi5 : ∀ (l : List Int) (a : Int), l.foldl (· + ·) a = a + totI l
 | [], a => by simp [totI]
 | x :: l, a => by
   rw [List.foldl_cons, qi5 l (a + x)]
   show a + x + totI l = a + (x :: l).foldl (· + ·) 0
   rw [List.foldl_cons, qi5 l (0 + x)]
   omega
theorem qc4 (x : Int) (l : List Int) : totI (x :: l) = x + totI l := by
 show (x :: l).foldl (· + ·) 0 = _
 rw [List.foldl_cons, qi5]
 omega
theorem qj1 : ∀ {l : List Int} {i : Nat} (h : i < l.length), totI (l.take (i + 1)) = totI (l.take i) + l[i]
 | x :: l, 0, h => by simp [totI]
 | x :: l, i + 1, h => by
   rw [List.take_succ_cons, List.take_succ_cons, qc4, qc4, qj1 (l := l) (by simpa using h), List.getElem_cons_succ]
   omega
theorem qi6 : ∀ {l : List Int}, (∀ x ∈ l, 0 ≤ x) → 0 ≤ totI l
 | [], h => by simp [totI]
 | x :: l, h => by
   rw [qc4]
   have := h x (by simp)
   have := qi6 (l := l) (fun y hy => h y (by simp [hy]))
   omega
theorem qfX : ∀ {l : List Int} (i : Nat), (∀ x ∈ l, 0 ≤ x) → totI (l.take i) ≤ totI l
 | [], i, h => by simp
 | x :: l, 0, h => by
   have := qi6 h
   simpa [totI] using this
 | x :: l, i + 1, h => by
   rw [List.take_succ_cons, qc4, qc4]
   have := qfX (l := l) i (fun y hy => h y (by simp [hy]))
   omega
theorem qmv : ∀ {l : List Int} {x : Int}, (∀ x ∈ l, 0 ≤ x) → x ∈ l → x ≤ totI l
 | y :: l, x, h, hx => by
   rw [qc4]
   have h1 := h y (by simp)
   have h2 := qi6 (l := l) (fun y hy => h y (by simp [hy]))
   rcases List.mem_cons.1 hx with rfl | hx
   ·omega
   ·have := qmv (l := l) (fun y hy => h y (by simp [hy])) hx
    omega
def qni (s : Sn) : Bool := decide (10 < s.2.length ∨ 100000 < totI (s.2.map szW))
theorem qr8 {s : Sn} (h : qni s = false) : s.2.length ≤ 10 ∧ ∀ x ∈ s.2, x.2.1.1.length + x.2.1.2.length ≤ 100000 ∧ x.2.2.length ≤ 100 := by
 have h := of_decide_eq_false h
 refine ⟨by omega, fun p hp => ?_⟩
 have h1 : szW p ≤ totI (s.2.map szW) := qmv (fun x hx => by obtain ⟨q, _, rfl⟩ := List.mem_map.1 hx; exact qk8 q) (List.mem_map_of_mem hp)
 have h2 : szW p = min (p.2.1.1.length : Int) 200000 + min (p.2.1.2.length : Int) 200000 + 1000 * min (p.2.2.length : Int) 200 := rfl
 omega
def qdn : List Pk → By → By × Bool
 | [], _ => ([], false)
 | p :: l, key => if p.1 = key then (p.2, true) else qdn l key
theorem qdF : ∀ {l : List Pk} {key : By} (i : Nat), (∀ (t : Nat) (h : t < l.length), t < i → l[t].1 ≠ key) → qdn (l.drop i) key = qdn l key
 | l, key, 0, h => by simp
 | [], key, i + 1, h => by simp
 | p :: l, key, i + 1, h => by
   have h0 : p.1 ≠ key := h 0 (by simp) (by omega)
   rw [List.drop_succ_cons, qdF i (fun t ht hti => h (t + 1) (by simpa using ht) (by omega))]
   show _ = if p.1 = key then _ else _
   rw [if_neg h0]
theorem qnc {l : List Pk} {key : By} (hm : mayK l = true) : qdn l key = (if isK l key then (ix l (lowK l key : Int)).2 else [], isK l key) := by
 by_cases h : ∃ (i : Nat) (h : i < l.length), l[i].1 = key
 ·obtain ⟨i, hi, he⟩ := h
  obtain ⟨h1, h2⟩ := qwd hm hi he
  rw [h1, h2, if_pos rfl, ixN hi]
  rw [← qdF i (fun t ht hti e => by
   have := qel ht hi hm hti
   rw [he, e, qco] at this
   cases this), List.drop_eq_getElem_cons hi]
  show (if l[i].1 = key then _ else _) = _
  rw [if_pos he]
 ·have h1 : isK l key = false := qwe hm fun i hi he => h ⟨i, hi, he⟩
  rw [h1, if_neg (by simp)]
  have := qdF (l := l) (key := key) l.length (fun t ht _ e => h ⟨t, ht, e⟩)
  rw [← this]
  simp [qdn]
theorem qah.leaves : ∀ {l : List Pk} {x : qan} {n : Nat}, qah x (n + l.length) → qah (qaU x l) n
 | [], x, n, h => h
 | p :: l, x, n, h => by
   refine qah.leaves (l := l) ?_
   exact qah.of (h.le (by simp only [List.length_cons]; omega)) _ _
def qdl (key : By) (s : Sn) : Bool × Bool := match s.2 with
 | [a] => (decide (cmpB key a.2.1.1 = 0), decide (cmpB key a.2.1.1 = 0 ∨ cmpB key a.2.1.1 < 0 ∧ a.1 = 0 ∨ 0 < cmpB key a.2.1.1 ∧ a.1 = IntKind.i64.wrap (s.1 - 1)))
 | _ => qf3 key s
theorem qmk {key : By} {s : Sn} (h : 0 ≤ s.1) (hw : (Kd.int .i64).wf s.1) : qdl key s = qf3 key s := by
 obtain ⟨n, l⟩ := s
 have e : IntKind.i64.wrap (n - 1) = n - 1 := qam (wf64 (by have h : 0 ≤ n := h; omega) (by have h2 : n ≤ 9223372036854775807 := hw.2; omega))
 unfold qdl qf3
 simp only
 match l with
 | [] => rfl
 | [a] => simp only [e]
 | a :: b :: l => rfl
def qad : List Pk := [([98], [49]), ([100], [50]), ([102], [51])]
end Go.Inc

set_option linter.unusedVariables false
namespace Go.Inc
open Go
def qa9 (x : qan) : Prop := ∀ y, x = some y → ∀ z ∈ y.1, z.2.length ≤ 1048576
theorem qa9.of {x : qan} {k : Int} {p : List (List UInt8)} (h : qa9 x) (hp : qaj p ≤ 1048575) : qa9 (qaG x k p) := fun y hy z hz => by
 cases x with
 | none => cases hy
 | some u =>
   cases hy
   rcases qlF hz with hz | hz
   ·exact h u rfl z hz
   ·rw [hz]
    have := qcy k (l := p) (by omega)
    exact Nat.le_trans this (by omega)
theorem qa9.of2 {x : qan} {k : Int} {a b : List UInt8} (h : qa9 x) (hp : a.length + b.length ≤ 1000000) : qa9 (qaG x k [a, b]) := h.of (by simp [qaj]; omega)
theorem qa9.root : ∀ (k : Nat) {l : List Sm} {x : qan}, l.length ≤ k → (∀ z ∈ l, z.length = 32) → qa9 x → qa9 (qaT x l)
 | 0, l, x, hk, hl, h => by
   obtain rfl : l = [] := List.length_eq_zero_iff.1 (by omega)
   rw [qbz]; exact h.of (by simp [qaj])
 | k + 1, l, x, hk, hl, h => by
   rcases Nat.lt_or_ge l.length 2 with h2 | h2
   ·match l, h2 with
    | [], _ => rw [qbz]; exact h.of (by simp [qaj])
    | [a], _ => rw [qcb]; exact h
   ·have a1 := qa3 h2
    have a2 := qbo h2
    have w1 : ∀ z ∈ l.take (half l.length), z.length = 32 := fun z hz => hl z (List.mem_of_mem_take hz)
    have w2 : ∀ z ∈ l.drop (half l.length), z.length = 32 := fun z hz => hl z (List.mem_of_mem_drop hz)
    rw [qcc x h2]
    exact (qa9.root k (by simp only [List.length_drop]; omega) w2 (qa9.root k (by simp only [List.length_take]; omega) w1 h)).of2 (by rw [qeM w1, qeM w2]; omega)
theorem qa9.foldK : ∀ {A : List Int} {P : List Sm} {s : Sm} {x : qan}, s.length = 32 → (∀ z ∈ P, z.length = 32) → qa9 x → qa9 (foldK A P s x)
 | [], P, s, x, hs, hp, h => by simpa [Go.Inc.foldK] using h
 | _ :: _, [], s, x, hs, hp, h => by simpa [Go.Inc.foldK] using h
 | a :: A, p :: P, s, x, hs, hp, h => by
   have hp1 := hp p List.mem_cons_self
   have hp2 : ∀ z ∈ P, z.length = 32 := fun z hz => hp z (List.mem_cons_of_mem _ hz)
   simp only [Go.Inc.foldK]
   split
   ·exact qa9.foldK (qbj _ _) hp2 (h.of2 (by omega))
   ·exact qa9.foldK (qbj _ _) hp2 (h.of2 (by omega))
theorem qa9.leaves : ∀ {l : List Pk} {x : qan}, (∀ p ∈ l, p.1.length + p.2.length ≤ 1000000) → qa9 x → qa9 (qaU x l)
 | [], x, hl, h => h
 | p :: l, x, hl, h => qa9.leaves (l := l) (fun q hq => hl q (List.mem_cons_of_mem _ hq)) (h.of2 (hl p List.mem_cons_self))
theorem qa9.leadK {n a : Int} {P : List Sm} {s : Sm} {x : qan} (hs : s.length = 32) (hp : ∀ z ∈ P, z.length = 32) (h : qa9 x) : qa9 (leadK x n a s P) := by
 unfold Go.Inc.leadK
 split
 ·exact qa9.foldK hs hp h
 ·exact h
theorem qah.leadK {n a : Int} {P : List Sm} {s : Sm} {x : qan} {m : Nat} (h : qah x (m + P.length)) : qah (leadK x n a s P) m := by
 unfold Go.Inc.leadK
 split
 ·exact qah.foldK h
 ·exact h.le (by omega)
theorem qm6 {l : List Pk} {key : By} {m : Nat} (hl : l.length ≤ 65536) (hs : ∀ p ∈ l, p.1.length + p.2.length ≤ m) : ∀ x ∈ (qaF l key).2, x.2.1.1.length + x.2.1.2.length ≤ m ∧ x.2.2.length ≤ 65536 := fun x hx => by
 unfold qaF at hx
 split at hx
 ·obtain ⟨i, hi, rfl⟩ := List.mem_map.1 hx
  have hi := List.mem_range'_1.1 hi
  have ht : toK l key ≤ l.length := by unfold toK; omega
  have hlt : i < l.length := by omega
  have hp := qpl (l := qaq l) (a := (i : Int)) (by rw [qa4]; omega)
  refine ⟨?_, by show (qbJ _ _).length ≤ _; omega⟩
  show (ix l (i : Int)).1.length + (ix l (i : Int)).2.length ≤ m
  rw [ixN hlt]
  exact hs _ (List.getElem_mem hlt)
 ·cases hx
theorem tells {l : List Pk} {key : By} (hm : mayK l = true) : qbw (qa8 l) key (qaF l key) = 0 ∧ qcW (qa8 l) key (qaF l key) = (qdn l key).2 ∧ qct (qa8 l) key (qaF l key) = (qdn l key).1 := by
 obtain ⟨h1, h2⟩ := qm7 (key := key) hm
 rw [qnc hm]
 unfold qbw qcW qct
 rw [h1]
 cases hi : isK l key with
 | false => exact ⟨rfl, rfl, rfl⟩
 | true =>
   rw [h2 hi]
   exact ⟨rfl, rfl, rfl⟩
theorem qc3 : mayK qad = true := by decide +kernel
theorem qlc : qad.length ≤ 65536 ∧ ∀ x ∈ qad, x.1.length + x.2.length ≤ 70368744177664 := by
 refine ⟨by decide, fun x hx => ?_⟩
 have : ∀ x ∈ qad, x.1.length + x.2.length ≤ 2 := by decide
 have := this x hx
 omega
theorem qlb : qaF qad [100] = (3, [qdE qad 1]) := by
 have h1 : qbs qad [100] = 1 := by decide +kernel
 have h2 : toK qad [100] = 2 := by decide +kernel
 unfold qaF
 rw [if_pos qc3, h1, h2]
 rfl
theorem quL : qaF qad [99] = (3, [qdE qad 0, qdE qad 1]) := by
 have h1 : qbs qad [99] = 0 := by decide +kernel
 have h2 : toK qad [99] = 2 := by decide +kernel
 unfold qaF
 rw [if_pos qc3, h1, h2]
 rfl
theorem quK : qaF qad [97] = (3, [qdE qad 0]) := by
 have h1 : qbs qad [97] = 0 := by decide +kernel
 have h2 : toK qad [97] = 1 := by decide +kernel
 unfold qaF
 rw [if_pos qc3, h1, h2]
 rfl
theorem qrW : qbw (qa8 qad) [99] (qaF qad [100]) = 10 := by
 have h : (qf3 [99] (qaF qad [100])).2 = false := by rw [qlb]; decide +kernel
 have e : qf2 (qa8 qad) [99] (qaF qad [100]) = none := if_neg (by rw [h]; simp)
 unfold qbw
 rw [e]
 rfl
theorem qrX : qbw (qa8 qad) [120] (qaF qad [97]) = 10 := by
 have h : (qf3 [120] (qaF qad [97])).2 = false := by rw [quK]; decide +kernel
 have e : qf2 (qa8 qad) [120] (qaF qad [97]) = none := if_neg (by rw [h]; simp)
 unfold qbw
 rw [e]
 rfl
end Go.Inc

set_option linter.unusedVariables false
namespace Go.Inc
open Go
theorem qpv {a b : List Sm} {j : Nat} (h : j < a.length) (h' : j < b.length) (ht : a.take j = b.take j) (he : ix a (j : Int) = ix b (j : Int)) : a.take (j + 1) = b.take (j + 1) := by
 rw [ixN h, ixN h'] at he
 rw [List.take_succ_eq_append_getElem h, List.take_succ_eq_append_getElem h', ht, he]
end Go.Inc
