/- E18, E19, E20, T1, P5, P6, P8, P9, P10, G1, K1, E21, E22, B23, E23, E24, E25, E26, E27, E28, P11, P12, P13, P15, P16, P17, E29, E30, P14, S1, S2, S3, K2. -/
import Derived.Test.YtmjjkpiglbpkhaaM3
import Derived.Test.YtmjjkpiglbpkhaaChecked
import Derived.Test.YtmjjkpiglbpkhaaM1
import Derived.Test.YtmjjkpiglbpkhaaM2
import Derived.RangeFuncRecord
import Derived.RangeFuncSeq
import Derived.Lib.Bytealg
import Derived.Laws.Externs
set_option linter.unusedVariables false
namespace Go.Inc
open Go Go.RowKit
mutual
def PM.still : PM → Option Nat
 | .v _ => some 0
 | .nil => some 0
 | .snil => some 0
 | .bx _ u => bif u then none else some 1
 | .bk _ u => bif u then none else some 1
 | .rw _ _ u => bif u then none else some 1
 | .fn _ cs => PM.stillL cs
def PM.stillL : List PM → Option Nat
 | [] => some 0
 | m :: l => match PM.still m, PM.stillL l with
   | some a, some b => some (a + b)
   | _, _ => none
end
def PM.wfP : (l : List PM) → PM.denL l → Prop → Prop
 | [], _, p => p
 | .v .bool :: l, a, p => PM.wfP l a.2 p
 | .v t :: l, a, p => t.kd.wf a.1 → PM.wfP l a.2 p
 | .bx t _ :: l, a, p => t.kd.wf a.1 → PM.wfP l a.2 p
 | .nil :: l, a, p => PM.wfP l a.2 p
 | .snil :: l, a, p => PM.wfP l a.2 p
 | .bk _ _ :: l, a, p => PM.wfP l a.2 p
 | .rw _ t _ :: l, a, p => (Kd.sl t.kd).wf a.1 → PM.wfP l a.2 p
 | .fn _ _ :: l, a, p => PM.wfP l a.2 p
def entF (pm : List PM) (a : PM.denL pm) : St :=
 { env := fun t => (PM.svL pm a 0)[t]?,
   res := fun r => match (PM.resL pm a)[r]? with
    | some (R, u) => some ⟨R, bif u then .par r else .ro, !u⟩
    | none => none,
   nx := (PM.resL pm a).length }
def qcR (s : St) : (l : List RM) → List SVal → Option (RM.denL l × List Nat)
 | [], vs => match vs with
   | [] => some ((), [])
   | _ => none
 | .v t :: l, vs => match vs with
   | v :: vs => (match v.to t, qcR s l vs with
     | some x, some (y, ids) => some ((x, y), ids)
     | _, _ => none)
   | [] => none
 | .ow e t :: l, vs => match vs with
   | .own r _ _ :: vs => (match s.res r, qcR s l vs with
     | some ⟨.ow e' t' x, .new, _⟩, some (y, ids) => if h : t' = t then (bif Nat.beq e' e then some ((qcp h x, y), r :: ids) else none) else none
     | _, _ => none)
   | _ => none
 | .bx t :: l, vs => match vs with
   | .box r T k p :: vs => (match s.res r, qcR s l vs with
     | some ⟨.bx T' x [], .new, _⟩, some (y, ids) => if h : T' = t then (bif Nat.beq p.off 0 then some ((Ty.cast h x, y), r :: ids) else none) else none
     | _, _ => none)
   | _ => none
 | .rw e t :: l, vs => match vs with
   | .rw r :: vs => (match s.res r, qcR s l vs with
     | some ⟨.rw e' t' x, .new, _⟩, some (y, ids) => if h : t' = t then (bif Nat.beq e' e then some ((qcp h x, y), r :: ids) else none) else none
     | _, _ => none)
   | _ => none
def qbJ (s : St) : (l : List PM) → Nat → Option (PM.MD l)
 | [], n => some ()
 | .v _ :: l, n => qbJ s l n
 | .nil :: l, n => qbJ s l n
 | .snil :: l, n => qbJ s l n
 | .bx t true :: l, n => match s.res n, qbJ s l (n + 1) with
   | some ⟨.bx t' y [], org, _⟩, some m => if h : t' = t then (bif decide (org = .par n) then some (Ty.cast h y, m) else none) else none
   | _, _ => none
 | .bk e true :: l, n => match s.res n, qbJ s l (n + 1) with
   | some ⟨.bk e' x, org, _⟩, some m => bif Nat.beq e' e && decide (org = .par n) then some (x, m) else none
   | _, _ => none
 | .bx t false :: l, n => qbJ s l (n + 1)
 | .bk e false :: l, n => qbJ s l (n + 1)
 | .rw e t true :: l, n => match s.res n, qbJ s l (n + 1) with
   | some ⟨.rw e' t' x, org, _⟩, some m => if h : t' = t then (bif Nat.beq e' e && decide (org = .par n) then some (qcp h x, m) else none) else none
   | _, _ => none
 | .rw e t false :: l, n => qbJ s l (n + 1)
 | .fn f cs :: l, n => match PM.stillL cs with
   | some c => qbJ s l (n + c)
   | none => none
def finF (X : Fx) (C : Ctr) (rs : Array ResultVar) (s : St) (Q : RM.denL C.rm → PM.MD C.pm → Prop) : Prop :=
 match (matS X.c (qgS rs.toList) s).outs X.c rs.toList with
 | some vs => (match qcR (matS X.c (qgS rs.toList) s) C.rm vs, qbJ (matS X.c (qgS rs.toList) s) C.pm 0 with
   | some (o, ids), some m => bif qaY ids then Q o m else False
   | _, _ => False)
 | none => False
def fvc (X : Fx) (fuel f : Nat) (C : Ctr) (a : PM.denL C.pm) (Q : RM.denL C.rm → PM.MD C.pm → Prop) : Prop :=
 match X.c.P.funcs[f]? with
 | some fn => (match fn.body with
   | some code => bif Nat.ble (PM.svL C.pm a 0).length fn.ntmps then exec X (qqY X) fuel fn.ntmps code (entF C.pm a) (fun e s => match e with
      | .normal => finF X C fn.results s Q
      | .ret => finF X C fn.results s Q
      | _ => False) else False
   | none => False)
 | none => False
theorem PM.wfP_ok {θ : Th} {N : Nat} {w : World} {K : Ghost} {p : Prop} : ∀ {l : List PM} {a : PM.denL l} {n : Nat} {vs : List Value}, SVal.relL θ N K (PM.svL l a n) vs → (∀ (j : Nat) (R : Res) (u : Bool), (PM.resL l a)[j]? = some (R, u) → R.sat θ (n + j) N w K) → PM.wfP l a p → p
 | [], a, n, vs, hr, hs, h => h
 | m :: l, a, n, vs, ⟨u, r, e, h1, h2⟩, hs, h => by
   have rest : PM.wfP l a.2 p → p := fun h => PM.wfP_ok h2 (fun j R u hj => by
    have := hs ((PM.res m a.1).length + j) R u (by
     show (PM.res m a.1 ++ PM.resL l a.2)[_]? = _
     rw [List.getElem?_append_right (by omega), Nat.add_sub_cancel_left]
     exact hj)
    rw [Nat.add_assoc]
    exact this) h
   cases m with
   | v t =>
     have hw := (qkj h1).wf
     cases t with
     | bool => exact rest h
     | _ => exact rest (h hw)
   | bx t b =>
     obtain ⟨_, _, _, hB, _⟩ := hs 0 (.bx t a.1 []) b rfl
     exact rest (h hB.wf)
   | nil => exact rest h
   | snil => exact rest h
   | bk e b => exact rest h
   | rw e t b =>
     have hR : (Res.rw e t a.1).sat θ n N w K := hs 0 (.rw e t a.1) b rfl
     exact rest (h hR.1.wf)
   | fn f cs => exact rest h
mutual
theorem PM.still_ok : ∀ {m : PM} {a : PM.den m} {n : Nat}, PM.still m = some n → (PM.res m a).length = n ∧ ∀ (j : Nat) (R : Res) (u : Bool), (PM.res m a)[j]? = some (R, u) → u = false
 | .v _, a, n, h => by
   simp only [PM.still, Option.some.injEq] at h
   exact ⟨h, fun j R u hj => by simp [PM.res] at hj⟩
 | .nil, a, n, h => by
   simp only [PM.still, Option.some.injEq] at h
   exact ⟨h, fun j R u hj => by simp [PM.res] at hj⟩
 | .snil, a, n, h => by
   simp only [PM.still, Option.some.injEq] at h
   exact ⟨h, fun j R u hj => by simp [PM.res] at hj⟩
 | .bx _ b, a, n, h => by
   cases b with
   | true => cases h
   | false =>
     cases h
     refine ⟨rfl, fun j R u hj => ?_⟩
     cases j with
     | zero => simp [PM.res] at hj; exact hj.2
     | succ j => simp [PM.res] at hj
 | .bk _ b, a, n, h => by
   cases b with
   | true => cases h
   | false =>
     cases h
     refine ⟨rfl, fun j R u hj => ?_⟩
     cases j with
     | zero => simp [PM.res] at hj; exact hj.2
     | succ j => simp [PM.res] at hj
 | .rw _ _ b, a, n, h => by
   cases b with
   | true => cases h
   | false =>
     cases h
     refine ⟨rfl, fun j R u hj => ?_⟩
     cases j with
     | zero => simp [PM.res] at hj; exact hj.2
     | succ j => simp [PM.res] at hj
 | .fn f cs, a, n, h => PM.stillL_ok (l := cs) h
theorem PM.stillL_ok : ∀ {l : List PM} {a : PM.denL l} {n : Nat}, PM.stillL l = some n → (PM.resL l a).length = n ∧ ∀ (j : Nat) (R : Res) (u : Bool), (PM.resL l a)[j]? = some (R, u) → u = false
 | [], a, n, h => by
   simp only [PM.stillL, Option.some.injEq] at h
   exact ⟨h, fun j R u hj => by simp [PM.resL] at hj⟩
 | m :: l, a, n, h => by
   simp only [PM.stillL] at h
   split at h
   ·rename_i x y h1 h2
    cases h
    obtain ⟨a1, a2⟩ := PM.still_ok (a := a.1) h1
    obtain ⟨b1, b2⟩ := PM.stillL_ok (a := a.2) h2
    refine ⟨?_, fun j R u hj => ?_⟩
    ·show (PM.res m a.1 ++ PM.resL l a.2).length = _
     rw [List.length_append, a1, b1]
    ·have hj' : (PM.res m a.1 ++ PM.resL l a.2)[j]? = some (R, u) := hj
     rcases Nat.lt_or_ge j (PM.res m a.1).length with hlt | hge
     ·rw [List.getElem?_append_left hlt] at hj'
      exact a2 j R u hj'
     ·rw [List.getElem?_append_right hge] at hj'
      exact b2 _ R u hj'
   ·cases h
end
theorem qa8 {s : St} : ∀ {l : List PM} {a : PM.denL l} {n : Nat} {m : PM.MD l}, qbJ s l n = some m → (∀ (j : Nat) (R : Res), (PM.resL l a)[j]? = some (R, false) → ∃ e, s.res (n + j) = some e ∧ e.r = R ∧ e.org = .ro) →
 ∀ (j : Nat) (R : Res), (PM.aft l a m)[j]? = some R → ∃ e, s.res (n + j) = some e ∧ e.r = R ∧ ((e.org = .par (n + j) ∧ ∃ R0, (PM.resL l a)[j]? = some (R0, true)) ∨ (e.org = .ro ∧ ∃ R0, (PM.resL l a)[j]? = some (R0, false)))
 | [], a, n, m, h, hro, j, R, hj => by simp [PM.aft] at hj
 | .v _ :: l, a, n, m, h, hro, j, R, hj => qa8 (l := l) (a := a.2) h hro j R hj
 | .nil :: l, a, n, m, h, hro, j, R, hj => qa8 (l := l) (a := a.2) h hro j R hj
 | .snil :: l, a, n, m, h, hro, j, R, hj => qa8 (l := l) (a := a.2) h hro j R hj
 | .bx t true :: l, a, n, m, h, hro, j, R, hj => by
   simp only [qbJ] at h
   split at h
   ·rename_i t' y org lk m2 hs h2
    split at h
    ·rename_i ht
     subst ht
     cases hd : decide (org = Org.par n) with
     | false => rw [hd] at h; cases h
     | true =>
       rw [hd] at h
       simp only [cond_true, Option.some.injEq] at h
       subst h
       have ho : org = .par n := by simpa using hd
       cases j with
       | zero =>
         simp [PM.aft] at hj
         subst hj
         exact ⟨_, hs, rfl, .inl ⟨ho, _, rfl⟩⟩
       | succ j =>
         obtain ⟨e, e1, e2, e3⟩ := qa8 (l := l) (a := a.2) h2 (fun j R hj => by
          have := hro (j + 1) R hj
          rwa [show n + (j + 1) = n + 1 + j from by omega] at this) j R hj
         refine ⟨e, by rw [show n + (j + 1) = n + 1 + j from by omega]; exact e1, e2, ?_⟩
         rw [show n + (j + 1) = n + 1 + j from by omega]
         exact e3
    ·cases h
   ·cases h
 | .bk e true :: l, a, n, m, h, hro, j, R, hj => by
   simp only [qbJ] at h
   split at h
   ·rename_i e' x org lk m2 hs h2
    cases hd : (Nat.beq e' e && decide (org = Org.par n)) with
    | false => rw [hd] at h; cases h
    | true =>
      rw [hd] at h
      simp only [cond_true, Option.some.injEq] at h
      subst h
      simp only [Bool.and_eq_true, decide_eq_true_eq] at hd
      obtain rfl := Nat.eq_of_beq_eq_true hd.1
      cases j with
      | zero =>
        simp [PM.aft] at hj
        subst hj
        exact ⟨_, hs, rfl, .inl ⟨hd.2, _, rfl⟩⟩
      | succ j =>
        obtain ⟨e, e1, e2, e3⟩ := qa8 (l := l) (a := a.2) h2 (fun j R hj => by
         have := hro (j + 1) R hj
         rwa [show n + (j + 1) = n + 1 + j from by omega] at this) j R hj
        refine ⟨e, by rw [show n + (j + 1) = n + 1 + j from by omega]; exact e1, e2, ?_⟩
        rw [show n + (j + 1) = n + 1 + j from by omega]
        exact e3
   ·cases h
 | .rw e t true :: l, a, n, m, h, hro, j, R, hj => by
   simp only [qbJ] at h
   split at h
   ·rename_i e' t' x org lk m2 hs h2
    split at h
    ·rename_i ht
     subst ht
     cases hd : (Nat.beq e' e && decide (org = Org.par n)) with
     | false => rw [hd] at h; cases h
     | true =>
       rw [hd] at h
       simp only [cond_true, Option.some.injEq] at h
       subst h
       simp only [Bool.and_eq_true, decide_eq_true_eq] at hd
       obtain rfl := Nat.eq_of_beq_eq_true hd.1
       cases j with
       | zero =>
         simp [PM.aft] at hj
         subst hj
         exact ⟨_, hs, rfl, .inl ⟨hd.2, _, rfl⟩⟩
       | succ j =>
         obtain ⟨e, e1, e2, e3⟩ := qa8 (l := l) (a := a.2) h2 (fun j R hj => by
          have := hro (j + 1) R hj
          rwa [show n + (j + 1) = n + 1 + j from by omega] at this) j R hj
         refine ⟨e, by rw [show n + (j + 1) = n + 1 + j from by omega]; exact e1, e2, ?_⟩
         rw [show n + (j + 1) = n + 1 + j from by omega]
         exact e3
    ·cases h
   ·cases h
 | .bx t false :: l, a, n, m, h, hro, j, R, hj => by
   cases j with
   | zero =>
     simp [PM.aft] at hj
     subst hj
     obtain ⟨e, e1, e2, e3⟩ := hro 0 (.bx t a.1 []) rfl
     exact ⟨e, e1, e2, .inr ⟨e3, _, rfl⟩⟩
   | succ j =>
     obtain ⟨e, e1, e2, e3⟩ := qa8 (l := l) (a := a.2) (n := n + 1) h (fun j R hj => by
      have := hro (j + 1) R hj
      rwa [show n + (j + 1) = n + 1 + j from by omega] at this) j R hj
     refine ⟨e, by rw [show n + (j + 1) = n + 1 + j from by omega]; exact e1, e2, ?_⟩
     rw [show n + (j + 1) = n + 1 + j from by omega]
     exact e3
 | .bk t false :: l, a, n, m, h, hro, j, R, hj => by
   cases j with
   | zero =>
     simp [PM.aft] at hj
     subst hj
     obtain ⟨e, e1, e2, e3⟩ := hro 0 (.bk t a.1) rfl
     exact ⟨e, e1, e2, .inr ⟨e3, _, rfl⟩⟩
   | succ j =>
     obtain ⟨e, e1, e2, e3⟩ := qa8 (l := l) (a := a.2) (n := n + 1) h (fun j R hj => by
      have := hro (j + 1) R hj
      rwa [show n + (j + 1) = n + 1 + j from by omega] at this) j R hj
     refine ⟨e, by rw [show n + (j + 1) = n + 1 + j from by omega]; exact e1, e2, ?_⟩
     rw [show n + (j + 1) = n + 1 + j from by omega]
     exact e3
 | .rw te t false :: l, a, n, m, h, hro, j, R, hj => by
   cases j with
   | zero =>
     simp [PM.aft] at hj
     subst hj
     obtain ⟨e, e1, e2, e3⟩ := hro 0 (.rw te t a.1) rfl
     exact ⟨e, e1, e2, .inr ⟨e3, _, rfl⟩⟩
   | succ j =>
     obtain ⟨e, e1, e2, e3⟩ := qa8 (l := l) (a := a.2) (n := n + 1) h (fun j R hj => by
      have := hro (j + 1) R hj
      rwa [show n + (j + 1) = n + 1 + j from by omega] at this) j R hj
     refine ⟨e, by rw [show n + (j + 1) = n + 1 + j from by omega]; exact e1, e2, ?_⟩
     rw [show n + (j + 1) = n + 1 + j from by omega]
     exact e3
 | .fn f cs :: l, a, n, m, h, hro, j, R, hj => by
   simp only [qbJ] at h
   split at h
   ·rename_i c hc
    obtain ⟨c1, c2⟩ := PM.stillL_ok (a := a.1) hc
    have hj' : ((PM.res (.fn f cs) a.1).map (·.1) ++ PM.aft l a.2 m)[j]? = some R := hj
    have hlen : (PM.res (.fn f cs) a.1).length = c := c1
    rcases Nat.lt_or_ge j c with hlt | hge
    ·rw [List.getElem?_append_left (by rw [List.length_map]; omega), List.getElem?_map] at hj'
     cases hx : (PM.res (.fn f cs) a.1)[j]? with
     | none => rw [hx] at hj'; cases hj'
     | some z =>
       obtain ⟨R1, u⟩ := z
       rw [hx] at hj'
       cases hj'
       have hu := c2 j R1 u hx
       subst hu
       have hx' : (PM.resL (.fn f cs :: l) a)[j]? = some (R1, false) := by
        show (PM.res (.fn f cs) a.1 ++ PM.resL l a.2)[j]? = _
        rw [List.getElem?_append_left (by omega)]
        exact hx
       obtain ⟨e, e1, e2, e3⟩ := hro j R1 hx'
       exact ⟨e, e1, e2, .inr ⟨e3, _, hx'⟩⟩
    ·rw [List.getElem?_append_right (by rw [List.length_map]; omega), List.length_map, hlen] at hj'
     obtain ⟨e, e1, e2, e3⟩ := qa8 (l := l) (a := a.2) h (fun j R hj => by
      have := hro (c + j) R (by
       show (PM.res (.fn f cs) a.1 ++ PM.resL l a.2)[c + j]? = _
       rw [List.getElem?_append_right (by omega), hlen, Nat.add_sub_cancel_left]
       exact hj)
      rwa [← Nat.add_assoc] at this) (j - c) R hj'
     rw [show n + c + (j - c) = n + j from by omega] at e1 e3
     have up : ∀ z, (PM.resL l a.2)[j - c]? = some z → (PM.resL (.fn f cs :: l) a)[j]? = some z := fun z hz => by
      show (PM.res (.fn f cs) a.1 ++ PM.resL l a.2)[j]? = _
      rw [List.getElem?_append_right (by omega), hlen]
      exact hz
     exact ⟨e, e1, e2, e3.imp (fun ⟨h1, R0, h2⟩ => ⟨h1, R0, up _ h2⟩) (fun ⟨h1, R0, h2⟩ => ⟨h1, R0, up _ h2⟩)⟩
   ·cases h
theorem qcz {s : St} {θ θ' : Th} {N : Nat} {w : World} {K : Ghost} (hsat : ∀ r e, s.res r = some e → e.r.sat θ r s.nx w K) : ∀ {l : List RM} {svs : List SVal} {o : RM.denL l} {ids : List Nat} {n : Nat} {vs : List Value}, qcR s l svs = some (o, ids) → SVal.relL θ s.nx K svs vs → (∀ i r, ids[i]? = some r → θ'.key (n + i) = θ.key r) → n + ids.length ≤ N →
 SVal.relL θ' N K (RM.svL l o n) vs ∧ (RM.resL l o).length = ids.length ∧ ∀ (i : Nat) (R : Res), (RM.resL l o)[i]? = some R → ∃ r e, ids[i]? = some r ∧ s.res r = some e ∧ e.r = R ∧ e.org = .new
 | [], svs, o, ids, n, vs, h, hr, hk, hN => by
   simp only [qcR] at h
   split at h
   ·cases h
    exact ⟨hr, rfl, fun i R hi => by simp [RM.resL] at hi⟩
   ·cases h
 | .v t :: l, svs, o, ids, n, vs, h, hr, hk, hN => by
   simp only [qcR] at h
   split at h
   ·rename_i v svs'
    split at h
    ·rename_i x y ids' hx hy
     cases h
     obtain ⟨u, r, e, h1, h2⟩ := hr
     obtain ⟨a1, a2, a3⟩ := qcz hsat (n := n) hy h2 hk hN
     exact ⟨⟨u, r, e, SVal.of_rel (SVal.to_rel hx h1), a1⟩, a2, a3⟩
    ·cases h
   ·cases h
 | .ow eo t :: l, svs, o, ids, n, vs, h, hr, hk, hN => by
   simp only [qcR] at h
   split at h
   ·rename_i r0 t0 x0 svs'
    split at h
    ·rename_i e' t' x lk y ids' hs hy
     split at h
     ·rename_i ht
      subst ht
      cases hb : Nat.beq e' eo with
      | false => rw [hb] at h; cases h
      | true =>
        rw [hb] at h
        obtain rfl := Nat.eq_of_beq_eq_true hb
        simp only [cond_true, Option.some.injEq, Prod.mk.injEq] at h
        obtain ⟨rfl, rfl⟩ := h
        obtain ⟨u, r, e, h1, h2⟩ := hr
        simp only [List.length_cons] at hN
        obtain ⟨a1, a2, a3⟩ := qcz hsat (n := n + 1) (N := N) (θ' := θ') hy h2 (fun i r hi => by
         have := hk (i + 1) r (by simpa using hi)
         rwa [show n + (i + 1) = n + 1 + i from by omega] at this) (by omega)
        have hk0 := hk 0 r0 rfl
        refine ⟨⟨u, r, e, ⟨by omega, ?_, hk0.trans h1.2.2⟩, a1⟩, by show (RM.res (.ow e' t') x ++ RM.resL l y).length = _; rw [List.length_append, a2]; simp [RM.res]; omega, ?_⟩
        ·have hO : Own _ _ _ _ _ (θ.key r0) := (hsat _ _ hs).1
         rw [h1.2.2] at hO
         exact hO.V
        ·intro i R hi
         cases i with
         | zero =>
           have hi' : some (Res.ow e' t' x) = some R := hi
           cases hi'
           exact ⟨r0, _, rfl, hs, rfl, rfl⟩
         | succ i =>
           obtain ⟨r1, e1, b1, b2⟩ := a3 i R (by simpa [RM.resL, RM.res] using hi)
           exact ⟨r1, e1, by simpa using b1, b2⟩
     ·cases h
    ·cases h
   ·cases h
 | .bx t :: l, svs, o, ids, n, vs, h, hr, hk, hN => by
   simp only [qcR] at h
   split at h
   ·rename_i r0 T0 k0 p svs'
    split at h
    ·rename_i T' x lk y ids' hs hy
     split at h
     ·rename_i ht
      subst ht
      cases hb : Nat.beq p.off 0 with
      | false => rw [hb] at h; cases h
      | true =>
        rw [hb] at h
        have hoff := Nat.eq_of_beq_eq_true hb
        simp only [cond_true, Option.some.injEq, Prod.mk.injEq] at h
        obtain ⟨rfl, rfl⟩ := h
        obtain ⟨u, r, e, h1, h2⟩ := hr
        simp only [List.length_cons] at hN
        obtain ⟨a1, a2, a3⟩ := qcz hsat (n := n + 1) (N := N) (θ' := θ') hy h2 (fun i r hi => by
         have := hk (i + 1) r (by simpa using hi)
         rwa [show n + (i + 1) = n + 1 + i from by omega] at this) (by omega)
        have hk0 := hk 0 r0 rfl
        obtain ⟨_, _, b, o', hkey, hv⟩ := h1
        refine ⟨⟨u, r, e, ⟨by omega, trivial, b, o', hk0.trans hkey, by rw [hv, hoff]; rfl⟩, a1⟩, by show (RM.res (.bx T') x ++ RM.resL l y).length = _; rw [List.length_append, a2]; simp [RM.res]; omega, ?_⟩
        intro i R hi
        cases i with
        | zero =>
          have hi' : some (Res.bx T' x []) = some R := hi
          cases hi'
          exact ⟨r0, _, rfl, hs, rfl, rfl⟩
        | succ i =>
          obtain ⟨r1, e1, b1, b2⟩ := a3 i R (by simpa [RM.resL, RM.res] using hi)
          exact ⟨r1, e1, by simpa using b1, b2⟩
     ·cases h
    ·cases h
   ·cases h
 | .rw eo t :: l, svs, o, ids, n, vs, h, hr, hk, hN => by
   simp only [qcR] at h
   split at h
   ·rename_i r0 svs'
    split at h
    ·rename_i e' t' x lk y ids' hs hy
     split at h
     ·rename_i ht
      subst ht
      cases hb : Nat.beq e' eo with
      | false => rw [hb] at h; cases h
      | true =>
        rw [hb] at h
        obtain rfl := Nat.eq_of_beq_eq_true hb
        simp only [cond_true, Option.some.injEq, Prod.mk.injEq] at h
        obtain ⟨rfl, rfl⟩ := h
        obtain ⟨u, r, e, h1, h2⟩ := hr
        simp only [List.length_cons] at hN
        obtain ⟨a1, a2, a3⟩ := qcz hsat (n := n + 1) (N := N) (θ' := θ') hy h2 (fun i r hi => by
         have := hk (i + 1) r (by simpa using hi)
         rwa [show n + (i + 1) = n + 1 + i from by omega] at this) (by omega)
        have hk0 := hk 0 r0 rfl
        refine ⟨⟨u, r, e, ⟨by omega, hk0.trans h1.2⟩, a1⟩, by show (RM.res (.rw e' t') x ++ RM.resL l y).length = _; rw [List.length_append, a2]; simp [RM.res]; omega, ?_⟩
        intro i R hi
        cases i with
        | zero =>
          have hi' : some (Res.rw e' t' x) = some R := hi
          cases hi'
          exact ⟨r0, _, rfl, hs, rfl, rfl⟩
        | succ i =>
          obtain ⟨r1, e1, b1, b2⟩ := a3 i R (by simpa [RM.resL, RM.res] using hi)
          exact ⟨r1, e1, by simpa using b1, b2⟩
     ·cases h
    ·cases h
   ·cases h
mutual
theorem PM.res_plain : ∀ {m : PM} {a : PM.den m}, ∀ p ∈ PM.res m a, p.1.plain
 | .v _, a, p, h => by simp [PM.res] at h
 | .nil, a, p, h => by simp [PM.res] at h
 | .snil, a, p, h => by simp [PM.res] at h
 | .bx _ _, a, p, h => by simp [PM.res] at h; subst h; exact rfl
 | .bk _ _, a, p, h => by simp [PM.res] at h; subst h; trivial
 | .rw _ _ _, a, p, h => by simp [PM.res] at h; subst h; trivial
 | .fn _ cs, a, p, h => PM.resL_plain (l := cs) p h
theorem PM.resL_plain : ∀ {l : List PM} {a : PM.denL l}, ∀ p ∈ PM.resL l a, p.1.plain
 | [], a, p, h => by simp [PM.resL] at h
 | m :: l, a, p, h => by
   rcases List.mem_append.1 (show p ∈ PM.res m a.1 ++ PM.resL l a.2 from h) with h | h
   ·exact PM.res_plain p h
   ·exact PM.resL_plain p h
end
theorem PM.aft_plain : ∀ {l : List PM} {a : PM.denL l} {m : PM.MD l}, ∀ R ∈ PM.aft l a m, R.plain
 | [], a, m, R, h => by simp [PM.aft] at h
 | .v _ :: l, a, m, R, h => PM.aft_plain (l := l) (a := a.2) R h
 | .nil :: l, a, m, R, h => PM.aft_plain (l := l) (a := a.2) R h
 | .snil :: l, a, m, R, h => PM.aft_plain (l := l) (a := a.2) R h
 | .bx t true :: l, a, m, R, h => by
   rcases List.mem_cons.1 (show R ∈ Res.bx t m.1 [] :: PM.aft l a.2 m.2 from h) with rfl | h
   ·exact rfl
   ·exact PM.aft_plain R h
 | .bk e true :: l, a, m, R, h => by
   rcases List.mem_cons.1 (show R ∈ Res.bk e m.1 :: PM.aft l a.2 m.2 from h) with rfl | h
   ·trivial
   ·exact PM.aft_plain R h
 | .rw e t true :: l, a, m, R, h => by
   rcases List.mem_cons.1 (show R ∈ Res.rw e t m.1 :: PM.aft l a.2 m.2 from h) with rfl | h
   ·trivial
   ·exact PM.aft_plain R h
 | .bx t false :: l, a, m, R, h => by
   rcases List.mem_cons.1 (show R ∈ Res.bx t a.1 [] :: PM.aft l a.2 m from h) with rfl | h
   ·exact rfl
   ·exact PM.aft_plain R h
 | .bk e false :: l, a, m, R, h => by
   rcases List.mem_cons.1 (show R ∈ Res.bk e a.1 :: PM.aft l a.2 m from h) with rfl | h
   ·trivial
   ·exact PM.aft_plain R h
 | .rw e t false :: l, a, m, R, h => by
   rcases List.mem_cons.1 (show R ∈ Res.rw e t a.1 :: PM.aft l a.2 m from h) with rfl | h
   ·trivial
   ·exact PM.aft_plain R h
 | .fn f cs :: l, a, m, R, h => by
   rcases List.mem_append.1 (show R ∈ (PM.res (.fn f cs) a.1).map (·.1) ++ PM.aft l a.2 m from h) with h | h
   ·obtain ⟨p, hp, rfl⟩ := List.mem_map.1 h
    exact PM.res_plain p hp
   ·exact PM.aft_plain R h
def qa4 (n : Nat) (ids : List Nat) (r : Nat) : Nat := if r < n then r else ids.getD (r - n) 0
section
variable {X : Fx} {f : Nat} {C : Ctr}
theorem qeT : ∀ {l : List Nat}, qaY l = true → ∀ {i j r : Nat}, l[i]? = some r → l[j]? = some r → i = j
 | [], _, i, j, r, hi, _ => by simp at hi
 | a :: l, h, i, j, r, hi, hj => by
   simp only [qaY, Bool.and_eq_true, Bool.not_eq_true'] at h
   have hn : a ∉ l := fun hm => by rw [qdi.2 hm] at h; exact absurd h.1 (by simp)
   cases i with
   | zero =>
     cases j with
     | zero => rfl
     | succ j =>
       simp at hi
       subst hi
       exact absurd (List.mem_of_getElem? (by simpa using hj)) hn
   | succ i =>
     cases j with
     | zero =>
       simp at hj
       subst hj
       exact absurd (List.mem_of_getElem? (by simpa using hi)) hn
     | succ j =>
       have h1 : l[i]? = some r := by simpa using hi
       have h2 : l[j]? = some r := by simpa using hj
       rw [qeT h.2 h1 h2]
def qh8 (pm : List PM) (a : PM.denL pm) (θ : Th) (w : World) (K : Ghost) : Glob :=
 { w0 := w, K0 := K, X := qkv (PM.resL pm a) θ, F0 := fun j g => (∃ R, (PM.resL pm a)[j]? = some (R, true)) ∧ θ.fp j g,
   hX := fun j g ⟨⟨R, h1⟩, h2⟩ => ⟨j, R, h1, h2⟩, Kb := K, θb := θ, nb := (PM.resL pm a).length,
   frz := fun r => match (PM.resL pm a)[r]? with
    | some (R, false) => some ⟨R, .ro, true⟩
    | _ => none }
theorem qh9 {pm : List PM} {a : PM.denL pm} {θ : Th} {w : World} {K : Ghost} : ∀ r e, (qh8 pm a θ w K).frz r = some e → ∃ R, (PM.resL pm a)[r]? = some (R, false) ∧ e = ⟨R, .ro, true⟩ := fun r e he => by
 have he' : (match (PM.resL pm a)[r]? with
  | some (R, false) => some (⟨R, .ro, true⟩ : RE)
  | _ => none) = some e := he
 split at he'
 ·rename_i R hR
  cases he'
  exact ⟨R, hR, rfl⟩
 ·cases he'
theorem qgB {pm : List PM} {a : PM.denL pm} {θ : Th} {w : World} {K : Ghost} : (qh8 pm a θ w K).fine := ⟨fun r e he => by
 obtain ⟨R, _, rfl⟩ := qh9 r e he
 rfl⟩
theorem qox {pm : List PM} {a : PM.denL pm} {θ : Th} {vs : List Value} {w : World} {K : Ghost} (hM : Models w K) (hargs : ArgsOk pm a θ vs w K) : Rel (qh8 pm a θ w K) (entF pm a) θ (qfE vs) w K := by
 have hres : ∀ r e, (entF pm a).res r = some e → ∃ R u, (PM.resL pm a)[r]? = some (R, u) ∧ e = ⟨R, bif u then .par r else .ro, !u⟩ := fun r e he => by
  have he' : (match (PM.resL pm a)[r]? with
   | some (R, u) => some (⟨R, bif u then .par r else .ro, !u⟩ : RE)
   | none => none) = some e := he
  split at he'
  ·rename_i R u hR
   cases he'
   exact ⟨R, u, hR, rfl⟩
  ·cases he'
 refine ⟨hM, Ext.refl _ _ _, Ghost.le.refl _, Th.upto.refl _ _, Nat.le_refl _, ?_, ?_, ?_, ?_⟩
 ·intro r e he
  obtain ⟨R, hR, rfl⟩ := qh9 r e he
  refine ⟨?_, rfl⟩
  show (match (PM.resL pm a)[r]? with
   | some (R, u) => some (⟨R, bif u then .par r else .ro, !u⟩ : RE)
   | none => none) = _
  rw [hR]
  rfl
 ·intro t v hv
  obtain ⟨u, hu, hr⟩ := qff hargs.vals hv
  have : qfE vs t = u := by simp [qfE, List.getD_eq_getElem?_getD, hu]
  rw [this]
  exact hr
 ·intro r e he
  obtain ⟨R, u, hR, rfl⟩ := hres r e he
  refine ⟨(List.getElem?_eq_some_iff.1 hR).1, hargs.sat r R u hR, ?_⟩
  cases u with
  | true => exact fun g hg => .inl ⟨⟨R, hR⟩, hg⟩
  | false => trivial
 ·intro r r' e e' h1 h2 hne
  obtain ⟨R, u, hR, _⟩ := hres r e h1
  obtain ⟨R', u', hR', _⟩ := hres r' e' h2
  exact hargs.apart r r' (List.getElem?_eq_some_iff.1 hR).1 (List.getElem?_eq_some_iff.1 hR').1 hne
theorem qsR {a : PM.denL C.pm} {θ : Th} {w : World} {K : Ghost} (ρ2 : Env) (w2 : World) (K2 : Ghost) (θ2 : Th) (s : St) (svs : List SVal) (us : List Value) (ids : List Nat) (h2 : Rel (qh8 C.pm a θ w K) s θ2 ρ2 w2 K2) (hus : SVal.relL θ2 s.nx K2 svs us) (hro : qcR s C.rm svs = some ((C.out a).1, ids)) (hrm : qbJ s C.pm 0 = some (C.out a).2) (hdi : qaY ids = true) : ∃ θ', OutOk C a θ w K (tupV us) w2 K2 θ' := by
 have hlenE : (C.ends a).length = (PM.resL C.pm a).length + ids.length := by
  unfold Ctr.ends
  rw [List.length_append, PM.aft_len, (qcz (fun r e he => (h2.res r e he).2.1) (θ' := θ2.via (qa4 0 ids)) (N := ids.length) (n := 0) hro hus (fun i r hi => by
   show θ2.key (qa4 0 ids (0 + i)) = _
   simp [qa4, List.getD_eq_getElem?_getD, hi]) (by simp)).2.1]
 have hnew : ∀ i r, ids[i]? = some r → qa4 (PM.resL C.pm a).length ids ((PM.resL C.pm a).length + i) = r := fun i r hi => by
  unfold qa4
  rw [if_neg (by omega), Nat.add_sub_cancel_left, List.getD_eq_getElem?_getD, hi]
  rfl
 have hold : ∀ r, r < (PM.resL C.pm a).length → qa4 (PM.resL C.pm a).length ids r = r := fun r hr => by simp [qa4, hr]
 obtain ⟨o1, o2, o3⟩ := qcz (fun r e he => (h2.res r e he).2.1) (θ' := θ2.via (qa4 (PM.resL C.pm a).length ids)) (N := (C.ends a).length) (n := (PM.resL C.pm a).length) hro hus (fun i r hi => by
  show θ2.key (qa4 _ ids _) = _
  rw [hnew i r hi]) (by omega)
 have hmut := qa8 (a := a) hrm (fun j R hj => by
  have hz : (qh8 C.pm a θ w K).frz j = some ⟨R, .ro, true⟩ := by
   show (match (PM.resL C.pm a)[j]? with
    | some (R, false) => some (⟨R, .ro, true⟩ : RE)
    | _ => none) = _
   rw [hj]
  rw [Nat.zero_add]
  exact ⟨_, (h2.frz j _ hz).1, rfl, rfl⟩)
 have hro2 : ∀ j R, (PM.resL C.pm a)[j]? = some (R, false) → θ2.fp j = θ.fp j := fun j R hj => by
  have hz : (qh8 C.pm a θ w K).frz j = some ⟨R, .ro, true⟩ := by
   show (match (PM.resL C.pm a)[j]? with
    | some (R, false) => some (⟨R, .ro, true⟩ : RE)
    | _ => none) = _
   rw [hj]
  exact (h2.frz j _ hz).2
 have hat : ∀ r, r < (C.ends a).length → ∃ e R, s.res (qa4 (PM.resL C.pm a).length ids r) = some e ∧ (C.ends a)[r]? = some R ∧ e.r = R ∧ ((r < (PM.resL C.pm a).length ∧ ((e.org = .par r ∧ ∃ R0, (PM.resL C.pm a)[r]? = some (R0, true)) ∨ (e.org = .ro ∧ ∃ R0, (PM.resL C.pm a)[r]? = some (R0, false)))) ∨ ((PM.resL C.pm a).length ≤ r ∧ e.org = .new ∧ ∃ q, ids[r - (PM.resL C.pm a).length]? = some q ∧ qa4 (PM.resL C.pm a).length ids r = q)) := fun r hr => by
  have hR := List.getElem?_eq_getElem hr
  rcases Nat.lt_or_ge r (PM.resL C.pm a).length with hlt | hge
  ·have hR' : (PM.aft C.pm a (C.out a).2)[r]? = some (C.ends a)[r] := by
    rw [← hR]
    unfold Ctr.ends
    rw [List.getElem?_append_left (by rw [PM.aft_len]; exact hlt)]
   obtain ⟨e, e1, e2, e3⟩ := hmut r _ hR'
   rw [Nat.zero_add] at e1 e3
   refine ⟨e, _, by rw [hold r hlt]; exact e1, hR, e2, .inl ⟨hlt, e3⟩⟩
  ·have hR' : (RM.resL C.rm (C.out a).1)[r - (PM.resL C.pm a).length]? = some (C.ends a)[r] := by
    rw [← hR]
    unfold Ctr.ends
    rw [List.getElem?_append_right (by rw [PM.aft_len]; exact hge), PM.aft_len]
   obtain ⟨q, e, e1, e2, e3, e4⟩ := o3 _ _ hR'
   have hq : qa4 (PM.resL C.pm a).length ids r = q := by
    have := hnew _ q e1
    rwa [show (PM.resL C.pm a).length + (r - (PM.resL C.pm a).length) = r from by omega] at this
   exact ⟨e, _, by rw [hq]; exact e2, hR, e3, .inr ⟨hge, e4, q, e1, hq⟩⟩
 refine ⟨θ2.via (qa4 (PM.resL C.pm a).length ids), ⟨h2.ext, h2.mod, fun r hr => ?_, ⟨us, rfl, o1⟩, ?_, ?_, ?_, ?_⟩⟩
 ·show θ2.key (qa4 _ ids r) = _ ∧ θ2.sur (qa4 _ ids r) = _
  rw [hold r hr]
  exact h2.old r hr
 ·intro r R hR
  obtain ⟨e, R', e1, e2, e3, e4⟩ := hat r (List.getElem?_eq_some_iff.1 hR).1
  rw [hR] at e2
  cases e2
  have hs := (h2.res _ _ e1).2.1
  have hp : R.plain := by
   unfold Ctr.ends at hR
   rcases List.mem_append.1 (List.mem_of_getElem? hR) with hm | hm
   ·exact PM.aft_plain R hm
   ·exact RM.plain R hm
  rw [e3] at hs
  exact Res.sat.move (θ := θ2) (θ' := θ2.via (qa4 (PM.resL C.pm a).length ids)) (r := qa4 (PM.resL C.pm a).length ids r) (r' := r) rfl rfl rfl hp hs
 ·intro r hr g hg
  have hg' : θ2.fp (qa4 (PM.resL C.pm a).length ids r) g := hg
  rw [hold r hr] at hg'
  obtain ⟨e, R', e1, e2, e3, e4⟩ := hat r (by omega)
  rw [hold r hr] at e1
  rcases e4 with ⟨_, ⟨e5, _⟩ | e5⟩ | ⟨e5, _⟩
  ·have ho := (h2.res _ _ e1).2.2
   rw [e5] at ho
   exact (ho g hg').imp (fun h => h.2) (fun h => h)
  ·obtain ⟨_, R0, hx⟩ := e5
   rw [hro2 r R0 hx] at hg'
   exact .inl hg'
  ·omega
 ·intro r hr1 hr2 g hg
  obtain ⟨e, R', e1, e2, e3, e4⟩ := hat r hr2
  rcases e4 with ⟨e5, _⟩ | ⟨_, e5, _⟩
  ·omega
  ·have ho := (h2.res _ _ e1).2.2
   rw [e5] at ho
   exact ho g hg
 ·intro r r' hr hr' hne g hg hg'
  obtain ⟨e, R, e1, _, _, e4⟩ := hat r hr
  obtain ⟨e', R', e1', _, _, e4'⟩ := hat r' hr'
  refine h2.sep _ _ e e' e1 e1' (fun heq => ?_) g hg hg'
  rw [heq] at e1
  rw [e1] at e1'
  cases e1'
  rcases e4 with ⟨a1, a2⟩ | ⟨a1, a2, q, a3, a4⟩ <;> rcases e4' with ⟨b1, b2⟩ | ⟨b1, b2, q', b3, b4⟩
  ·rw [hold r a1, hold r' b1] at heq
   exact hne heq
  ·rcases a2 with ⟨a2, _⟩ | ⟨a2, _⟩ <;> rw [a2] at b2 <;> cases b2
  ·rcases b2 with ⟨b2, _⟩ | ⟨b2, _⟩ <;> rw [b2] at a2 <;> cases a2
  ·rw [a4, b4] at heq
   subst heq
   have := qeT hdi a3 b3
   omega
theorem qiZ (hX : X.ok) (fuel : Nat) (h : ∀ a, C.pre a → PM.wfP C.pm a (fvc X fuel f C a fun o m => o = (C.out a).1 ∧ m = (C.out a).2)) : C.valid X.c.P f := by
 intro a hpre θ vs w K hM hargs
 have hvc := PM.wfP_ok hargs.vals (fun j R u hj => by rw [Nat.zero_add]; exact hargs.sat j R u hj) (h a hpre)
 unfold fvc at hvc
 split at hvc
 ·rename_i fn hfn
  split at hvc
  ·rename_i code hcode
   cases hlen : Nat.ble (PM.svL C.pm a 0).length fn.ntmps with
   | false => rw [hlen] at hvc; exact hvc.elim
   | true =>
     rw [hlen] at hvc
     simp only [cond_true] at hvc
     have hl : vs.length = (PM.svL C.pm a 0).length := qko hargs.vals
     have hlen' : vs.length ≤ fn.ntmps := by rw [hl]; exact Nat.le_of_ble_eq_true hlen
     refine qaR hfn hcode hlen' ((qkM hX (qoK hX) fuel fn.ntmps code (entF C.pm a) _ hvc (qh8 C.pm a θ w K) θ (qfE vs) w K qgB (qox hM hargs)).mono ?_)
     have fin : ∀ (ρ2 : Env) (w2 : World) (K2 : Ghost) (θ2 : Th) (s : St), Rel (qh8 C.pm a θ w K) s θ2 ρ2 w2 K2 → finF X C fn.results s (fun o m => o = (C.out a).1 ∧ m = (C.out a).2) → ∃ v, (resE X.c.P fn.results ρ2).run X.c.P w2 = .ok v w2 ∧ ∃ v' K' θ', Ending.returned v = .returned v' ∧ OutOk C a θ w K v' w2 K' θ' := fun ρ2 w2 K2 θ2 s h2 hk => by
      unfold finF at hk
      obtain ⟨θ3, h3, _⟩ := qfQ X.c qgB (l := qgS fn.results.toList) h2
      split at hk
      ·rename_i svs hsv
       split at hk
       ·rename_i o ids m ho hm
        cases hd : qaY ids with
        | false => rw [hd] at hk; exact hk.elim
        | true =>
          rw [hd] at hk
          obtain ⟨k1, k2⟩ := hk
          subst k1; subst k2
          obtain ⟨us, hus, hrun⟩ := qip hX.c h3 hsv
          obtain ⟨θ', hO⟩ := qsR ρ2 w2 K2 θ3 _ svs us ids h3 hus ho hm hd
          exact ⟨_, hrun, _, K2, θ', rfl, hO⟩
       ·exact hk.elim
      ·exact hk.elim
     rintro e ρ2 w2 ⟨K2, θ2, s, hk2, h2, _⟩
     cases e with
     | normal =>
       obtain ⟨v, h1, v', K', θ', h3, h4⟩ := fin ρ2 w2 K2 θ2 s h2 hk2
       exact ⟨v, h1, v', K', θ', h3, h4⟩
     | ret =>
       obtain ⟨v, h1, v', K', θ', h3, h4⟩ := fin ρ2 w2 K2 θ2 s h2 hk2
       exact ⟨v, h1, v', K', θ', h3, h4⟩
     | exit id => exact hk2.elim
     | goto id => exact hk2.elim
     | panic ch => exact hk2.elim
     | outgrown => exact hk2.elim
  ·exact hvc.elim
 ·exact hvc.elim
end
def qlJ (P : Program) : List (Nat × Bool × Ty × Nat) → Prop
 | [] => True
 | e :: l => TyOk P e.1 e.2.2.1.kd e.2.2.2 ∧ qlJ P l
def qll (P : Program) : List (Nat × Ty × Nat) → Prop
 | [] => True
 | e :: l => @EqK _ P e.1 e.2.1.kd e.2.1.deq e.2.2 ∧ qll P l
def qkC (P : Program) : List Nat → Prop
 | [] => True
 | f :: l => (∀ (args : Array Value) (w : World), (callFunc f args).run P w = .ok (.enter f args) w) ∧ qkC P l
theorem qlJ.all {P : Program} : ∀ {l : List (Nat × Bool × Ty × Nat)}, qlJ P l → ∀ e ∈ l, TyOk P e.1 e.2.2.1.kd e.2.2.2
 | [], _, e, he => by cases he
 | e' :: l, h, e, he => by
   rcases List.mem_cons.1 he with rfl | he
   ·exact h.1
   ·exact qlJ.all h.2 e he
theorem qll.all {P : Program} : ∀ {l : List (Nat × Ty × Nat)}, qll P l → ∀ e ∈ l, @EqK _ P e.1 e.2.1.kd e.2.1.deq e.2.2
 | [], _, e, he => by cases he
 | e' :: l, h, e, he => by
   rcases List.mem_cons.1 he with rfl | he
   ·exact h.1
   ·exact qll.all h.2 e he
theorem qkC.all {P : Program} : ∀ {l : List Nat}, qkC P l → ∀ f ∈ l, ∀ (args : Array Value) (w : World), (callFunc f args).run P w = .ok (.enter f args) w
 | [], _, f, hf => by cases hf
 | f' :: l, h, f, hf => by
   rcases List.mem_cons.1 hf with rfl | hf
   ·exact h.1
   ·exact qkC.all h.2 f hf
def EqT (P : Program) (id : Nat) (t : Ty) (m : Nat) : Prop := @EqK t.den P id t.kd t.deq m
def EqFT (P : Program) (fs : List Field) (off : Nat) (t : Ty) (m : Nat) : Prop := @EqF t.den P fs off t.kd t.deq m
theorem EqT.more {P : Program} {id : Nat} {t : Ty} {m m' : Nat} (h : EqT P id t m) (hm : Nat.ble m m' = true) : EqT P id t m' := @EqK.more _ _ _ _ t.deq _ _ h (Nat.le_of_ble_eq_true hm)
theorem qmq {P : Program} {id : Nat} {ik : IntKind} (ht : P.underlying id = some (.int ik)) : EqT P id (.int ik) 1 := qqQ ht
theorem qbl {P : Program} {id e n b : Nat} (ht : P.underlying id = some (.array n e)) (he : P.underlying e = some (.int .u8)) (hT : TyOk P e (Ty.kd .byte) b) : EqT P id (.arr n .byte) 2 := qqP ht he hT
theorem qe9 {P : Program} {f : Field} {off m b : Nat} {t : Ty} (hT : TyOk P f.type t.kd b) (ho : Nat.beq f.offset off = true) (hn : f.name ≠ "_") (hE : EqT P f.type t m) : EqFT P [f] off t m := @qqO _ _ _ _ t.deq _ _ _ hT ho hn hE
theorem qaS {P : Program} {fs : List Field} {f : Field} {off m b : Nat} {t u : Ty} (hT : TyOk P f.type t.kd b) (ho : Nat.beq f.offset off = true) (hn : f.name ≠ "_") (hE : EqT P f.type t m) (hF : EqFT P fs (off + t.kd.sz) u m) : EqFT P (f :: fs) off (.pr t u) m := @qoz _ _ _ _ _ _ t.deq u.deq _ _ _ _ hT ho hn hE hF
theorem qdd {P : Program} {id m : Nat} {fs : Array Field} {t : Ty} (ht : P.underlying id = some (.struct fs)) (hp : P.stoodInHeld id = false) (ha : t.kd.agg = true) (hF : EqFT P fs.toList 0 t m) : EqT P id t (m + 1) := @qkL _ _ _ _ t.deq _ _ ht hp ha hF
end Go.Inc

set_option linter.unusedVariables false
namespace Go.Inc
open Go Go.RowKit
def conj : List Prop → Prop
 | [] => True
 | [p] => p
 | p :: q :: l => p ∧ conj (q :: l)
theorem qd1 {p : Prop} {l : List Prop} : conj (p :: l) = (p ∧ conj l) := by
 cases l with
 | nil => simp [conj]
 | cons q l => rfl
def eqRL : (l : List RM) → RM.denL l → RM.denL l → List Prop → List Prop
 | [], _, _, L => L
 | m :: l, x, y, L => (x.1 = y.1) :: eqRL l x.2 y.2 L
def eqML : (l : List PM) → PM.MD l → PM.MD l → List Prop
 | [], _, _ => []
 | .v _ :: l, x, y => eqML l x y
 | .nil :: l, x, y => eqML l x y
 | .snil :: l, x, y => eqML l x y
 | .bx _ true :: l, x, y => (x.1 = y.1) :: eqML l x.2 y.2
 | .bk _ true :: l, x, y => (x.1 = y.1) :: eqML l x.2 y.2
 | .rw _ _ true :: l, x, y => (x.1 = y.1) :: eqML l x.2 y.2
 | .rw _ _ false :: l, x, y => eqML l x y
 | .bx _ false :: l, x, y => eqML l x y
 | .bk _ false :: l, x, y => eqML l x y
 | .fn _ _ :: l, x, y => eqML l x y
theorem qmp : ∀ {l : List RM} {x y : RM.denL l} {L : List Prop}, conj (eqRL l x y L) = (x = y ∧ conj L)
 | [], x, y, L => by cases x; cases y; simp [eqRL]
 | m :: l, x, y, L => by
   obtain ⟨x1, x2⟩ := x
   obtain ⟨y1, y2⟩ := y
   rw [eqRL, qd1, qmp]
   simp only [Prod.mk.injEq, and_assoc]
theorem qb2 : ∀ {l : List PM} {x y : PM.MD l}, conj (eqML l x y) = (x = y)
 | [], x, y => by cases x; cases y; simp [eqML, conj]
 | .v _ :: l, x, y => qb2 (l := l)
 | .nil :: l, x, y => qb2 (l := l)
 | .snil :: l, x, y => qb2 (l := l)
 | .bx _ true :: l, x, y => by
   obtain ⟨x1, x2⟩ := x
   obtain ⟨y1, y2⟩ := y
   rw [eqML, qd1, qb2 (l := l)]
   simp only [Prod.mk.injEq]
 | .rw _ _ true :: l, x, y => by
   obtain ⟨x1, x2⟩ := x
   obtain ⟨y1, y2⟩ := y
   rw [eqML, qd1, qb2 (l := l)]
   simp only [Prod.mk.injEq]
 | .rw _ _ false :: l, x, y => qb2 (l := l)
 | .bk _ true :: l, x, y => by
   obtain ⟨x1, x2⟩ := x
   obtain ⟨y1, y2⟩ := y
   rw [eqML, qd1, qb2 (l := l)]
   simp only [Prod.mk.injEq]
 | .bx _ false :: l, x, y => qb2 (l := l)
 | .bk _ false :: l, x, y => qb2 (l := l)
 | .fn _ _ :: l, x, y => qb2 (l := l)
def eqO (C : Ctr) (a : PM.denL C.pm) (o : RM.denL C.rm) (m : PM.MD C.pm) : Prop := conj (eqRL C.rm o (C.out a).1 (eqML C.pm m (C.out a).2))
theorem qsE {C : Ctr} {a : PM.denL C.pm} : eqO C a = fun o m => o = (C.out a).1 ∧ m = (C.out a).2 := by
 funext o m
 rw [eqO, qmp, qb2]
theorem qaz {X : Fx} {C : Ctr} {f : Nat} (hX : X.ok) (fuel : Nat) (h : ∀ a, C.pre a → PM.wfP C.pm a (fvc X fuel f C a (eqO C a))) : C.valid X.c.P f := qiZ hX fuel fun a hp => by
 have := h a hp
 rwa [qsE] at this
theorem qaV {c : Seat} {bk : Option Bk} {fns : List Nat} {ctr : List (Nat × Ctr)} {inl : List Nat} {lps : List (Nat × List Nat × List Nat)} {ords : List (Nat × List Nat × List It)} (hc : c.ok) (hb : ∀ b, bk = some b → TyOk c.P b.t qd6 b.bytes) (hf : qkC c.P fns) (h : qjG c.P ctr) : Fx.ok ⟨c, bk, fns, ctr, inl, lps, ords⟩ := ⟨hc, hb, hf.all, h⟩
end Go.Inc

set_option linter.unusedVariables false
namespace Go.Inc
open Go Go.RowKit
section
variable {P : Program} {f : FuncId} {pm : List PM} {e : Nat} {k : Ty} {w w' : World} {K K' : Ghost} {θ : Th}
theorem qhb {l : List PM} {a : PM.denL l} {b : PM.MD l} (h : PM.resL l a = []) : PM.aft l a b = [] := by
 have := PM.aft_len (l := l) (a := a) (b := b)
 rw [h] at this
 exact List.length_eq_zero_iff.1 this
theorem qbM {t : Ty} {x : t.den} {n : Nat} {v : Value} (h : (SVal.of t x).rel θ n K v) (ho : (SVal.of t x).to t = some x) : t.kd.V K x v := SVal.to_rel ho h
theorem br_v {C : Ctr} (h0 : ∀ a, PM.resL C.pm a = []) (h1 : ∀ x, RM.resL C.rm x = []) (old : ∀ a, C.pre a → ∀ (θ : Th) (vs : List Value) (w : World) (K : Ghost), Models w K → SVal.relL θ 0 K (PM.svL C.pm a 0) vs → Calls P f vs.toArray w fun e w' => ∃ K' rs, e = .returned (tupV rs) ∧ Ext NX w K w' K' ∧ Models w' K' ∧ SVal.relL θ 0 K' (RM.svL C.rm (C.out a).1 0) rs) : C.valid P f := by
 intro a hp θ vs w K hM hA
 have hv := hA.vals
 rw [h0] at hv
 refine (old a hp θ vs w K hM hv).mono ?_
 rintro ed w' ⟨K', rs, rfl, hE, hM', hr⟩
 have hends : C.ends a = [] := by unfold Ctr.ends; rw [h1, qhb (h0 a)]; rfl
 refine ⟨_, K', θ, rfl, hE.weak fun _ _ h => h.elim, hM', Th.upto.refl _ _, ⟨rs, rfl, ?_⟩, fun r R hR => ?_, fun r hr => ?_, fun r h1 h2 => ?_, fun r r' h1 => ?_⟩
 ·rw [hends, h0]; exact hr
 ·rw [hends] at hR; simp at hR
 ·rw [h0] at hr; simp at hr
 ·rw [hends] at h2; simp at h2
 ·rw [hends] at h1; simp at h1
theorem qsA {pr : Option (PM.denL pm → Prop)} {out : PM.denL pm → RM.denL [.ow e k] × PM.MD pm} (h0 : ∀ a, PM.resL pm a = []) (old : ∀ a, Ctr.pre ⟨pm, [.ow e k], pr, out⟩ a → ∀ (θ : Th) (vs : List Value) (w : World) (K : Ghost), Models w K → SVal.relL θ 0 K (PM.svL pm a 0) vs → Calls P f vs.toArray w fun ed w' => ∃ K' r0, ed = .returned r0 ∧ Ext NX w K w' K' ∧ Models w' K' ∧ Own k.kd e w' K' (out a).1.1 r0 ∧ (∀ g, ob r0 = some g → w.heap.size ≤ g)) : Ctr.valid P f ⟨pm, [.ow e k], pr, out⟩ := by
 intro a hp θ vs w K hM hA
 have hv := hA.vals
 rw [h0] at hv
 refine (old a hp θ vs w K hM hv).mono ?_
 rintro ed w' ⟨K', r0, rfl, hE, hM', hO, hg⟩
 have hends : Ctr.ends ⟨pm, [.ow e k], pr, out⟩ a = [.ow e k (out a).1.1] := by unfold Ctr.ends; rw [qhb (h0 a)]; rfl
 refine ⟨_, K', θ.set 0 r0 (fun g => ob r0 = some g) ([], []), rfl, hE.weak fun _ _ h => h.elim, hM', ?_, ⟨[r0], rfl, ?_⟩, fun r R hR => ?_, fun r hr => ?_, fun r h1 h2 => ?_, fun r r' h1 h2 h3 => ?_⟩
 ·intro r hr
  rw [h0] at hr
  simp at hr
 ·rw [hends, h0]
  exact ⟨r0, [], rfl, ⟨Nat.zero_lt_one, hO.V, Th.set_key⟩, rfl⟩
 ·rw [hends] at hR
  cases r with
  | succ r => simp at hR
  | zero =>
    simp at hR
    subst hR
    exact ⟨by rw [Th.set_key]; exact hO, fun g => by rw [Th.set_fp, Th.set_key]⟩
 ·rw [h0] at hr; simp at hr
 ·intro g hg'
  rw [hends] at h2
  have : r = 0 := by simpa using h2
  subst this
  rw [Th.set_fp] at hg'
  exact hg g hg'
 ·rw [hends] at h1 h2
  simp at h1 h2
  omega
theorem qtI {rm : List RM} {pr : Option (PM.denL (.bk e true :: pm) → Prop)} {out : PM.denL (.bk e true :: pm) → RM.denL rm × PM.MD (.bk e true :: pm)} (h0 : ∀ a, PM.resL pm a = []) (h1 : ∀ x, RM.resL rm x = []) (old : ∀ a, Ctr.pre ⟨.bk e true :: pm, rm, pr, out⟩ a → ∀ (θ : Th) (v : Value) (F : Nat → Prop) (vs : List Value) (w : World) (K : Ghost), Models w K → qaW e w K v F a.1 → SVal.relL θ 1 K (PM.svL pm a.2 1) vs → Calls P f (v :: vs).toArray w fun ed w' => ∃ K' rs F0, ed = .returned (tupV rs) ∧ Ext F w K w' K' ∧ Models w' K' ∧ (∀ θ', SVal.relL θ' 1 K' (RM.svL rm (out a).1 1) rs) ∧ qaW e w' K' v F0 (out a).2.1 ∧ (∀ g, F0 g → F g ∨ w.heap.size ≤ g)) : Ctr.valid P f ⟨.bk e true :: pm, rm, pr, out⟩ := by
 intro a hp θ vs w K hM hA
 have hres : PM.resL (.bk e true :: pm) a = [(.bk e a.1, true)] := by
  show PM.res (.bk e true) a.1 ++ PM.resL pm a.2 = _
  rw [h0]
  rfl
 have hv := hA.vals
 rw [hres] at hv
 obtain ⟨v, vs, rfl, hv1, hv2⟩ := hv
 have hsat : (Res.bk e a.1).sat θ 0 1 w K := by
  have := hA.sat 0 (.bk e a.1) true (by rw [hres]; rfl)
  rwa [hres] at this
 have hkey : θ.key 0 = v := hv1.2
 have hB : qaW e w K v (θ.fp 0) a.1 := hkey ▸ hsat
 refine (old a hp θ v _ vs w K hM hB hv2).mono ?_
 rintro ed w' ⟨K', rs, F0, rfl, hE, hM', hr, hB', hg⟩
 have hends : Ctr.ends ⟨.bk e true :: pm, rm, pr, out⟩ a = [.bk e (out a).2.1] := by
  unfold Ctr.ends
  rw [h1]
  show .bk e (out a).2.1 :: PM.aft pm a.2 (out a).2.2 ++ [] = _
  rw [qhb (h0 a.2)]
  rfl
 refine ⟨_, K', θ.set 0 v F0 (θ.sur 0), rfl, hE.weak fun g _ hg => ⟨0, .bk e a.1, by rw [hres]; rfl, hg⟩, hM', ?_, ⟨rs, rfl, ?_⟩, fun r R hR => ?_, fun r hr g hg' => ?_, fun r h1 h2 => ?_, fun r r' h1 h2 h3 => ?_⟩
 ·intro r hr
  rw [hres] at hr
  have : r = 0 := by simpa using hr
  subst this
  exact ⟨by rw [Th.set_key, hkey], Th.set_sur⟩
 ·rw [hends, hres]; exact hr _
 ·rw [hends] at hR
  cases r with
  | succ r => simp at hR
  | zero =>
    simp at hR
    subst hR
    show qaW e w' K' ((θ.set 0 v F0 (θ.sur 0)).key 0) ((θ.set 0 v F0 (θ.sur 0)).fp 0) _
    rw [Th.set_key, Th.set_fp]
    exact hB'
 ·rw [hres] at hr
  have : r = 0 := by simpa using hr
  subst this
  rw [Th.set_fp] at hg'
  exact hg g hg'
 ·rw [hres] at h1
  rw [hends] at h2
  simp at h1 h2
  omega
 ·rw [hends] at h1 h2
  simp at h1 h2
  omega
theorem qpk {pr : Option (PM.denL pm → Prop)} {out : PM.denL pm → RM.denL [.ow e k] × PM.MD pm} (h : Ctr.valid P f ⟨pm, [.ow e k], pr, out⟩) (h0 : ∀ a, PM.resL pm a = []) {a : PM.denL pm} {vs : List Value} (hp : Ctr.pre ⟨pm, [.ow e k], pr, out⟩ a) (hM : Models w K) (hv : ∀ θ, SVal.relL θ 0 K (PM.svL pm a 0) vs) : Calls P f vs.toArray w fun ed w' => ∃ K' r0, ed = .returned r0 ∧ Ext NX w K w' K' ∧ Models w' K' ∧ Own k.kd e w' K' (out a).1.1 r0 ∧ (∀ g, ob r0 = some g → w.heap.size ≤ g) := by
 refine (h a hp ⟨fun _ => .bool false, fun _ _ => False, fun _ => ([], [])⟩ vs w K hM ⟨by rw [h0]; exact hv _, fun r R m hr => by rw [h0] at hr; simp at hr, fun r r' hr => by rw [h0] at hr; simp at hr⟩).mono ?_
 rintro ed w' ⟨v, K', θ', rfl, hO⟩
 have hends : Ctr.ends ⟨pm, [.ow e k], pr, out⟩ a = [.ow e k (out a).1.1] := by unfold Ctr.ends; rw [qhb (h0 a)]; rfl
 obtain ⟨us, rfl, hus⟩ := hO.val
 rw [hends, h0] at hus
 obtain ⟨r0, us, rfl, ⟨_, hV, hkey⟩, hnil⟩ := hus
 have hnil' : us = [] := hnil
 subst hnil'
 have hs := hO.sat 0 _ (by rw [hends]; rfl)
 obtain ⟨hs1, hs2⟩ := hs
 have hkey : θ'.key 0 = r0 := hkey
 have hE : Ext NX w K w' K' := by
  refine hO.ext.weak ?_
  rintro g _ ⟨r, R, hr, _⟩
  rw [h0] at hr
  simp at hr
 refine ⟨K', r0, rfl, hE, hO.mod, by rw [← hkey]; exact hs1, fun g hg => hO.new 0 (by rw [h0]; exact Nat.le_refl _) (by rw [hends]; exact Nat.zero_lt_one) g ((hs2 g).2 (by rw [hkey]; exact hg))⟩
theorem un_v {t : Ty} {pr : Option (PM.denL pm → Prop)} {out : PM.denL pm → RM.denL [.v t] × PM.MD pm} (h : Ctr.valid P f ⟨pm, [.v t], pr, out⟩) (h0 : ∀ a, PM.resL pm a = []) (ho : ∀ x : t.den, (SVal.of t x).to t = some x) {a : PM.denL pm} {vs : List Value} (hp : Ctr.pre ⟨pm, [.v t], pr, out⟩ a) (hM : Models w K) (hv : ∀ θ, SVal.relL θ 0 K (PM.svL pm a 0) vs) : Calls P f vs.toArray w fun ed w' => ∃ K' r0, ed = .returned r0 ∧ Ext NX w K w' K' ∧ Models w' K' ∧ t.kd.V K' (out a).1.1 r0 := by
 refine (h a hp ⟨fun _ => .bool false, fun _ _ => False, fun _ => ([], [])⟩ vs w K hM ⟨by rw [h0]; exact hv _, fun r R m hr => by rw [h0] at hr; simp at hr, fun r r' hr => by rw [h0] at hr; simp at hr⟩).mono ?_
 rintro ed w' ⟨v, K', θ', rfl, hO⟩
 obtain ⟨us, rfl, hus⟩ := hO.val
 obtain ⟨r0, us, rfl, hr, hnil⟩ := hus
 have hnil' : us = [] := hnil
 subst hnil'
 have hE : Ext NX w K w' K' := by
  refine hO.ext.weak ?_
  rintro g _ ⟨r, R, hr, _⟩
  rw [h0] at hr
  simp at hr
 exact ⟨K', r0, rfl, hE, hO.mod, qbM hr (ho _)⟩
end
end Go.Inc

set_option linter.unusedVariables false
set_option maxRecDepth 100000
set_option maxHeartbeats 2000000
namespace Go.Proofs.Ytmjjkpiglbpkhaa
open Go Go.RowKit Go.Inc
theorem tt2 : TyOk Try.prog 2 (Ty.kd (.int .i64)) 8 := ⟨⟨Try.t2, _, Try.type2, rfl, rfl, rfl, rfl, rfl⟩, ⟨_, Try.underlying2, rfl⟩⟩
theorem tt3 : TyOk Try.prog 3 (Ty.kd (.int .i64)) 8 := ⟨⟨Try.t3, _, Try.type3, rfl, rfl, rfl, rfl, rfl⟩, ⟨_, Try.underlying3, rfl⟩⟩
theorem tt4 : TyOk Try.prog 4 (Ty.kd (.bool)) 1 := ⟨⟨Try.t4, _, Try.type4, rfl, rfl, rfl, rfl, rfl⟩, ⟨_, Try.underlying4, rfl⟩⟩
theorem tt5 : TyOk Try.prog 5 (Ty.kd (.int .u8)) 1 := ⟨⟨Try.t5, _, Try.type5, rfl, rfl, rfl, rfl, rfl⟩, ⟨_, Try.underlying5, rfl⟩⟩
theorem tt5b : TyOk Try.prog 5 (Ty.kd (.byte)) 1 := ⟨⟨Try.t5, _, Try.type5, rfl, rfl, rfl, rfl, rfl⟩, ⟨_, Try.underlying5, rfl⟩⟩
theorem tt9 : TyOk Try.prog 9 (Ty.kd (.str)) 16 := ⟨⟨Try.t9, _, Try.type9, rfl, rfl, rfl, rfl, rfl⟩, ⟨_, Try.underlying9, rfl⟩⟩
theorem tt12 : TyOk Try.prog 12 (Ty.kd (.int .u64)) 8 := ⟨⟨Try.t12, _, Try.type12, rfl, rfl, rfl, rfl, rfl⟩, ⟨_, Try.underlying12, rfl⟩⟩
theorem tt13 : TyOk Try.prog 13 (Ty.kd (.pr .str (.int .u64))) 24 := ⟨⟨Try.t13, _, Try.type13, rfl, rfl, rfl, rfl, rfl⟩, ⟨_, Try.underlying13, rfl⟩⟩
theorem tt21 : TyOk Try.prog 21 (Ty.kd (.int .i32)) 4 := ⟨⟨Try.t21, _, Try.type21, rfl, rfl, rfl, rfl, rfl⟩, ⟨_, Try.underlying21, rfl⟩⟩
theorem tt22 : TyOk Try.prog 22 (Ty.kd (.sl .str)) 24 := ⟨⟨Try.t22, _, Try.type22, rfl, rfl, rfl, rfl, rfl⟩, ⟨_, Try.underlying22, rfl⟩⟩
theorem tt23 : TyOk Try.prog 23 (Ty.kd (.int .u64)) 8 := ⟨⟨Try.t23, _, Try.type23, rfl, rfl, rfl, rfl, rfl⟩, ⟨_, Try.underlying23, rfl⟩⟩
theorem tt24 : TyOk Try.prog 24 (Ty.kd (.arr 32 .byte)) 32 := ⟨⟨Try.t24, _, Try.type24, rfl, rfl, rfl, rfl, rfl⟩, ⟨_, Try.underlying24, rfl⟩⟩
theorem tt25 : TyOk Try.prog 25 (Ty.kd (.pr (.int .u64) (.pr (.arr 32 .byte) (.pr (.arr 32 .byte) (.pr (.arr 32 .byte) (.pr (.arr 32 .byte) (.arr 32 .byte))))))) 168 := ⟨⟨Try.t25, _, Try.type25, rfl, rfl, rfl, rfl, rfl⟩, ⟨_, Try.underlying25, rfl⟩⟩
theorem tt26 : TyOk Try.prog 26 (Ty.kd (.pr (.int .u64) (.pr (.arr 32 .byte) (.pr (.arr 32 .byte) (.pr (.arr 32 .byte) (.pr (.arr 32 .byte) (.arr 32 .byte))))))) 168 := ⟨⟨Try.t26, _, Try.type26, rfl, rfl, rfl, rfl, rfl⟩, ⟨_, Try.underlying26, rfl⟩⟩
theorem tt27 : TyOk Try.prog 27 (Ty.kd (.pr (.arr 32 .byte) (.pr (.arr 32 .byte) (.arr 32 .byte)))) 96 := ⟨⟨Try.t27, _, Try.type27, rfl, rfl, rfl, rfl, rfl⟩, ⟨_, Try.underlying27, rfl⟩⟩
theorem tt28 : TyOk Try.prog 28 (Ty.kd (.pr (.arr 32 .byte) (.pr (.arr 32 .byte) (.arr 32 .byte)))) 96 := ⟨⟨Try.t28, _, Try.type28, rfl, rfl, rfl, rfl, rfl⟩, ⟨_, Try.underlying28, rfl⟩⟩
theorem tt32 : TyOk Try.prog 32 (Ty.kd (.sl .byte)) 24 := ⟨⟨Try.t32, _, Try.type32, rfl, rfl, rfl, rfl, rfl⟩, ⟨_, Try.underlying32, rfl⟩⟩
theorem tt35 : TyOk Try.prog 35 (Ty.kd (.hpt)) 8 := ⟨⟨Try.t35, _, Try.type35, rfl, rfl, rfl, rfl, rfl⟩, ⟨_, Try.underlying35, rfl⟩⟩
theorem qul : TyOk Try.prog 35 (Ty.kd (.ptr (.pr (.pr (.sl (.pr (.arr 32 .byte) (.sl .byte))) .anm) (.int .i64)))) 8 := ⟨⟨Try.t35, _, Try.type35, rfl, rfl, rfl, rfl, rfl⟩, ⟨_, Try.underlying35, rfl⟩⟩
theorem tt36 : TyOk Try.prog 36 (Ty.kd (.sl (.pr (.arr 32 .byte) (.sl .byte)))) 24 := ⟨⟨Try.t36, _, Try.type36, rfl, rfl, rfl, rfl, rfl⟩, ⟨_, Try.underlying36, rfl⟩⟩
theorem tt38 : TyOk Try.prog 38 (Ty.kd (.pr (.sl (.pr (.arr 32 .byte) (.sl .byte))) (.hmp (.arr 32 .byte) (.int .i64)))) 32 := ⟨⟨Try.t38, _, Try.type38, rfl, rfl, rfl, rfl, rfl⟩, ⟨_, Try.underlying38, rfl⟩⟩
theorem qum : TyOk Try.prog 38 (Ty.kd (.pr (.sl (.pr (.arr 32 .byte) (.sl .byte))) .anm)) 32 := ⟨⟨Try.t38, _, Try.type38, rfl, rfl, rfl, rfl, rfl⟩, ⟨_, Try.underlying38, rfl⟩⟩
theorem tt39 : TyOk Try.prog 39 (Ty.kd (.pr (.hsl 146 (.pr (.arr 32 .byte) (.sl .byte))) (.hmp (.arr 32 .byte) (.int .i64)))) 32 := ⟨⟨Try.t39, _, Try.type39, rfl, rfl, rfl, rfl, rfl⟩, ⟨_, Try.underlying39, rfl⟩⟩
theorem qun : TyOk Try.prog 39 (Ty.kd (.pr (.sl (.pr (.arr 32 .byte) (.sl .byte))) .anm)) 32 := ⟨⟨Try.t39, _, Try.type39, rfl, rfl, rfl, rfl, rfl⟩, ⟨_, Try.underlying39, rfl⟩⟩
theorem tt40 : TyOk Try.prog 40 (Ty.kd (.pr (.pr (.hsl 146 (.pr (.arr 32 .byte) (.sl .byte))) (.hmp (.arr 32 .byte) (.int .i64))) (.int .i64))) 40 := ⟨⟨Try.t40, _, Try.type40, rfl, rfl, rfl, rfl, rfl⟩, ⟨_, Try.underlying40, rfl⟩⟩
theorem qup : TyOk Try.prog 40 (Ty.kd (.pr (.pr (.sl (.pr (.arr 32 .byte) (.sl .byte))) .anm) (.int .i64))) 40 := ⟨⟨Try.t40, _, Try.type40, rfl, rfl, rfl, rfl, rfl⟩, ⟨_, Try.underlying40, rfl⟩⟩
theorem tt41 : TyOk Try.prog 41 (Ty.kd (.pr (.pr (.hsl 146 (.pr (.arr 32 .byte) (.sl .byte))) (.hmp (.arr 32 .byte) (.int .i64))) (.int .i64))) 40 := ⟨⟨Try.t41, _, Try.type41, rfl, rfl, rfl, rfl, rfl⟩, ⟨_, Try.underlying41, rfl⟩⟩
theorem quq : TyOk Try.prog 41 (Ty.kd (.pr (.pr (.sl (.pr (.arr 32 .byte) (.sl .byte))) .anm) (.int .i64))) 40 := ⟨⟨Try.t41, _, Try.type41, rfl, rfl, rfl, rfl, rfl⟩, ⟨_, Try.underlying41, rfl⟩⟩
theorem tt46 : TyOk Try.prog 46 (Ty.kd (.hpt)) 8 := ⟨⟨Try.t46, _, Try.type46, rfl, rfl, rfl, rfl, rfl⟩, ⟨_, Try.underlying46, rfl⟩⟩
theorem qur : TyOk Try.prog 46 (Ty.kd (.ptr (.st (.pr (.sl .byte) .bool)))) 8 := ⟨⟨Try.t46, _, Try.type46, rfl, rfl, rfl, rfl, rfl⟩, ⟨_, Try.underlying46, rfl⟩⟩
theorem tt49 : TyOk Try.prog 49 (Ty.kd (.int .i64)) 8 := ⟨⟨Try.t49, _, Try.type49, rfl, rfl, rfl, rfl, rfl⟩, ⟨_, Try.underlying49, rfl⟩⟩
theorem tt53 : TyOk Try.prog 53 (Ty.kd (.sl (.pr (.sl .byte) (.sl .byte)))) 24 := ⟨⟨Try.t53, _, Try.type53, rfl, rfl, rfl, rfl, rfl⟩, ⟨_, Try.underlying53, rfl⟩⟩
theorem tt56 : TyOk Try.prog 56 (Ty.kd (.pr (.sl .byte) (.sl .byte))) 48 := ⟨⟨Try.t56, _, Try.type56, rfl, rfl, rfl, rfl, rfl⟩, ⟨_, Try.underlying56, rfl⟩⟩
theorem tt57 : TyOk Try.prog 57 (Ty.kd (.pr (.sl .byte) (.sl .byte))) 48 := ⟨⟨Try.t57, _, Try.type57, rfl, rfl, rfl, rfl, rfl⟩, ⟨_, Try.underlying57, rfl⟩⟩
theorem tt61 : TyOk Try.prog 61 (Ty.kd (.sl (.pr (.int .i64) (.pr (.pr (.sl .byte) (.sl .byte)) (.sl (.arr 32 .byte)))))) 24 := ⟨⟨Try.t61, _, Try.type61, rfl, rfl, rfl, rfl, rfl⟩, ⟨_, Try.underlying61, rfl⟩⟩
theorem tt62 : TyOk Try.prog 62 (Ty.kd (.pr (.int .i64) (.sl (.pr (.int .i64) (.pr (.pr (.sl .byte) (.sl .byte)) (.sl (.arr 32 .byte))))))) 32 := ⟨⟨Try.t62, _, Try.type62, rfl, rfl, rfl, rfl, rfl⟩, ⟨_, Try.underlying62, rfl⟩⟩
theorem tt63 : TyOk Try.prog 63 (Ty.kd (.pr (.int .i64) (.sl (.pr (.int .i64) (.pr (.pr (.sl .byte) (.sl .byte)) (.sl (.arr 32 .byte))))))) 32 := ⟨⟨Try.t63, _, Try.type63, rfl, rfl, rfl, rfl, rfl⟩, ⟨_, Try.underlying63, rfl⟩⟩
theorem tt80 : TyOk Try.prog 80 (Ty.kd (.sl (.arr 32 .byte))) 24 := ⟨⟨Try.t80, _, Try.type80, rfl, rfl, rfl, rfl, rfl⟩, ⟨_, Try.underlying80, rfl⟩⟩
theorem tt81 : TyOk Try.prog 81 (Ty.kd (.pr (.int .i64) (.pr (.pr (.sl .byte) (.sl .byte)) (.sl (.arr 32 .byte))))) 80 := ⟨⟨Try.t81, _, Try.type81, rfl, rfl, rfl, rfl, rfl⟩, ⟨_, Try.underlying81, rfl⟩⟩
theorem tt82 : TyOk Try.prog 82 (Ty.kd (.pr (.int .i64) (.pr (.pr (.sl .byte) (.sl .byte)) (.sl (.arr 32 .byte))))) 80 := ⟨⟨Try.t82, _, Try.type82, rfl, rfl, rfl, rfl, rfl⟩, ⟨_, Try.underlying82, rfl⟩⟩
theorem tt89 : TyOk Try.prog 89 (Ty.kd (.sl (.pr (.int .i64) (.pr (.int .i64) (.pr (.sl (.sl .byte)) (.pr (.arr 32 .byte) (.sl .byte))))))) 24 := ⟨⟨Try.t89, _, Try.type89, rfl, rfl, rfl, rfl, rfl⟩, ⟨_, Try.underlying89, rfl⟩⟩
theorem tt91 : TyOk Try.prog 91 (Ty.kd (.hpt)) 8 := ⟨⟨Try.t91, _, Try.type91, rfl, rfl, rfl, rfl, rfl⟩, ⟨_, Try.underlying91, rfl⟩⟩
theorem quw : TyOk Try.prog 91 (Ty.kd (.ptr (.pr (.sl (.pr (.arr 32 .byte) .str)) (.int .i64)))) 8 := ⟨⟨Try.t91, _, Try.type91, rfl, rfl, rfl, rfl, rfl⟩, ⟨_, Try.underlying91, rfl⟩⟩
theorem tt92 : TyOk Try.prog 92 (Ty.kd (.sl (.pr (.arr 32 .byte) .str))) 24 := ⟨⟨Try.t92, _, Try.type92, rfl, rfl, rfl, rfl, rfl⟩, ⟨_, Try.underlying92, rfl⟩⟩
theorem tt93 : TyOk Try.prog 93 (Ty.kd (.pr (.sl (.pr (.arr 32 .byte) .str)) (.int .i64))) 32 := ⟨⟨Try.t93, _, Try.type93, rfl, rfl, rfl, rfl, rfl⟩, ⟨_, Try.underlying93, rfl⟩⟩
theorem tt94 : TyOk Try.prog 94 (Ty.kd (.pr (.sl (.pr (.arr 32 .byte) .str)) (.int .i64))) 32 := ⟨⟨Try.t94, _, Try.type94, rfl, rfl, rfl, rfl, rfl⟩, ⟨_, Try.underlying94, rfl⟩⟩
theorem tt96 : TyOk Try.prog 96 (Ty.kd (.sl (.sl .byte))) 24 := ⟨⟨Try.t96, _, Try.type96, rfl, rfl, rfl, rfl, rfl⟩, ⟨_, Try.underlying96, rfl⟩⟩
theorem tt97 : TyOk Try.prog 97 (Ty.kd (.pr (.int .i64) (.pr (.int .i64) (.pr (.sl (.sl .byte)) (.pr (.arr 32 .byte) (.sl .byte)))))) 96 := ⟨⟨Try.t97, _, Try.type97, rfl, rfl, rfl, rfl, rfl⟩, ⟨_, Try.underlying97, rfl⟩⟩
theorem tt98 : TyOk Try.prog 98 (Ty.kd (.pr (.int .i64) (.pr (.int .i64) (.pr (.sl (.sl .byte)) (.pr (.arr 32 .byte) (.sl .byte)))))) 96 := ⟨⟨Try.t98, _, Try.type98, rfl, rfl, rfl, rfl, rfl⟩, ⟨_, Try.underlying98, rfl⟩⟩
theorem qtS : TyOk Try.prog 107 (Ty.kd (.sl (.ptr (.pr (.pr (.sl (.pr (.arr 32 .byte) (.sl .byte))) .anm) (.int .i64))))) 24 := ⟨⟨Try.t107, _, Try.type107, rfl, rfl, rfl, rfl, rfl⟩, ⟨_, Try.underlying107, rfl⟩⟩
theorem qtT : TyOk Try.prog 115 (Ty.kd (.hpt)) 8 := ⟨⟨Try.t115, _, Try.type115, rfl, rfl, rfl, rfl, rfl⟩, ⟨_, Try.underlying115, rfl⟩⟩
theorem qsY : TyOk Try.prog 115 (Ty.kd (.ptr (.arr 32 .byte))) 8 := ⟨⟨Try.t115, _, Try.type115, rfl, rfl, rfl, rfl, rfl⟩, ⟨_, Try.underlying115, rfl⟩⟩
theorem qtU : TyOk Try.prog 116 (Ty.kd (.arr 5 (.ptr (.arr 32 .byte)))) 40 := ⟨⟨Try.t116, _, Try.type116, rfl, rfl, rfl, rfl, rfl⟩, ⟨_, Try.underlying116, rfl⟩⟩
theorem qtV : TyOk Try.prog 118 (Ty.kd (.hpt)) 8 := ⟨⟨Try.t118, _, Try.type118, rfl, rfl, rfl, rfl, rfl⟩, ⟨_, Try.underlying118, rfl⟩⟩
theorem qsZ : TyOk Try.prog 118 (Ty.kd (.ptr (.pr (.int .u64) (.pr (.arr 32 .byte) (.pr (.arr 32 .byte) (.pr (.arr 32 .byte) (.pr (.arr 32 .byte) (.arr 32 .byte)))))))) 8 := ⟨⟨Try.t118, _, Try.type118, rfl, rfl, rfl, rfl, rfl⟩, ⟨_, Try.underlying118, rfl⟩⟩
theorem qtW : TyOk Try.prog 121 (Ty.kd (.pr (.pr (.int .u64) (.pr (.arr 32 .byte) (.pr (.arr 32 .byte) (.pr (.arr 32 .byte) (.pr (.arr 32 .byte) (.arr 32 .byte)))))) (.arr 32 .byte))) 200 := ⟨⟨Try.t121, _, Try.type121, rfl, rfl, rfl, rfl, rfl⟩, ⟨_, Try.underlying121, rfl⟩⟩
theorem qtX : TyOk Try.prog 122 (Ty.kd (.pr (.pr (.int .u64) (.pr (.arr 32 .byte) (.pr (.arr 32 .byte) (.pr (.arr 32 .byte) (.pr (.arr 32 .byte) (.arr 32 .byte)))))) (.arr 32 .byte))) 200 := ⟨⟨Try.t122, _, Try.type122, rfl, rfl, rfl, rfl, rfl⟩, ⟨_, Try.underlying122, rfl⟩⟩
theorem qtY : TyOk Try.prog 124 (Ty.kd (.pr (.sl .byte) .bool)) 32 := ⟨⟨Try.t124, _, Try.type124, rfl, rfl, rfl, rfl, rfl⟩, ⟨_, Try.underlying124, rfl⟩⟩
theorem qtZ : TyOk Try.prog 125 (Ty.kd (.pr (.sl .byte) .bool)) 32 := ⟨⟨Try.t125, _, Try.type125, rfl, rfl, rfl, rfl, rfl⟩, ⟨_, Try.underlying125, rfl⟩⟩
theorem qt0 : TyOk Try.prog 126 (Ty.kd (.st (.pr (.sl .byte) .bool))) 32 := ⟨⟨Try.t126, _, Try.type126, rfl, rfl, rfl, rfl, rfl⟩, ⟨_, Try.underlying126, rfl⟩⟩
theorem qt1 : TyOk Try.prog 127 (Ty.kd (.st (.pr (.sl .byte) .bool))) 32 := ⟨⟨Try.t127, _, Try.type127, rfl, rfl, rfl, rfl, rfl⟩, ⟨_, Try.underlying127, rfl⟩⟩
theorem qt2 : TyOk Try.prog 130 (Ty.kd (.hpt)) 8 := ⟨⟨Try.t130, _, Try.type130, rfl, rfl, rfl, rfl, rfl⟩, ⟨_, Try.underlying130, rfl⟩⟩
theorem qs0 : TyOk Try.prog 130 (Ty.kd (.ptr (.pr (.sl .byte) .bool))) 8 := ⟨⟨Try.t130, _, Try.type130, rfl, rfl, rfl, rfl, rfl⟩, ⟨_, Try.underlying130, rfl⟩⟩
theorem qt3 : TyOk Try.prog 145 (Ty.kd (.pr (.arr 32 .byte) (.sl .byte))) 56 := ⟨⟨Try.t145, _, Try.type145, rfl, rfl, rfl, rfl, rfl⟩, ⟨_, Try.underlying145, rfl⟩⟩
theorem qt4 : TyOk Try.prog 146 (Ty.kd (.pr (.arr 32 .byte) (.sl .byte))) 56 := ⟨⟨Try.t146, _, Try.type146, rfl, rfl, rfl, rfl, rfl⟩, ⟨_, Try.underlying146, rfl⟩⟩
theorem qt5 : TyOk Try.prog 161 (Ty.kd (.pr (.arr 32 .byte) .str)) 48 := ⟨⟨Try.t161, _, Try.type161, rfl, rfl, rfl, rfl, rfl⟩, ⟨_, Try.underlying161, rfl⟩⟩
theorem qt6 : TyOk Try.prog 162 (Ty.kd (.pr (.arr 32 .byte) .str)) 48 := ⟨⟨Try.t162, _, Try.type162, rfl, rfl, rfl, rfl, rfl⟩, ⟨_, Try.underlying162, rfl⟩⟩
theorem qt7 : TyOk Try.prog 166 (Ty.kd (.sl (.int .u64))) 24 := ⟨⟨Try.t166, _, Try.type166, rfl, rfl, rfl, rfl, rfl⟩, ⟨_, Try.underlying166, rfl⟩⟩
theorem qt8 : TyOk Try.prog 175 (Ty.kd (.sl (.int .i64))) 24 := ⟨⟨Try.t175, _, Try.type175, rfl, rfl, rfl, rfl, rfl⟩, ⟨_, Try.underlying175, rfl⟩⟩
theorem qt9 : TyOk Try.prog 180 (Ty.kd (.int .u64)) 8 := ⟨⟨Try.t180, _, Try.type180, rfl, rfl, rfl, rfl, rfl⟩, ⟨_, Try.underlying180, rfl⟩⟩
theorem qua : TyOk Try.prog 182 (Ty.kd (.hpt)) 8 := ⟨⟨Try.t182, _, Try.type182, rfl, rfl, rfl, rfl, rfl⟩, ⟨_, Try.underlying182, rfl⟩⟩
theorem qs2 : TyOk Try.prog 182 (Ty.kd (.ptr (.pr (.sl (.pr (.arr 32 .byte) (.sl .byte))) .anm))) 8 := ⟨⟨Try.t182, _, Try.type182, rfl, rfl, rfl, rfl, rfl⟩, ⟨_, Try.underlying182, rfl⟩⟩
theorem qub : TyOk Try.prog 186 (Ty.kd (.hpt)) 8 := ⟨⟨Try.t186, _, Try.type186, rfl, rfl, rfl, rfl, rfl⟩, ⟨_, Try.underlying186, rfl⟩⟩
theorem qs3 : TyOk Try.prog 186 (Ty.kd (.ptr (.pr (.arr 8 (.int .u32)) (.pr (.int .u64) (.sl .byte))))) 8 := ⟨⟨Try.t186, _, Try.type186, rfl, rfl, rfl, rfl, rfl⟩, ⟨_, Try.underlying186, rfl⟩⟩
theorem quc : TyOk Try.prog 189 (Ty.kd (.int .u32)) 4 := ⟨⟨Try.t189, _, Try.type189, rfl, rfl, rfl, rfl, rfl⟩, ⟨_, Try.underlying189, rfl⟩⟩
theorem qud : TyOk Try.prog 190 (Ty.kd (.sl (.int .u32))) 24 := ⟨⟨Try.t190, _, Try.type190, rfl, rfl, rfl, rfl, rfl⟩, ⟨_, Try.underlying190, rfl⟩⟩
theorem que : TyOk Try.prog 198 (Ty.kd (.arr 8 (.int .u32))) 32 := ⟨⟨Try.t198, _, Try.type198, rfl, rfl, rfl, rfl, rfl⟩, ⟨_, Try.underlying198, rfl⟩⟩
theorem quf : TyOk Try.prog 199 (Ty.kd (.arr 8 (.int .u32))) 32 := ⟨⟨Try.t199, _, Try.type199, rfl, rfl, rfl, rfl, rfl⟩, ⟨_, Try.underlying199, rfl⟩⟩
theorem qug : TyOk Try.prog 200 (Ty.kd (.pr (.arr 8 (.int .u32)) (.pr (.int .u64) (.sl .byte)))) 64 := ⟨⟨Try.t200, _, Try.type200, rfl, rfl, rfl, rfl, rfl⟩, ⟨_, Try.underlying200, rfl⟩⟩
theorem quh : TyOk Try.prog 201 (Ty.kd (.pr (.arr 8 (.int .u32)) (.pr (.int .u64) (.sl .byte)))) 64 := ⟨⟨Try.t201, _, Try.type201, rfl, rfl, rfl, rfl, rfl⟩, ⟨_, Try.underlying201, rfl⟩⟩
theorem qui : TyOk Try.prog 212 (Ty.kd (.hpt)) 8 := ⟨⟨Try.t212, _, Try.type212, rfl, rfl, rfl, rfl, rfl⟩, ⟨_, Try.underlying212, rfl⟩⟩
theorem qs4 : TyOk Try.prog 212 (Ty.kd (.ptr (.arr 8 (.int .u32)))) 8 := ⟨⟨Try.t212, _, Try.type212, rfl, rfl, rfl, rfl, rfl⟩, ⟨_, Try.underlying212, rfl⟩⟩
theorem quj : TyOk Try.prog 213 (Ty.kd (.arr 64 (.int .u32))) 256 := ⟨⟨Try.t213, _, Try.type213, rfl, rfl, rfl, rfl, rfl⟩, ⟨_, Try.underlying213, rfl⟩⟩
theorem quk : TyOk Try.prog 225 (Ty.kd (.hpt)) 8 := ⟨⟨Try.t225, _, Try.type225, rfl, rfl, rfl, rfl, rfl⟩, ⟨_, Try.underlying225, rfl⟩⟩
theorem qs5 : TyOk Try.prog 225 (Ty.kd (.ptr (.int .u8))) 8 := ⟨⟨Try.t225, _, Try.type225, rfl, rfl, rfl, rfl, rfl⟩, ⟨_, Try.underlying225, rfl⟩⟩
theorem qus : TyOk Try.prog 61 (Ty.kd (.hsl 82 (.pr (.int .i64) (.pr (.pr (.sl .byte) (.sl .byte)) (.sl (.arr 32 .byte)))))) 24 := ⟨⟨Try.t61, _, Try.type61, rfl, rfl, rfl, rfl, rfl⟩, ⟨_, Try.underlying61, rfl⟩⟩
theorem qut : TyOk Try.prog 63 (Ty.kd (.pr (.int .i64) (.hsl 82 (.pr (.int .i64) (.pr (.pr (.sl .byte) (.sl .byte)) (.sl (.arr 32 .byte))))))) 32 := ⟨⟨Try.t63, _, Try.type63, rfl, rfl, rfl, rfl, rfl⟩, ⟨_, Try.underlying63, rfl⟩⟩
theorem quu : TyOk Try.prog 80 (Ty.kd (.hsl 24 (.arr 32 .byte))) 24 := ⟨⟨Try.t80, _, Try.type80, rfl, rfl, rfl, rfl, rfl⟩, ⟨_, Try.underlying80, rfl⟩⟩
theorem quv : TyOk Try.prog 82 (Ty.kd (.pr (.int .i64) (.pr (.pr (.sl .byte) (.sl .byte)) (.hsl 24 (.arr 32 .byte))))) 80 := ⟨⟨Try.t82, _, Try.type82, rfl, rfl, rfl, rfl, rfl⟩, ⟨_, Try.underlying82, rfl⟩⟩
theorem qs1 : TyOk Try.prog 175 (Ty.kd (.hsl 3 (.int .i64))) 24 := ⟨⟨Try.t175, _, Try.type175, rfl, rfl, rfl, rfl, rfl⟩, ⟨_, Try.underlying175, rfl⟩⟩
def tab : List (Nat × Bool × Ty × Nat) := [(2, false, .int .i64, 8), (3, false, .int .i64, 8), (4, false, .bool, 1), (5, false, .int .u8, 1), (5, true, .byte, 1), (9, false, .str, 16), (12, false, .int .u64, 8), (13, false, .pr .str (.int .u64), 24), (21, false, .int .i32, 4), (22, false, .sl .str, 24), (23, false, .int .u64, 8), (24, false, .arr 32 .byte, 32), (25, false, .pr (.int .u64) (.pr (.arr 32 .byte) (.pr (.arr 32 .byte) (.pr (.arr 32 .byte) (.pr (.arr 32 .byte) (.arr 32 .byte))))), 168), (26, false, .pr (.int .u64) (.pr (.arr 32 .byte) (.pr (.arr 32 .byte) (.pr (.arr 32 .byte) (.pr (.arr 32 .byte) (.arr 32 .byte))))), 168), (27, false, .pr (.arr 32 .byte) (.pr (.arr 32 .byte) (.arr 32 .byte)), 96), (28, false, .pr (.arr 32 .byte) (.pr (.arr 32 .byte) (.arr 32 .byte)), 96), (32, false, .sl .byte, 24), (35, false, .hpt, 8), (35, true, .ptr (.pr (.pr (.sl (.pr (.arr 32 .byte) (.sl .byte))) .anm) (.int .i64)), 8), (36, false, .sl (.pr (.arr 32 .byte) (.sl .byte)), 24), (38, false, .pr (.sl (.pr (.arr 32 .byte) (.sl .byte))) (.hmp (.arr 32 .byte) (.int .i64)), 32), (38, true, .pr (.sl (.pr (.arr 32 .byte) (.sl .byte))) .anm, 32), (39, false, .pr (.hsl 146 (.pr (.arr 32 .byte) (.sl .byte))) (.hmp (.arr 32 .byte) (.int .i64)), 32), (39, true, .pr (.sl (.pr (.arr 32 .byte) (.sl .byte))) .anm, 32), (40, false, .pr (.pr (.hsl 146 (.pr (.arr 32 .byte) (.sl .byte))) (.hmp (.arr 32 .byte) (.int .i64))) (.int .i64), 40), (40, true, .pr (.pr (.sl (.pr (.arr 32 .byte) (.sl .byte))) .anm) (.int .i64), 40), (41, false, .pr (.pr (.hsl 146 (.pr (.arr 32 .byte) (.sl .byte))) (.hmp (.arr 32 .byte) (.int .i64))) (.int .i64), 40), (41, true, .pr (.pr (.sl (.pr (.arr 32 .byte) (.sl .byte))) .anm) (.int .i64), 40), (46, false, .hpt, 8), (46, true, .ptr (.st (.pr (.sl .byte) .bool)), 8), (49, false, .int .i64, 8), (53, false, .sl (.pr (.sl .byte) (.sl .byte)), 24), (56, false, .pr (.sl .byte) (.sl .byte), 48), (57, false, .pr (.sl .byte) (.sl .byte), 48), (61, false, .sl (.pr (.int .i64) (.pr (.pr (.sl .byte) (.sl .byte)) (.sl (.arr 32 .byte)))), 24), (62, false, .pr (.int .i64) (.sl (.pr (.int .i64) (.pr (.pr (.sl .byte) (.sl .byte)) (.sl (.arr 32 .byte))))), 32), (63, false, .pr (.int .i64) (.sl (.pr (.int .i64) (.pr (.pr (.sl .byte) (.sl .byte)) (.sl (.arr 32 .byte))))), 32), (80, false, .sl (.arr 32 .byte), 24), (81, false, .pr (.int .i64) (.pr (.pr (.sl .byte) (.sl .byte)) (.sl (.arr 32 .byte))), 80), (82, false, .pr (.int .i64) (.pr (.pr (.sl .byte) (.sl .byte)) (.sl (.arr 32 .byte))), 80), (89, false, .sl (.pr (.int .i64) (.pr (.int .i64) (.pr (.sl (.sl .byte)) (.pr (.arr 32 .byte) (.sl .byte))))), 24), (91, false, .hpt, 8), (91, true, .ptr (.pr (.sl (.pr (.arr 32 .byte) .str)) (.int .i64)), 8), (92, false, .sl (.pr (.arr 32 .byte) .str), 24), (93, false, .pr (.sl (.pr (.arr 32 .byte) .str)) (.int .i64), 32), (94, false, .pr (.sl (.pr (.arr 32 .byte) .str)) (.int .i64), 32), (96, false, .sl (.sl .byte), 24), (97, false, .pr (.int .i64) (.pr (.int .i64) (.pr (.sl (.sl .byte)) (.pr (.arr 32 .byte) (.sl .byte)))), 96), (98, false, .pr (.int .i64) (.pr (.int .i64) (.pr (.sl (.sl .byte)) (.pr (.arr 32 .byte) (.sl .byte)))), 96), (107, false, .sl (.ptr (.pr (.pr (.sl (.pr (.arr 32 .byte) (.sl .byte))) .anm) (.int .i64))), 24), (115, false, .hpt, 8), (115, true, .ptr (.arr 32 .byte), 8), (116, false, .arr 5 (.ptr (.arr 32 .byte)), 40), (118, false, .hpt, 8), (118, true, .ptr (.pr (.int .u64) (.pr (.arr 32 .byte) (.pr (.arr 32 .byte) (.pr (.arr 32 .byte) (.pr (.arr 32 .byte) (.arr 32 .byte)))))), 8), (121, false, .pr (.pr (.int .u64) (.pr (.arr 32 .byte) (.pr (.arr 32 .byte) (.pr (.arr 32 .byte) (.pr (.arr 32 .byte) (.arr 32 .byte)))))) (.arr 32 .byte), 200), (122, false, .pr (.pr (.int .u64) (.pr (.arr 32 .byte) (.pr (.arr 32 .byte) (.pr (.arr 32 .byte) (.pr (.arr 32 .byte) (.arr 32 .byte)))))) (.arr 32 .byte), 200), (124, false, .pr (.sl .byte) .bool, 32), (125, false, .pr (.sl .byte) .bool, 32), (126, false, .st (.pr (.sl .byte) .bool), 32), (127, false, .st (.pr (.sl .byte) .bool), 32), (130, false, .hpt, 8), (130, true, .ptr (.pr (.sl .byte) .bool), 8), (145, false, .pr (.arr 32 .byte) (.sl .byte), 56), (146, false, .pr (.arr 32 .byte) (.sl .byte), 56), (161, false, .pr (.arr 32 .byte) .str, 48), (162, false, .pr (.arr 32 .byte) .str, 48), (166, false, .sl (.int .u64), 24), (175, false, .sl (.int .i64), 24), (180, false, .int .u64, 8), (182, false, .hpt, 8), (182, true, .ptr (.pr (.sl (.pr (.arr 32 .byte) (.sl .byte))) .anm), 8), (186, false, .hpt, 8), (186, true, .ptr (.pr (.arr 8 (.int .u32)) (.pr (.int .u64) (.sl .byte))), 8), (189, false, .int .u32, 4), (190, false, .sl (.int .u32), 24), (198, false, .arr 8 (.int .u32), 32), (199, false, .arr 8 (.int .u32), 32), (200, false, .pr (.arr 8 (.int .u32)) (.pr (.int .u64) (.sl .byte)), 64), (201, false, .pr (.arr 8 (.int .u32)) (.pr (.int .u64) (.sl .byte)), 64), (212, false, .hpt, 8), (212, true, .ptr (.arr 8 (.int .u32)), 8), (213, false, .arr 64 (.int .u32), 256), (225, false, .hpt, 8), (225, true, .ptr (.int .u8), 8), (61, false, .hsl 82 (.pr (.int .i64) (.pr (.pr (.sl .byte) (.sl .byte)) (.sl (.arr 32 .byte)))), 24), (63, false, .pr (.int .i64) (.hsl 82 (.pr (.int .i64) (.pr (.pr (.sl .byte) (.sl .byte)) (.sl (.arr 32 .byte))))), 32), (80, false, .hsl 24 (.arr 32 .byte), 24), (82, false, .pr (.int .i64) (.pr (.pr (.sl .byte) (.sl .byte)) (.hsl 24 (.arr 32 .byte))), 80), (175, false, .hsl 3 (.int .i64), 24)]
theorem qsW : qlJ Try.prog tab := ⟨tt2, tt3, tt4, tt5, tt5b, tt9, tt12, tt13, tt21, tt22, tt23, tt24, tt25, tt26, tt27, tt28, tt32, tt35, qul, tt36, tt38, qum, tt39, qun, tt40, qup, tt41, quq, tt46, qur, tt49, tt53, tt56, tt57, tt61, tt62, tt63, tt80, tt81, tt82, tt89, tt91, quw, tt92, tt93, tt94, tt96, tt97, tt98, qtS, qtT, qsY, qtU, qtV, qsZ, qtW, qtX, qtY, qtZ, qt0, qt1, qt2, qs0, qt3, qt4, qt5, qt6, qt7, qt8, qt9, qua, qs2, qub, qs3, quc, qud, que, quf, qug, quh, qui, qs4, quj, quk, qs5, qus, qut, quu, quv, qs1, trivial⟩
def eqs : List (Nat × Ty × Nat) := [(24, .arr 32 .byte, 2), (26, .pr (.int .u64) (.pr (.arr 32 .byte) (.pr (.arr 32 .byte) (.pr (.arr 32 .byte) (.pr (.arr 32 .byte) (.arr 32 .byte))))), 3), (28, .pr (.arr 32 .byte) (.pr (.arr 32 .byte) (.arr 32 .byte)), 3), (122, .pr (.pr (.int .u64) (.pr (.arr 32 .byte) (.pr (.arr 32 .byte) (.pr (.arr 32 .byte) (.pr (.arr 32 .byte) (.arr 32 .byte)))))) (.arr 32 .byte), 4)]
theorem qtJ : EqT Try.prog 24 (.arr 32 .byte) 2 := (qbl Try.underlying24 Try.underlying5 (tt5b))
theorem qtK : EqT Try.prog 26 (.pr (.int .u64) (.pr (.arr 32 .byte) (.pr (.arr 32 .byte) (.pr (.arr 32 .byte) (.pr (.arr 32 .byte) (.arr 32 .byte)))))) 3 := (qdd Try.underlying26 (by kernel_rfl) rfl (qaS (tt23) rfl (by decide) (EqT.more (m' := 2) (qmq Try.underlying23) rfl) (qaS (tt24) rfl (by decide) (EqT.more (m' := 2) (qbl Try.underlying24 Try.underlying5 (tt5b)) rfl) (qaS (tt24) rfl (by decide) (EqT.more (m' := 2) (qbl Try.underlying24 Try.underlying5 (tt5b)) rfl) (qaS (tt24) rfl (by decide) (EqT.more (m' := 2) (qbl Try.underlying24 Try.underlying5 (tt5b)) rfl) (qaS (tt24) rfl (by decide) (EqT.more (m' := 2) (qbl Try.underlying24 Try.underlying5 (tt5b)) rfl) (qe9 (tt24) rfl (by decide) (EqT.more (m' := 2) (qbl Try.underlying24 Try.underlying5 (tt5b)) rfl))))))))
theorem qtL : EqT Try.prog 28 (.pr (.arr 32 .byte) (.pr (.arr 32 .byte) (.arr 32 .byte))) 3 := (qdd Try.underlying28 (by kernel_rfl) rfl (qaS (tt24) rfl (by decide) (EqT.more (m' := 2) (qbl Try.underlying24 Try.underlying5 (tt5b)) rfl) (qaS (tt24) rfl (by decide) (EqT.more (m' := 2) (qbl Try.underlying24 Try.underlying5 (tt5b)) rfl) (qe9 (tt24) rfl (by decide) (EqT.more (m' := 2) (qbl Try.underlying24 Try.underlying5 (tt5b)) rfl)))))
theorem qsF : EqT Try.prog 122 (.pr (.pr (.int .u64) (.pr (.arr 32 .byte) (.pr (.arr 32 .byte) (.pr (.arr 32 .byte) (.pr (.arr 32 .byte) (.arr 32 .byte)))))) (.arr 32 .byte)) 4 := (qdd Try.underlying122 (by kernel_rfl) rfl (qaS (tt26) rfl (by decide) (EqT.more (m' := 3) (qdd Try.underlying26 (by kernel_rfl) rfl (qaS (tt23) rfl (by decide) (EqT.more (m' := 2) (qmq Try.underlying23) rfl) (qaS (tt24) rfl (by decide) (EqT.more (m' := 2) (qbl Try.underlying24 Try.underlying5 (tt5b)) rfl) (qaS (tt24) rfl (by decide) (EqT.more (m' := 2) (qbl Try.underlying24 Try.underlying5 (tt5b)) rfl) (qaS (tt24) rfl (by decide) (EqT.more (m' := 2) (qbl Try.underlying24 Try.underlying5 (tt5b)) rfl) (qaS (tt24) rfl (by decide) (EqT.more (m' := 2) (qbl Try.underlying24 Try.underlying5 (tt5b)) rfl) (qe9 (tt24) rfl (by decide) (EqT.more (m' := 2) (qbl Try.underlying24 Try.underlying5 (tt5b)) rfl)))))))) rfl) (qe9 (tt24) rfl (by decide) (EqT.more (m' := 3) (qbl Try.underlying24 Try.underlying5 (tt5b)) rfl))))
theorem qsG : qll Try.prog eqs := ⟨qtJ, qtK, qtL, qsF, trivial⟩
def fns : List Nat := [2, 3, 4, 5, 6, 7, 8, 9, 10, 11, 12, 13, 14, 15, 16, 17, 18, 19, 20, 21, 22, 23, 24, 25, 26, 27, 28, 29, 30, 31, 32, 33, 34, 35, 36, 37, 38, 39, 40, 41, 42, 43, 44, 45, 46, 47, 48, 49, 50, 51, 52, 53, 54, 55, 56, 57, 58, 59, 60, 61, 62, 63, 64, 65, 66, 67, 68, 69, 70, 71, 72, 73, 74, 75, 76, 77, 78, 79, 80, 81, 82, 83, 84, 85, 86, 87, 88, 89, 90, 91, 92, 93, 94, 95, 96, 97, 98, 99, 100, 101, 102, 103, 104, 105, 106, 107, 108, 109, 110, 111, 112, 113, 115, 116, 117, 118, 119, 120, 121, 122, 123, 124, 125, 126, 127, 128, 129, 130, 131, 132, 133, 134, 135, 136, 137, 138, 139, 140, 141, 142, 143, 144, 145, 146, 147, 148]
theorem qaA : qkC Try.prog fns := ⟨Try.call2, Try.call3, Try.call4, Try.call5, Try.call6, Try.call7, Try.call8, Try.call9, Try.call10, Try.call11, Try.call12, Try.call13, Try.call14, Try.call15, Try.call16, Try.call17, Try.call18, Try.call19, Try.call20, Try.call21, Try.call22, Try.call23, Try.call24, Try.call25, Try.call26, Try.call27, Try.call28, Try.call29, Try.call30, Try.call31, Try.call32, Try.call33, Try.call34, Try.call35, Try.call36, Try.call37, Try.call38, Try.call39, Try.call40, Try.call41, Try.call42, Try.call43, Try.call44, Try.call45, Try.call46, Try.call47, Try.call48, Try.call49, Try.call50, Try.call51, Try.call52, Try.call53, Try.call54, Try.call55, Try.call56, Try.call57, Try.call58, Try.call59, Try.call60, Try.call61, Try.call62, Try.call63, Try.call64, Try.call65, Try.call66, Try.call67, Try.call68, Try.call69, Try.call70, Try.call71, Try.call72, Try.call73, Try.call74, Try.call75, Try.call76, Try.call77, Try.call78, Try.call79, Try.call80, Try.call81, Try.call82, Try.call83, Try.call84, Try.call85, Try.call86, Try.call87, Try.call88, Try.call89, Try.call90, Try.call91, Try.call92, Try.call93, Try.call94, Try.call95, Try.call96, Try.call97, Try.call98, Try.call99, Try.call100, Try.call101, Try.call102, Try.call103, Try.call104, Try.call105, Try.call106, Try.call107, Try.call108, Try.call109, Try.call110, Try.call111, Try.call112, Try.call113, Try.call115, Try.call116, Try.call117, Try.call118, Try.call119, Try.call120, Try.call121, Try.call122, Try.call123, Try.call124, Try.call125, Try.call126, Try.call127, Try.call128, Try.call129, Try.call130, Try.call131, Try.call132, Try.call133, Try.call134, Try.call135, Try.call136, Try.call137, Try.call138, Try.call139, Try.call140, Try.call141, Try.call142, Try.call143, Try.call144, Try.call145, Try.call146, Try.call147, Try.call148, trivial⟩
noncomputable def seat : Seat := ⟨Try.prog, tab, eqs, []⟩
theorem qat : seat.ok := ⟨qsW.all, qsG.all⟩
def bkT : Bk := ⟨41, 146, 40⟩
theorem qay : TyOk Try.prog bkT.t qd6 bkT.bytes := ⟨⟨Try.t41, _, Try.type41, rfl, rfl, rfl, rfl, rfl⟩, ⟨_, Try.underlying41, rfl⟩⟩
end Go.Proofs.Ytmjjkpiglbpkhaa

set_option linter.unusedVariables false
namespace Go.Inc
open Go
def qa1 (l : List (List UInt8)) : List UInt8 := hSum (qas ((List.replicate 8 0), 0, []) l)
def qae (k : Int) (l : List (List UInt8)) : List UInt8 := qa1 [preimage k l]
def qaj (x : qag) (k : Int) (l : List (List UInt8)) : qag := x.map fun y => (addL y.1 (qae k l) (preimage k l), IntKind.i64.wrap (y.2 + 1))
def qan (x : qag) : Prop := ∀ y, x = some y → (y.1.length + 1) * 64 ≤ 140737488355328
def ql0 (x : qag) : Int := match x with | some y => y.2 | none => 0
theorem qov (s : List Int) (n : Int) (r : List UInt8) : (eat s n r).2.2.length < 64 := by
 induction h : r.length using Nat.strongRecOn generalizing s n r with
 | _ m ih =>
   rw [eat]
   split
   ·exact ih _ (by rw [List.length_drop]; omega) _ _ _ rfl
   ·show r.length < 64
    omega
theorem qkt (x : List Int) : ∀ n, (sumN x n).length = 32 ∨ 8 < n
 | 0 => by simp [sumN]
 | n + 1 => by
   rcases qkt x n with h | h
   ·rcases Nat.lt_or_ge n 8 with h8 | h8
    ·left
     simp only [sumN, List.length_append, List.length_take, List.length_drop, h, qaF]
     omega
    ·exact .inr (by omega)
   ·exact .inr (by omega)
theorem qk1 (l : List (List UInt8)) : (qa1 l).length = 32 := by
 rcases qkt (qas (qas (List.replicate 8 0, 0, []) l) (qhB (qas (List.replicate 8 0, 0, []) l))).1 8 with h | h
 ·exact h
 ·omega
theorem qoY {l : List (List UInt8)} {x : List UInt8} (h : x ∈ l) : x.length ≤ qai l := by
 induction l with
 | nil => cases h
 | cons y l ih =>
   simp only [qai, List.map_cons, List.sum_cons] at *
   rcases List.mem_cons.1 h with rfl | h
   ·omega
   ·have := ih h
    omega
theorem qcj (k : Int) {l : List (List UInt8)} (h : 1 + qai l ≤ 140737488355328) : (preimage k l).length ≤ 1 + qai l := by
 have := qbF l (fun x hx => by have := qoY hx; omega)
 simp only [preimage, List.length_cons]
 omega
theorem qdw {s : List UInt8} : ∀ {l : List Nt} {l' : List Nt} {i : Int}, qaT s (l ++ l') i = (qaT s l i).or (qaT s l' (i + (l.length : Int)))
 | [], l', i => by simp [qaT]
 | x :: l, l', i => by
   simp only [List.cons_append, qaT]
   by_cases h : s = x.1
   ·simp [h]
   ·rw [if_neg h, if_neg h, qdw]
    congr 2
    simp only [List.length_cons]
    omega
theorem qgH {s t : List UInt8} {a : Int} : ∀ (m : List (List UInt8 × Int)), mfind t (mset s a m) = if t = s then some a else mfind t m
 | [] => by simp [mset, mfind]
 | (b, c) :: m => by
   by_cases h : s = b
   ·subst h
    by_cases h2 : t = s <;> simp [mset, mfind, h2]
   ·simp only [mset, if_neg h, mfind, qgH m]
    by_cases h2 : t = b
    ·subst h2
     simp [Ne.symm h]
    ·simp [h2]
theorem qsv {l : List Nt} {m : List (List UInt8 × Int)} (h : qbL l m) (s b : List UInt8) : qbL (addL l s b) (addM l m s b) := by
 intro t
 unfold addL addM
 by_cases hm : (s, b) ∈ l
 ·rw [if_pos hm, if_pos hm]; exact h t
 ·rw [if_neg hm, if_neg hm, qdw]
  have hs := h s
  by_cases hf : (mfind s m).isSome = true
  ·rw [if_pos hf, h t]
   cases ht : qaT t l 0 with
   | some a => rfl
   | none =>
     have hne : ¬ (t = s) := fun e => by
      subst e
      rw [hs, ht] at hf
      cases hf
     simp [qaT, hne]
  ·rw [if_neg hf, qgH, h t]
   have hn : qaT s l 0 = none := by
    rw [hs] at hf
    simpa using hf
   by_cases e : t = s
   ·subst e
    simp [hn, qaT]
   ·cases ht : qaT t l 0 <;> simp [e, qaT]
theorem qn8 (l : List Nt) (s b : List UInt8) : (addL l s b).length ≤ l.length + 1 := by
 unfold addL
 split <;> simp
theorem qjT {l : List Nt} {s b : List UInt8} {z : Nt} (h : z ∈ addL l s b) : z ∈ l ∨ z = (s, b) := by
 unfold addL at h
 split at h
 ·exact .inl h
 ·simpa using h
def numF (n : Nat) : List UInt8 := UInt8.ofNat ((qdF.blenF 64 n + 7) / 8) :: be n ((qdF.blenF 64 n + 7) / 8)
theorem qjn {n : Nat} (h : n < 2 ^ 64) : numB n = numF n := by simp only [numB, numF, qe7 64 n h]
def qof (l : List (List UInt8)) : List UInt8 := l.flatMap fun x => numF x.length ++ x
theorem qog {l : List (List UInt8)} (h : ∀ x ∈ l, x.length < 2 ^ 64) : qaB l = qof l := by
 induction l with
 | nil => rfl
 | cons x l ih =>
   have h1 : qaB (x :: l) = (numB x.length ++ x) ++ qaB l := rfl
   have h2 : qof (x :: l) = (numF x.length ++ x) ++ qof l := rfl
   rw [h1, h2, qjn (h x (by simp)), ih (fun y hy => h y (by simp [hy]))]
def qin (k : Int) (l : List (List UInt8)) : List UInt8 := toB (IntKind.u8.wrap k) :: qof l
theorem qci (k : Int) {l : List (List UInt8)} (h : ∀ x ∈ l, x.length < 2 ^ 64) : preimage k l = qin k l := by simp only [preimage, qin, qog h]
end Go.Inc

set_option linter.unusedVariables false
namespace Go.Inc
open Go
def valB : List UInt8 → Nat
 | [] => 0
 | c :: l => c.toNat * 256 ^ l.length + valB l
theorem pow8 (k : Nat) : 2 ^ (8 * k) = 256 ^ k := by rw [Nat.pow_mul]
theorem qhN (n : Nat) : ∀ k, valB (be n k) = n % 256 ^ k
 | 0 => by simp [be, valB, Nat.mod_one]
 | k + 1 => by
   simp only [be, valB, qaF, qhN n k, UInt8.toNat_ofNat', pow8]
   show n / 256 ^ k % 256 * 256 ^ k + n % 256 ^ k = n % (256 ^ k * 256)
   rw [Nat.mod_mul, Nat.add_comm, Nat.mul_comm (256 ^ k)]
theorem qq3 (n : Nat) : n < 2 ^ blen n := by
 induction n using Nat.strongRecOn with
 | _ n ih =>
   rcases Nat.eq_zero_or_pos n with rfl | h
   ·rw [qfy]; simp
   ·rw [qe8 h, Nat.pow_succ]
    have := ih (n / 2) (by omega)
    omega
theorem qhv (n : Nat) : n < 256 ^ ((blen n + 7) / 8) := by
 rw [← pow8]
 exact Nat.lt_of_lt_of_le (qq3 n) (Nat.pow_le_pow_right (by omega) (by omega))
theorem qki {n m : Nat} (hn : n < 2 ^ 64) (hm : m < 2 ^ 64) {x y : List UInt8} (h : numB n ++ x = numB m ++ y) : n = m ∧ x = y := by
 have k1 := qcD 64 hn
 have k2 := qcD 64 hm
 simp only [numB, List.cons_append, List.cons.injEq] at h
 obtain ⟨h1, h2⟩ := h
 have hk : (blen n + 7) / 8 = (blen m + 7) / 8 := by
  have := congrArg UInt8.toNat h1
  rw [UInt8.toNat_ofNat_of_lt' (by show _ < 256; omega), UInt8.toNat_ofNat_of_lt' (by show _ < 256; omega)] at this
  exact this
 have h3 := List.append_inj h2 (by rw [qaF, qaF, hk])
 have h4 := congrArg valB h3.1
 have l1 := qhv n
 have l2 := qhv m
 rw [qhN, qhN, Nat.mod_eq_of_lt l1, Nat.mod_eq_of_lt l2] at h4
 exact ⟨h4, h3.2⟩
theorem qmZ (n : Nat) (x : List UInt8) : numB n ++ x ≠ [] := by simp [numB]
theorem qfz : ∀ {a b : List (List UInt8)}, (∀ x ∈ a, x.length < 2 ^ 64) → (∀ x ∈ b, x.length < 2 ^ 64) → qaB a = qaB b → a = b
 | [], [], _, _, _ => rfl
 | [], y :: b, _, _, h => by
   have h2 : qaB (y :: b) = numB y.length ++ (y ++ qaB b) := by simp [qaB]
   rw [h2] at h
   exact absurd h.symm (qmZ _ _)
 | x :: a, [], _, _, h => by
   have h2 : qaB (x :: a) = numB x.length ++ (x ++ qaB a) := by simp [qaB]
   rw [h2] at h
   exact absurd h (qmZ _ _)
 | x :: a, y :: b, ha, hb, h => by
   have h1 : qaB (x :: a) = numB x.length ++ (x ++ qaB a) := by simp [qaB]
   have h2 : qaB (y :: b) = numB y.length ++ (y ++ qaB b) := by simp [qaB]
   rw [h1, h2] at h
   obtain ⟨hl, h3⟩ := qki (ha x (by simp)) (hb y (by simp)) h
   obtain ⟨h4, h5⟩ := List.append_inj h3 hl
   rw [h4, qfz (fun z hz => ha z (by simp [hz])) (fun z hz => hb z (by simp [hz])) h5]
theorem qoQ (a b : Int) : toB (IntKind.u8.wrap a) = toB (IntKind.u8.wrap b) ↔ a % 256 = b % 256 := by
 have e : ∀ x : Int, bI (toB (IntKind.u8.wrap x)) = x % 256 := fun x => by
  rw [qpC (qcq .u8 x)]
  rfl
 constructor
 ·intro h
  rw [← e a, ← e b, h]
 ·intro h
  rw [← qpS (toB (IntKind.u8.wrap a)), ← qpS (toB (IntKind.u8.wrap b)), e, e, h]
theorem qeX {k o : Int} {a b : List (List UInt8)} (ha : ∀ x ∈ a, x.length < 2 ^ 64) (hb : ∀ x ∈ b, x.length < 2 ^ 64) : preimage k a = preimage o b ↔ k % 256 = o % 256 ∧ a = b := by
 simp only [preimage, List.cons.injEq, qoQ]
 exact ⟨fun ⟨h1, h2⟩ => ⟨h1, qfz ha hb h2⟩, fun ⟨h1, h2⟩ => ⟨h1, by rw [h2]⟩⟩
theorem qqt (l : List Nt) (s b : List UInt8) : (s, b) ∈ addL l s b := by
 unfold addL
 split
 ·assumption
 ·simp
end Go.Inc

set_option linter.unusedVariables false
namespace Go.Inc
open Go
abbrev b32 (a : Int) : BitVec 32 := BitVec.ofInt 32 a
section
variable {x : Int} (hx : 0 ≤ x ∧ x < 4294967296)
include hx
end
def blkN (s : List Int) (m : List UInt8) : Nat → List Int
 | 0 => s
 | k + 1 => qc8 (blkN s m k) ((m.drop (64 * k)).take 64)
theorem qgt (s : List Int) (m : List UInt8) : ∀ k, blkN (qc8 s (m.take 64)) (m.drop 64) k = blkN s m (k + 1)
 | 0 => by simp [blkN]
 | k + 1 => by
   rw [blkN, qgt s m k, List.drop_drop]
   show qc8 (blkN s m (k + 1)) _ = qc8 (blkN s m (k + 1)) _
   rw [show 64 + 64 * k = 64 * (k + 1) by omega]
theorem qjV (s : List Int) (m : List UInt8) (a : Nat) : ∀ b, blkN s m (a + b) = blkN (blkN s m a) (m.drop (64 * a)) b
 | 0 => rfl
 | b + 1 => by
   show qc8 (blkN s m (a + b)) _ = qc8 _ _
   rw [qjV s m a b, List.drop_drop, show 64 * a + 64 * b = 64 * (a + b) by omega]
   rfl
theorem qjW (s : List Int) (m t : List UInt8) : ∀ k, 64 * k ≤ m.length → blkN s (m ++ t) k = blkN s m k
 | 0, _ => rfl
 | k + 1, h => by
   show qc8 (blkN s (m ++ t) k) _ = qc8 _ _
   rw [qjW s m t k (by omega), List.drop_append_of_le_length (by omega), List.take_append_of_le_length (by rw [List.length_drop]; omega)]
theorem qmn : ∀ (q : Nat) (s : List Int) (n : Nat) (r : List UInt8), r.length / 64 = q → n + q < 9223372036854775808 →
 eat s (n : Int) r = (if q = 0 then s else blkN (if n = 0 then shaH else s) r q, ((n + q : Nat) : Int), r.drop (64 * q))
 | 0, s, n, r, hq, hn => by
   unfold eat
   rw [if_neg (by omega)]
   simp
 | q + 1, s, n, r, hq, hn => by
   have hw : IntKind.u64.wrap ((n : Int) + 1) = ((n + 1 : Nat) : Int) := qaD ⟨by show (0 : Int) ≤ _; omega, by show _ ≤ (18446744073709551615 : Int); omega⟩
   have ih := qmn q (qc8 (if n = 0 then shaH else s) (r.take 64)) (n + 1) (r.drop 64) (by rw [List.length_drop]; omega) (by omega)
   unfold eat
   rw [if_pos (by omega), hw]
   have hif : (if (n : Int) = 0 then shaH else s) = (if n = 0 then shaH else s) := by
    by_cases h : n = 0
    ·simp [h]
    ·rw [if_neg h, if_neg (by omega)]
   rw [hif, ih, List.drop_drop, if_neg (show ¬ (q + 1 = 0) by omega), if_neg (show ¬ (n + 1 = 0) by omega)]
   rw [show n + 1 + q = n + (q + 1) by omega, show 64 + 64 * q = 64 * (q + 1) by omega, qgt]
   by_cases h : q = 0
   ·subst h
    simp [blkN]
   ·rw [if_neg h]
def qbQ (n : Nat) : Nat := (119 - n % 64) % 64
def qjm (b : List UInt8) : List UInt8 := b ++ ([toB 128] ++ (List.replicate (qbQ b.length) 0 ++ be (8 * b.length) 8))
theorem qmW (b : List UInt8) : (qjm b).length = b.length + (1 + (qbQ b.length + 8)) := by simp [qjm, qaF]; omega
theorem qdo (l : List (List UInt8)) (h : l.flatten.length ≤ 70368744177664) : qa1 l = sumN (blkN shaH (qjm l.flatten) ((qjm l.flatten).length / 64)) 8 := by
 generalize hm : l.flatten = m at h
 have e1 : qas ((List.replicate 8 0), 0, []) l = eat (List.replicate 8 0) ((0 : Nat) : Int) m := by simp [qas, hm]
 unfold qa1
 rw [e1, qmn (m.length / 64) _ 0 m rfl (by omega)]
 simp only [Nat.zero_add, if_true]
 generalize hq : m.length / 64 = q
 unfold hSum
 have ht : (m.drop (64 * q)).length = m.length - 64 * q := List.length_drop
 have hlen : hLen (if q = 0 then List.replicate 8 0 else blkN shaH m q, (q : Int), m.drop (64 * q)) = (m.length : Int) := by
  unfold hLen
  simp only [ht]
  have w : ∀ a : Int, 0 ≤ a → a < 9223372036854775808 → IntKind.u64.wrap a = a := fun a h1 h2 => qaD ⟨by show (0 : Int) ≤ _; omega, by show _ ≤ (18446744073709551615 : Int); omega⟩
  rw [w (64 * (q : Int)) (by omega) (by omega), w ((m.length - 64 * q : Nat) : Int) (by omega) (by omega), w _ (by omega) (by omega)]
  omega
 have hpad : (qhB (if q = 0 then List.replicate 8 0 else blkN shaH m q, (q : Int), m.drop (64 * q))).flatten = [toB 128] ++ (List.replicate (qbQ m.length) 0 ++ be (8 * m.length) 8) := by
  unfold qhB
  rw [hlen]
  simp only [ht]
  have w8 : IntKind.u64.wrap (8 * (m.length : Int)) = ((8 * m.length : Nat) : Int) := by
   rw [qaD ⟨by show (0 : Int) ≤ _; omega, by show _ ≤ (18446744073709551615 : Int); omega⟩]; omega
  have w9 : IntKind.i64.wrap (119 - ((m.length - 64 * q : Nat) : Int)) = 119 - ((m.length - 64 * q : Nat) : Int) := qaD (wf64 (by omega) (by omega))
  have hz : (Int.tmod (119 - ((m.length - 64 * q : Nat) : Int)) 64).toNat = qbQ m.length := by
   rw [Int.tmod_eq_emod_of_nonneg (by omega)]
   unfold qbQ
   omega
  rw [w8, w9, hz, Int.toNat_natCast]
  simp
 have hw : (qas (if q = 0 then List.replicate 8 0 else blkN shaH m q, (q : Int), m.drop (64 * q)) (qhB (if q = 0 then List.replicate 8 0 else blkN shaH m q, (q : Int), m.drop (64 * q)))) =
  eat (if q = 0 then List.replicate 8 0 else blkN shaH m q) ((q : Nat) : Int) (m.drop (64 * q) ++ ([toB 128] ++ (List.replicate (qbQ m.length) 0 ++ be (8 * m.length) 8))) := by
  simp only [qas, hpad]
 rw [hw]
 have hl2 : (m.drop (64 * q) ++ ([toB 128] ++ (List.replicate (qbQ m.length) 0 ++ be (8 * m.length) 8))).length = m.length - 64 * q + (1 + (qbQ m.length + 8)) := by simp [qaF]; omega
 have hz : qbQ m.length < 64 := by unfold qbQ; omega
 have hmod : (m.length - 64 * q + (1 + (qbQ m.length + 8))) / 64 ≠ 0 := by unfold qbQ; omega
 rw [qmn ((m.length - 64 * q + (1 + (qbQ m.length + 8))) / 64) _ q _ (by rw [hl2]) (by omega)]
 simp only [if_neg hmod]
 congr 1
 rw [qmW, show (m.length + (1 + (qbQ m.length + 8))) / 64 = q + (m.length - 64 * q + (1 + (qbQ m.length + 8))) / 64 by omega, qjV]
 have hd : (qjm m).drop (64 * q) = m.drop (64 * q) ++ ([toB 128] ++ (List.replicate (qbQ m.length) 0 ++ be (8 * m.length) 8)) := by
  unfold qjm
  rw [List.drop_append_of_le_length (by omega)]
 have hb : blkN shaH (qjm m) q = blkN shaH m q := qjW _ _ _ _ (by omega)
 rw [hd, hb]
 by_cases h0 : q = 0
 ·subst h0; simp [blkN]
 ·rw [if_neg h0, if_neg h0]
end Go.Inc

set_option linter.unusedVariables false
namespace Go.Inc
open Go
abbrev Hd := Int × (List UInt8 × (List UInt8 × (List UInt8 × (List UInt8 × List UInt8))))
def qaf (h : Hd) : List UInt8 := numB h.1.toNat ++ (h.2.1 ++ (h.2.2.1 ++ (h.2.2.2.1 ++ (h.2.2.2.2.1 ++ h.2.2.2.2.2))))
def qdM (h : Hd) (t i y : List UInt8) : Hd := (if h.1 < 4611686018427387903 then h.1 + 1 else h.1, qae 6 [qaf h], t, i, y, h.2.2.2.2.2)
structure HdWf (h : Hd) : Prop where
 n0 : 0 ≤ h.1
 n1 : h.1 ≤ 18446744073709551615
 a : h.2.1.length = 32
 b : h.2.2.1.length = 32
 c : h.2.2.2.1.length = 32
 d : h.2.2.2.2.1.length = 32
 e : h.2.2.2.2.2.length = 32
theorem qjb {h : Hd} (w : HdWf h) : (qaf h).length ≤ 169 := by
 have := qaP (n := h.1.toNat) (by have := w.n1; omega)
 have := w.a; have := w.b; have := w.c; have := w.d; have := w.e
 simp only [qaf, List.length_append]
 omega
theorem qaE (k : Int) (l : List (List UInt8)) : (qae k l).length = 32 := qk1 _
theorem qgu : ∀ {l : List (List UInt8)}, (∀ x ∈ l, x.length = 32) → qai l = 41 * l.length
 | [], _ => rfl
 | x :: l, h => by
   have ih := qgu (l := l) (fun y hy => h y (by simp [hy]))
   have hx := h x (by simp)
   simp only [qai, List.map_cons, List.sum_cons, List.length_cons] at *
   omega
def qdN : List UInt8 := qae 5 [numB 0, qae 2 []]
def qaG (l : List (List UInt8)) : Hd := (0, List.replicate 32 0, qdN, qdN, qae 2 [], qae 8 l)
end Go.Inc

set_option linter.unusedVariables false
set_option maxRecDepth 100000
namespace Go.Inc
open Go
instance decL3 : DecidableEq (List UInt8 × List UInt8 × List UInt8) := inferInstance
instance decL4 : DecidableEq (List UInt8 × List UInt8 × List UInt8 × List UInt8) := inferInstance
instance decL5 : DecidableEq (List UInt8 × List UInt8 × List UInt8 × List UInt8 × List UInt8) := inferInstance
instance decHd : DecidableEq (Int × List UInt8 × List UInt8 × List UInt8 × List UInt8 × List UInt8) := inferInstance
theorem qpO : qae 2 [] = [219, 193, 180, 201, 0, 255, 228, 141, 87, 91, 93, 165, 198, 56, 4, 1, 37, 246, 93, 176, 254, 62, 36, 73, 75, 118, 234, 152, 100, 87, 217, 134] := by
 unfold qae
 rw [qci _ (by decide), qdo _ (by decide)]
 decide +kernel
theorem qsU : qae 8 [] = [190, 234, 215, 121, 148, 207, 87, 51, 65, 236, 23, 181, 139, 191, 126, 179, 77, 39, 17, 201, 147, 193, 217, 118, 177, 40, 179, 24, 141, 193, 130, 154] := by
 unfold qae
 rw [qci _ (by decide), qdo _ (by decide)]
 decide +kernel
theorem qq6 : numB 0 = [0] := by rw [qjn (by decide)]; decide
theorem qtQ : numB 1 = [1, 1] := by rw [qjn (by decide)]; decide
theorem qsP : qdN = [232, 73, 139, 120, 80, 212, 190, 203, 159, 216, 203, 168, 72, 154, 55, 102, 179, 124, 42, 211, 38, 197, 209, 12, 183, 171, 98, 16, 117, 190, 164, 214] := by
 unfold qdN
 rw [qpO, qq6]
 unfold qae
 rw [qci _ (by decide), qdo _ (by decide)]
 decide +kernel
theorem qsH : qae 6 [qaf (qaG [])] = [96, 83, 206, 139, 93, 207, 10, 147, 247, 203, 222, 108, 13, 185, 153, 7, 98, 164, 115, 8, 124, 71, 161, 211, 27, 133, 15, 22, 130, 12, 249, 4] := by
 have e : qaf (qaG []) = numB 0 ++ (List.replicate 32 0 ++ (qdN ++ (qdN ++ (qae 2 [] ++ qae 8 [])))) := rfl
 rw [e, qsP, qpO, qsU, qq6]
 unfold qae
 rw [qci _ (by decide), qdo _ (by decide)]
 decide +kernel
theorem qh7 : ∃ x, x = qaG [] := ⟨_, rfl⟩
noncomputable def qau : Hd := Classical.choose qh7
theorem qh6 : qau = qaG [] := Classical.choose_spec qh7
theorem qkg : ∃ f, f = qdM := ⟨_, rfl⟩
noncomputable def qfS : Hd → List UInt8 → List UInt8 → List UInt8 → Hd := Classical.choose qkg
theorem qkf : qfS = qdM := Classical.choose_spec qkg
theorem qme : ∃ f : Hd → List UInt8, f = fun h => qae 6 [qaf h] := ⟨_, rfl⟩
noncomputable def digO : Hd → List UInt8 := Classical.choose qme
theorem qmd (h : Hd) : digO h = qae 6 [qaf h] := congrFun (Classical.choose_spec qme) h
def qcn (l : List Nt) : Prop := ∀ s x y, (s, x) ∈ l → (s, y) ∈ l → x = y
theorem qcn.sub {l m : List Nt} (h : qcn m) (hs : ∀ z ∈ l, z ∈ m) : qcn l := fun s x y h1 h2 => h s x y (hs _ h1) (hs _ h2)
theorem qn9 (l : List Nt) (s b : List UInt8) : ∀ z ∈ l, z ∈ addL l s b := fun z hz => by
 unfold addL
 split
 ·exact hz
 ·exact List.mem_append.2 (.inl hz)
end Go.Inc

set_option linter.unusedVariables false
set_option maxRecDepth 100000
set_option maxHeartbeats 2000000
namespace Go.Proofs.Ytmjjkpiglbpkhaa
open Go Go.RowKit Go.Inc
abbrev qao : Kd (List UInt8) := (Kd.sl Kd.byte)
theorem ty5b : TyOk Try.prog 5 Kd.byte 1 := ⟨⟨Try.t5, _, Try.type5, rfl, rfl, rfl, rfl, rfl⟩, ⟨_, Try.underlying5, rfl⟩⟩
def qap : List UInt8 := [0, 1, 2, 2, 3, 3, 3, 3, 4, 4, 4, 4, 4, 4, 4, 4, 5, 5, 5, 5, 5, 5, 5, 5, 5, 5, 5, 5, 5, 5, 5, 5, 6, 6, 6, 6, 6, 6, 6, 6, 6, 6, 6, 6, 6, 6, 6, 6, 6, 6, 6, 6, 6, 6, 6, 6, 6, 6, 6, 6, 6, 6, 6, 6, 7, 7, 7, 7, 7, 7, 7, 7, 7, 7, 7, 7, 7, 7, 7, 7, 7, 7, 7, 7, 7, 7, 7, 7, 7, 7, 7, 7, 7, 7, 7, 7, 7, 7, 7, 7, 7, 7, 7, 7, 7, 7, 7, 7, 7, 7, 7, 7, 7, 7, 7, 7, 7, 7, 7, 7, 7, 7, 7, 7, 7, 7, 7, 7, 8, 8, 8, 8, 8, 8, 8, 8, 8, 8, 8, 8, 8, 8, 8, 8, 8, 8, 8, 8, 8, 8, 8, 8, 8, 8, 8, 8, 8, 8, 8, 8, 8, 8, 8, 8, 8, 8, 8, 8, 8, 8, 8, 8, 8, 8, 8, 8, 8, 8, 8, 8, 8, 8, 8, 8, 8, 8, 8, 8, 8, 8, 8, 8, 8, 8, 8, 8, 8, 8, 8, 8, 8, 8, 8, 8, 8, 8, 8, 8, 8, 8, 8, 8, 8, 8, 8, 8, 8, 8, 8, 8, 8, 8, 8, 8, 8, 8, 8, 8, 8, 8, 8, 8, 8, 8, 8, 8, 8, 8, 8, 8, 8, 8, 8, 8, 8, 8, 8, 8, 8, 8, 8, 8, 8, 8, 8, 8]
theorem ty23 : TyOk Try.prog 23 (Kd.int .u64) 8 := ⟨⟨Try.t23, _, Try.type23, rfl, rfl, rfl, rfl, rfl⟩, ⟨_, Try.underlying23, rfl⟩⟩
abbrev qa0 : Kd (List (List UInt8)) := (Kd.sl qao)
theorem ty32 : TyOk Try.prog 32 qao 24 := ⟨⟨Try.t32, _, Try.type32, rfl, rfl, rfl, rfl, rfl⟩, ⟨_, Try.underlying32, rfl⟩⟩
def qg0 (a1_n : Int) (Q : (List UInt8) → Prop) : Prop :=
 ((a1_n < 0) → False) ∧ ((¬ (a1_n < 0)) → ((0 < (IntKind.i64.wrap (a1_n - (IntKind.i64.wrap (0 - (([] : List UInt8).length : Int)))))) → (0 < (IntKind.i64.wrap (a1_n - (IntKind.i64.wrap (0 - (([] : List UInt8).length : Int))))) ∧ (IntKind.i64.wrap (a1_n - (IntKind.i64.wrap (0 - (([] : List UInt8).length : Int))))) * 1 ≤ 140737488355328) ∧ (Q ([] : List UInt8))) ∧ ((¬ (0 < (IntKind.i64.wrap (a1_n - (IntKind.i64.wrap (0 - (([] : List UInt8).length : Int))))))) → Q ([] : List UInt8)))
theorem qp4 {a1_n : Int} (w_0 : (Kd.int .i64).wf a1_n) (hp : 0 ≤ a1_n ∧ a1_n ≤ 140737488355328) : qg0 a1_n (fun o0 => o0 = ([] : List UInt8)) := by
 have e1 : IntKind.i64.wrap (0 - (([] : List UInt8).length : Int)) = 0 := by decide
 have e2 : IntKind.i64.wrap (a1_n - 0) = a1_n := by rw [Int.sub_zero]; exact qaD w_0
 unfold qg0
 rw [e1, e2]
 exact ⟨fun h => by omega, fun _ => ⟨fun h => ⟨⟨h, by omega⟩, rfl⟩, fun _ => rfl⟩⟩
theorem qln {w0 : World} {K0 : Ghost} {a1_n_v : Value} {a1_n : Int} {Q : (List UInt8) → Prop} (hM0 : Models w0 K0) (h_a1_n : (Kd.int .i64).V K0 a1_n a1_n_v) (h : qg0 a1_n Q) : Calls Try.prog 145 #[(.slice none 0 0), a1_n_v] w0 (fun e w' => ∃ (K' : Ghost) (r0 : Value) (o0 : (List UInt8)), e = .returned r0 ∧ Q o0 ∧ Ext NX w0 K0 w' K' ∧ Models w' K' ∧ Own Kd.byte 5 w' K' o0 r0 ∧ (∀ g, ob r0 = some g → w0.heap.size ≤ g)) := by
 unfold qg0 at h
 have hR1 : Own Kd.byte 5 w0 K0 ([] : List UInt8) (.slice none 0 0) := Own.nil
 obtain rfl := qbu h_a1_n
 have hE0 : Ext NX w0 K0 w0 K0 := Ext.refl _ _ _
 refine qa7 fun R hR => ?_
 refine qaR (args := [(.slice none 0 0), (.int .i64 a1_n)]) Try.func145 rfl (Nat.le_of_ble_eq_true rfl) ?_
 refine qah ?_
 refine qac ?_
 have hR2 : Own Kd.byte 5 w0 K0 ([] : List UInt8) (.slice none 0 0) := Own.nil
 refine qab (.slice none 0 0) (R_as rfl) rfl rfl ?_
 refine qak ?_
 refine qah ?_
 refine qah ?_
 refine qac ?_
 refine qab (.int .i64 a1_n) (R_mv rfl) rfl rfl ?_
 refine qab (.bool (decide (a1_n < 0))) (qe1 rfl rfl) rfl rfl ?_
 refine qak ?_
 refine qaK (decide (a1_n < 0)) rfl (fun hc3 => ?_) (fun hc3 => ?_)
 ·have hd3 : a1_n < 0 := qh1 hc3
  have h := h.1 hd3
  refine qac ?_
  exact h.elim
 ·have hd3 : ¬ (a1_n < 0) := qh0 hc3
  have h := h.2 hd3
  refine qa3 ?_
  refine qah ?_
  refine qah ?_
  refine qac ?_
  refine qab (.int .i64 a1_n) (R_mv rfl) rfl rfl ?_
  refine qab (.slice none 0 0) (R_mv rfl) rfl rfl ?_
  refine qab (.int .i64 0) (qrR rfl Try.underlying32) rfl rfl ?_
  refine qab (.slice none 0 0) (R_mv rfl) rfl rfl ?_
  refine qab (.int .i64 (([] : List UInt8).length : Int)) (qfq rfl hR1.V Try.underlying32) rfl rfl ?_
  refine qab (.int .i64 (IntKind.i64.wrap (0 - (([] : List UInt8).length : Int)))) (qqk rfl rfl) rfl rfl ?_
  refine qab (.int .i64 (IntKind.i64.wrap (a1_n - (IntKind.i64.wrap (0 - (([] : List UInt8).length : Int)))))) (qqk rfl rfl) rfl rfl ?_
  refine qab (.int .i64 (IntKind.i64.wrap (a1_n - (IntKind.i64.wrap (0 - (([] : List UInt8).length : Int)))))) (R_as rfl) rfl rfl ?_
  refine qak ?_
  refine qah ?_
  refine qac ?_
  refine qab (.int .i64 (IntKind.i64.wrap (a1_n - (IntKind.i64.wrap (0 - (([] : List UInt8).length : Int)))))) (R_mv rfl) rfl rfl ?_
  refine qab (.bool (decide (0 < (IntKind.i64.wrap (a1_n - (IntKind.i64.wrap (0 - (([] : List UInt8).length : Int)))))))) (qrX rfl rfl) rfl rfl ?_
  refine qak ?_
  refine qaK (decide (0 < (IntKind.i64.wrap (a1_n - (IntKind.i64.wrap (0 - (([] : List UInt8).length : Int))))))) rfl (fun hc4 => ?_) (fun hc4 => ?_)
  ·have hd4 : 0 < (IntKind.i64.wrap (a1_n - (IntKind.i64.wrap (0 - (([] : List UInt8).length : Int))))) := qh1 hc4
   have h := h.1 hd4
   refine qac ?_
   refine qab (.slice none 0 0) (R_mv rfl) rfl rfl ?_
   refine qab (.slice none 0 0) (R_mv rfl) rfl rfl ?_
   refine qab (.int .i64 0) (qrR rfl Try.underlying32) rfl rfl ?_
   refine qab (.slice none 0 0) (qn0 rfl rfl Try.underlying32 ty5b) rfl rfl ?_
   refine qab (.int .i64 (IntKind.i64.wrap (a1_n - (IntKind.i64.wrap (0 - (([] : List UInt8).length : Int)))))) (R_mv rfl) rfl rfl ?_
   obtain ⟨hp7, h⟩ := h
   refine qaw rfl rfl (qtz (qsf hM0 rfl rfl Try.underlying32 Try.underlying3 ty5b rfl hp7.1 hp7.2) ?_)
   rintro v6 w6 hF6 hS6 hM6 hg6
   have hE6 := hE0.andN hS6
   have hf6 : ∀ g, ob v6 = some g → w0.heap.size ≤ g := fun g hg => Nat.le_trans hE0.size (hg6 g hg)
   refine qab (.slice none 0 0) (R_mv rfl) rfl rfl ?_
   refine qab (.int .i64 (([] : List UInt8).length : Int)) (qfq rfl (hR1.V.mono hS6.le) Try.underlying32) rfl rfl ?_
   refine qaw rfl rfl (qty (qsk hM6 rfl hF6 rfl Try.underlying32 ty5b) ?_)
   rintro v8 w8 K8 (hO8 : Own Kd.byte 5 w8 K8 ([] : List UInt8) v8) hS8 hM8 hob8
   have hE8 := hE6.comp hS8 (fun c hx hlt => absurd hlt (Nat.not_lt.2 (hf6 c hx)))
   have hf8 : ∀ g, ob v8 = some g → w0.heap.size ≤ g := fun g hg => hf6 g (hob8 g hg)
   refine qab v8 (R_as rfl) rfl rfl ?_
   refine qak ?_
   refine qah ?_
   refine qac ?_
   refine qab v8 (R_mv rfl) rfl rfl ?_
   refine qab v8 (R_as rfl) rfl rfl ?_
   refine qak ?_
   refine qbY ?_
   exact qbt hR (v := v8) (qdy rfl rfl) ⟨K8, v8, ([] : List UInt8), rfl, h, hE8, hM8, hO8, hf8⟩
  ·have hd4 : ¬ (0 < (IntKind.i64.wrap (a1_n - (IntKind.i64.wrap (0 - (([] : List UInt8).length : Int)))))) := qh0 hc4
   have h := h.2 hd4
   refine qa3 ?_
   refine qah ?_
   refine qac ?_
   refine qab (.slice none 0 0) (R_mv rfl) rfl rfl ?_
   refine qab (.slice none 0 0) (R_as rfl) rfl rfl ?_
   refine qak ?_
   refine qbY ?_
   exact qbt hR (v := (.slice none 0 0)) (qdy rfl rfl) ⟨K0, (.slice none 0 0), ([] : List UInt8), rfl, h, hE0, hM0, hR1, (fun g hg => nilS hg)⟩
theorem qrD {w0 : World} {K0 : Ghost} {a1_n_v : Value} {a1_n : Int} (hM0 : Models w0 K0) (h_a1_n : (Kd.int .i64).V K0 a1_n a1_n_v) (hp : 0 ≤ a1_n ∧ a1_n ≤ 140737488355328) : Calls Try.prog 145 #[(.slice none 0 0), a1_n_v] w0 (fun e w' => ∃ (K' : Ghost) (r0 : Value), e = .returned r0 ∧ Ext NX w0 K0 w' K' ∧ Models w' K' ∧ Own Kd.byte 5 w' K' ([] : List UInt8) r0 ∧ (∀ g, ob r0 = some g → w0.heap.size ≤ g)) := by
 refine (qln hM0 h_a1_n (qp4 h_a1_n.wf hp)).mono ?_
 rintro _ w' ⟨K', r0, o0, rfl, rfl, hF⟩
 exact ⟨K', r0, rfl, hF⟩
def qdV (a0_slices : (List (List UInt8))) (Q : (List UInt8) → Prop) : Prop :=
 ∃ (I3 : Int → Int → Prop) (μ3 : Int → Int → Nat), I3 0 0 ∧ ∀ (size3 : Int) (i3 : Int), I3 size3 i3 → ((Kd.int .i64).wf size3) → ((Kd.int .i64).wf i3) → (((i3 < (a0_slices.length : Int)) → (0 ≤ i3 ∧ i3 < (a0_slices.length : Int)) ∧ ((((IntKind.i64.wrap (size3 + ((ix a0_slices i3).length : Int))) < 0) → False) ∧ ((¬ ((IntKind.i64.wrap (size3 + ((ix a0_slices i3).length : Int))) < 0)) → I3 (IntKind.i64.wrap (size3 + ((ix a0_slices i3).length : Int))) (i3 + 1) ∧ μ3 (IntKind.i64.wrap (size3 + ((ix a0_slices i3).length : Int))) (i3 + 1) < μ3 size3 i3))) ∧ ((¬ (i3 < (a0_slices.length : Int))) → (0 ≤ size3 ∧ size3 ≤ 140737488355328) ∧ ((qao.wf ([] : List UInt8)) → (∃ (I17 : (List UInt8) → Int → Prop) (μ17 : (List UInt8) → Int → Nat), I17 ([] : List UInt8) 0 ∧ ∀ (newslice17 : (List UInt8)) (i17 : Int), I17 newslice17 i17 → (qao.wf newslice17) → ((Kd.int .i64).wf i17) → (((i17 < (a0_slices.length : Int)) → (0 ≤ i17 ∧ i17 < (a0_slices.length : Int)) ∧ (((newslice17.length + (ix a0_slices i17).length) * 1 ≤ 140737488355328) ∧ (I17 (newslice17 ++ (ix a0_slices i17)) (i17 + 1) ∧ μ17 (newslice17 ++ (ix a0_slices i17)) (i17 + 1) < μ17 newslice17 i17))) ∧ ((¬ (i17 < (a0_slices.length : Int))) → Q newslice17))))))
theorem qlk {a0_slices : (List (List UInt8))} (w_0 : qa0.wf a0_slices) (hp : a0_slices.flatten.length ≤ 140737488355328) : qdV a0_slices (fun o0 => o0 = a0_slices.flatten) := by
 have hst : ∀ j : Nat, (j : Int) < (a0_slices.length : Int) → (a0_slices.take j).flatten.length + (ix a0_slices (j : Int)).length ≤ 140737488355328 := fun j hj => by
  have h1 := qfF (l := a0_slices) (j + 1)
  rw [qcU hj, List.length_append] at h1
  omega
 unfold qdV
 refine ⟨fun s i => ∃ j : Nat, i = (j : Int) ∧ j ≤ a0_slices.length ∧ s = ((a0_slices.take j).flatten.length : Int), fun _ i => a0_slices.length - i.toNat, ⟨0, rfl, by omega, by simp⟩, ?_⟩
 rintro s i ⟨j, rfl, hj, rfl⟩ _ _
 refine ⟨fun hlt => ⟨⟨by omega, hlt⟩, ?_⟩, fun hge => ?_⟩
 ·have h1 := hst j hlt
  have e : IntKind.i64.wrap (((a0_slices.take j).flatten.length : Int) + ((ix a0_slices (j : Int)).length : Int)) = ((a0_slices.take (j + 1)).flatten.length : Int) := by
   rw [qaD (wf64 (by omega) (by omega)), qcU hlt, List.length_append]
   omega
  rw [e]
  refine ⟨fun h => by omega, fun _ => ⟨⟨j + 1, by omega, by omega, rfl⟩, ?_⟩⟩
  show a0_slices.length - ((j : Int) + 1).toNat < a0_slices.length - (j : Int).toNat
  omega
 ·have h1 := qfF (l := a0_slices) j
  refine ⟨⟨by omega, by omega⟩, fun _ => ⟨fun out i => ∃ j : Nat, i = (j : Int) ∧ j ≤ a0_slices.length ∧ out = (a0_slices.take j).flatten, fun _ i => a0_slices.length - i.toNat, ⟨0, rfl, by omega, by simp⟩, ?_⟩⟩
  rintro out i ⟨m, rfl, hm, rfl⟩ _ _
  refine ⟨fun hlt => ⟨⟨by omega, hlt⟩, ?_, ⟨m + 1, by omega, by omega, (qcU hlt).symm⟩, ?_⟩, fun hge => ?_⟩
  ·have := hst m hlt
   omega
  ·show a0_slices.length - ((m : Int) + 1).toNat < a0_slices.length - (m : Int).toNat
   omega
  ·have : m = a0_slices.length := by omega
   subst this
   rw [List.take_length]
theorem qiE {w0 : World} {K0 : Ghost} {a0_slices_v : Value} {a0_slices : (List (List UInt8))} {Q : (List UInt8) → Prop} (hM0 : Models w0 K0) (h_a0_slices : qa0.V K0 a0_slices a0_slices_v) (h : qdV a0_slices Q) : Calls Try.prog 134 #[a0_slices_v] w0 (fun e w' => ∃ (K' : Ghost) (r0 : Value) (o0 : (List UInt8)), e = .returned r0 ∧ Q o0 ∧ Ext NX w0 K0 w' K' ∧ Models w' K' ∧ Own Kd.byte 5 w' K' o0 r0 ∧ (∀ g, ob r0 = some g → w0.heap.size ≤ g)) := by
 unfold qdV at h
 have hE0 : Ext NX w0 K0 w0 K0 := Ext.refl _ _ _
 refine qa7 fun R hR => ?_
 refine qaR (args := [a0_slices_v]) Try.func134 rfl (Nat.le_of_ble_eq_true rfl) ?_
 refine qah ?_
 refine qac ?_
 have hR2 : Own Kd.byte 5 w0 K0 ([] : List UInt8) (.slice none 0 0) := Own.nil
 refine qab (.slice none 0 0) (R_as rfl) rfl rfl ?_
 refine qak ?_
 refine qah ?_
 refine qac ?_
 refine qab (.int .i64 0) (R_as rfl) rfl rfl ?_
 refine qak ?_
 refine qah ?_
 refine qah ?_
 refine qac ?_
 refine qab a0_slices_v (R_mv rfl) rfl rfl ?_
 refine qab (.int .i64 (a0_slices.length : Int)) (qfq rfl h_a0_slices Try.underlying96) rfl rfl ?_
 refine qab (.int .i64 0) (R_mv rfl) rfl rfl ?_
 refine qak ?_
 refine qa9 ?_
 obtain ⟨I3, μ3, h0, h⟩ := h
 refine qg8 (ι := Int × Int) [3, 5, 11, 12, 13, 14, 15, 16, 17, 18, 19, 20, 21, 22] (fun s l w => ∃ K, I3 s.1 s.2 ∧ l = [(3, (.int .i64 s.1)), (11, (.int .i64 s.2))] ∧ Ext NX w0 K0 w K ∧ Models w K ∧ (Kd.int .i64).wf s.1 ∧ (Kd.int .i64).wf s.2) (fun s => μ3 s.1 s.2) (0, 0) [(3, (.int .i64 0)), (11, (.int .i64 0))]
  ⟨K0, h0, rfl, Ext.refl _ _ _, hM0, (show (Kd.int .i64).wf 0 from by constructor <;> decide), (show (Kd.int .i64).wf 0 from by constructor <;> decide)⟩ (by repeat (first | exact trivial | refine ⟨rfl, ?_⟩)) ?_
 rintro ⟨size3, i3⟩ l σ3 w4 ⟨K4, hI, rfl, hX4, hM4, hw3_3, hw3_11⟩
 dsimp only at hI hw3_3 hw3_11
 have hE4 := hE0.andN hX4
 have h := h size3 i3 hI hw3_3 hw3_11
 refine qah ?_
 refine qac ?_
 refine qab (.bool (decide (i3 < (a0_slices.length : Int)))) (qe1 rfl rfl) rfl rfl ?_
 refine qak ?_
 refine qah ?_
 refine qaK (decide (i3 < (a0_slices.length : Int))) rfl (fun hc5 => ?_) (fun hc5 => ?_)
 ·have hd5 : i3 < (a0_slices.length : Int) := qh1 hc5
  have h := h.1 hd5
  refine qa3 ?_
  refine qah ?_
  refine qa9 ?_
  refine qah ?_
  refine qac ?_
  obtain ⟨hp7, h⟩ := h
  refine WL_P (qlG rfl (h_a0_slices.mono hX4.le) rfl Try.underlying96 ty32 hp7.1 hp7.2) rfl rfl ?_
  rintro b6 o6 hP6
  refine WL_L hM4 (S_ld rfl ty32 hP6) rfl rfl ?_
  rintro v9 (hV9 : qao.V _ (ix a0_slices i3) _)
  refine qab v9 (R_as rfl) rfl rfl ?_
  refine qak ?_
  refine qah ?_
  refine qac ?_
  refine qab (.int .i64 size3) (R_mv rfl) rfl rfl ?_
  refine qab v9 (R_mv rfl) rfl rfl ?_
  refine qab (.int .i64 ((ix a0_slices i3).length : Int)) (qfq rfl hV9 Try.underlying32) rfl rfl ?_
  refine qab (.int .i64 (IntKind.i64.wrap (size3 + ((ix a0_slices i3).length : Int)))) (qf9 rfl rfl) rfl rfl ?_
  refine qab (.int .i64 (IntKind.i64.wrap (size3 + ((ix a0_slices i3).length : Int)))) (R_as rfl) rfl rfl ?_
  refine qak ?_
  refine qah ?_
  refine qac ?_
  refine qab (.int .i64 (IntKind.i64.wrap (size3 + ((ix a0_slices i3).length : Int)))) (R_mv rfl) rfl rfl ?_
  refine qab (.bool (decide ((IntKind.i64.wrap (size3 + ((ix a0_slices i3).length : Int))) < 0))) (qe1 rfl rfl) rfl rfl ?_
  refine qak ?_
  refine qaK (decide ((IntKind.i64.wrap (size3 + ((ix a0_slices i3).length : Int))) < 0)) rfl (fun hc11 => ?_) (fun hc11 => ?_)
  ·have hd11 : (IntKind.i64.wrap (size3 + ((ix a0_slices i3).length : Int))) < 0 := qh1 hc11
   have h := h.1 hd11
   refine qac ?_
   exact h.elim
  ·have hd11 : ¬ ((IntKind.i64.wrap (size3 + ((ix a0_slices i3).length : Int))) < 0) := qh0 hc11
   have h := h.2 hd11
   refine qa3 ?_
   refine qac ?_
   refine qab (.int .i64 (i3 + 1)) (qqe rfl rfl hw3_11 hd5 (qcv (h_a0_slices).wf.1)) rfl rfl ?_
   refine qab (.int .i64 (i3 + 1)) (R_mv rfl) rfl rfl ?_
   refine qak ?_
   refine qiA.mk ((IntKind.i64.wrap (size3 + ((ix a0_slices i3).length : Int))), (i3 + 1)) [(3, (.int .i64 (IntKind.i64.wrap (size3 + ((ix a0_slices i3).length : Int))))), (11, (.int .i64 (i3 + 1)))] ?_ ?_ ?_ ?_
   rotate_left
   ·exact h.2
   ·repeat (first | exact Off.lay0 rfl | refine Off.updO ?_ rfl _ | refine Off.updN ?_ _ | refine Off.lay ?_ rfl)
   ·repeat (first | exact trivial | refine ⟨rfl, ?_⟩)
   exact ⟨K4, h.1, rfl, ((Ext.refl _ _ _).andN hX4), hM4, (qcq _ _), (qmG hw3_11 hd5 (qcv (h_a0_slices).wf.1))⟩
 ·have hd5 : ¬ (i3 < (a0_slices.length : Int)) := qh0 hc5
  have h := h.2 hd5
  refine qfu ?_
  refine qah ?_
  refine qac ?_
  refine qab (.int .i64 size3) (R_mv rfl) rfl rfl ?_
  have hR12 : Own Kd.byte 5 w4 K4 ([] : List UInt8) (.slice none 0 0) := Own.nil
  have hR13 := (hR2.extN hX4)
  obtain ⟨hp15, h⟩ := h
  refine qaw rfl rfl (qaQ (qbz Try.call145 rfl) ((qrD hM4 (qfL hw3_3) hp15).mono ?_))
  rintro _ w14 ⟨K14, v14_0, rfl, hS14, hM14, hO14_0, hg14_0⟩
  refine ⟨v14_0, rfl, ?_⟩
  have hE14 := hE4.andN hS14
  have h := h hO14_0.wf
  refine qab v14_0 (R_as rfl) rfl rfl ?_
  refine qak ?_
  refine qah ?_
  refine qah ?_
  refine qac ?_
  refine qab a0_slices_v (R_mv rfl) rfl rfl ?_
  refine qab (.int .i64 (a0_slices.length : Int)) (qfq rfl (h_a0_slices.mono (hX4.le.trans hS14.le)) Try.underlying96) rfl rfl ?_
  refine qab (.int .i64 0) (R_mv rfl) rfl rfl ?_
  refine qak ?_
  refine qa9 ?_
  obtain ⟨I17, μ17, h0, h⟩ := h
  refine qg8 (ι := (List UInt8) × Int) [6, 8, 27, 28, 29, 30, 31, 32, 33, 34] (fun s l w => ∃ K u6, I17 s.1 s.2 ∧ l = [(6, u6), (27, (.int .i64 s.2))] ∧ Ext (fun c => ob v14_0 = some c) w14 K14 w K ∧ Models w K ∧ (Kd.int .i64).wf s.2 ∧ Own Kd.byte 5 w K s.1 u6 ∧ (∀ g, ob u6 = some g → ob v14_0 = some g ∨ w14.heap.size ≤ g)) (fun s => μ17 s.1 s.2) (([] : List UInt8), 0) [(6, v14_0), (27, (.int .i64 0))]
   ⟨K14, v14_0, h0, rfl, Ext.refl _ _ _, hM14, (show (Kd.int .i64).wf 0 from by constructor <;> decide), hO14_0, (fun g hg => (.inl hg))⟩ (by repeat (first | exact trivial | refine ⟨rfl, ?_⟩)) ?_
  rintro ⟨newslice17, i17⟩ l σ17 w18 ⟨K18, u6_17, hI, rfl, hX18, hM18, hw17_27, hL17_u6, ho17_u6⟩
  dsimp only at hI hw17_27 hL17_u6 ho17_u6
  have hE18 := hE14.comp hX18 (fun c hx hlt => (fun g hg hlt => absurd hlt (Nat.not_lt.2 ((fun g hg => Nat.le_trans hE4.size (hg14_0 g hg)) g hg))) c hx hlt)
  have hR19 := (hR13.extN hS14)
  have hR20 := (hR19.ext hX18 (fun g hg hx => (fun g hg hx => (fun g hg hx => absurd (hR13.lt _ hx) (Nat.not_lt.2 (hg14_0 g hg))) g hx hg) g hg hx))
  have hR21 := (hR12.extN hS14)
  have hR22 := (hR21.ext hX18 (fun g hg hx => (fun g hg hx => (fun g hg hx => absurd (hR12.lt _ hx) (Nat.not_lt.2 (hg14_0 g hg))) g hx hg) g hg hx))
  have hR23 := (hR13.extN hS14)
  have hR24 := (hR12.extN hS14)
  have h := h newslice17 i17 hI hL17_u6.wf hw17_27
  refine qah ?_
  refine qac ?_
  refine qab (.bool (decide (i17 < (a0_slices.length : Int)))) (qe1 rfl rfl) rfl rfl ?_
  refine qak ?_
  refine qah ?_
  refine qaK (decide (i17 < (a0_slices.length : Int))) rfl (fun hc25 => ?_) (fun hc25 => ?_)
  ·have hd25 : i17 < (a0_slices.length : Int) := qh1 hc25
   have h := h.1 hd25
   refine qa3 ?_
   refine qah ?_
   refine qa9 ?_
   refine qah ?_
   refine qac ?_
   obtain ⟨hp27, h⟩ := h
   refine WL_P (qlG rfl (h_a0_slices.mono (hX4.le.trans (hS14.le.trans hX18.le))) rfl Try.underlying96 ty32 hp27.1 hp27.2) rfl rfl ?_
   rintro b26 o26 hP26
   refine WL_L hM18 (S_ld rfl ty32 hP26) rfl rfl ?_
   rintro v29 (hV29 : qao.V _ (ix a0_slices i17) _)
   refine qab v29 (R_as rfl) rfl rfl ?_
   refine qak ?_
   refine qac ?_
   refine qab u6_17 (R_mv rfl) rfl rfl ?_
   refine qab v29 (R_mv rfl) rfl rfl ?_
   obtain ⟨hp32, h⟩ := h
   refine qaw rfl rfl (St_S (qse hM18 rfl hL17_u6 rfl hV29 Try.underlying32 ty5b rfl hp32) ?_)
   rintro v31 w31 K31 hO31 hS31 hM31 hob31
   have hE31 := hE18.comp hS31 (fun c hx hlt => (fun g hg hlt => absurd hlt (Nat.not_lt.2 ((fun g hg => (ho17_u6 g hg).elim (fun hx => (fun g hg => Nat.le_trans hE4.size (hg14_0 g hg)) g hx) (fun hx => Nat.le_trans hE14.size hx)) g hg))) c hx hlt)
   have hR33 := (hR20.ext hS31 (fun g hg hx => (fun g hg hx => (fun g hg hy => (ho17_u6 g hg).elim (fun hz => (fun g hg hx => absurd (hR13.lt _ hx) (Nat.not_lt.2 (hg14_0 g hg))) g hz hy) (fun hz => absurd (hR23.lt _ hy) (Nat.not_lt.2 hz))) g hx hg) g hg hx))
   have hR34 := (hR22.ext hS31 (fun g hg hx => (fun g hg hx => (fun g hg hy => (ho17_u6 g hg).elim (fun hz => (fun g hg hx => absurd (hR12.lt _ hx) (Nat.not_lt.2 (hg14_0 g hg))) g hz hy) (fun hz => absurd (hR24.lt _ hy) (Nat.not_lt.2 hz))) g hx hg) g hg hx))
   have hf31 : ∀ g, ob v31 = some g → w0.heap.size ≤ g := fun g hg => by rcases hob31 with hq | hq <;> rw [hq] at hg; exact (fun g hg => (ho17_u6 g hg).elim (fun hx => (fun g hg => Nat.le_trans hE4.size (hg14_0 g hg)) g hx) (fun hx => Nat.le_trans hE14.size hx)) g hg; cases hg; exact hE18.size
   refine qab v31 (R_as rfl) rfl rfl ?_
   refine qak ?_
   refine qac ?_
   refine qab (.int .i64 (i17 + 1)) (qqe rfl rfl hw17_27 hd25 (qcv (h_a0_slices).wf.1)) rfl rfl ?_
   refine qab (.int .i64 (i17 + 1)) (R_mv rfl) rfl rfl ?_
   refine qak ?_
   refine qiA.mk ((newslice17 ++ (ix a0_slices i17)), (i17 + 1)) [(6, v31), (27, (.int .i64 (i17 + 1)))] ?_ ?_ ?_ ?_
   rotate_left
   ·exact h.2
   ·repeat (first | exact Off.lay0 rfl | refine Off.updO ?_ rfl _ | refine Off.updN ?_ _ | refine Off.lay ?_ rfl)
   ·repeat (first | exact trivial | refine ⟨rfl, ?_⟩)
   exact ⟨K31, v31, h.1, rfl, (((Ext.refl _ _ _).comp hX18 (fun c hx hlt => (hx))).comp hS31 (fun c hx hlt => ((((ho17_u6 c hx).elim (fun hz => (.inl hz)) (fun hz => .inr (Nat.le_trans (Nat.le_refl _) hz))) : ob v14_0 = some c ∨ w14.heap.size ≤ c).elim (fun hx => (hx)) (fun hz => absurd hlt (Nat.not_lt.2 hz))))), hM31, (qmG hw17_27 hd25 (qcv (h_a0_slices).wf.1)), hO31, (fun g hg => (by have hg : ob v31 = some g := hg; rcases hob31 with hq | hq <;> rw [hq] at hg; exact ((ho17_u6 g hg).elim (fun hz => (.inl hz)) (fun hz => .inr (Nat.le_trans (Nat.le_refl _) hz))); cases hg; exact .inr hX18.size))⟩
  ·have hd25 : ¬ (i17 < (a0_slices.length : Int)) := qh0 hc25
   have h := h.2 hd25
   refine qfu ?_
   refine qah ?_
   refine qac ?_
   refine qab u6_17 (R_mv rfl) rfl rfl ?_
   refine qab u6_17 (R_as rfl) rfl rfl ?_
   refine qak ?_
   refine qbY ?_
   exact qbt hR (v := u6_17) (qdy rfl rfl) ⟨K18, u6_17, newslice17, rfl, h, hE18, hM18, hL17_u6, (fun g hg => (ho17_u6 g hg).elim (fun hx => (fun g hg => Nat.le_trans hE4.size (hg14_0 g hg)) g hx) (fun hx => Nat.le_trans hE14.size hx))⟩
theorem qnM {w0 : World} {K0 : Ghost} {a0_slices_v : Value} {a0_slices : (List (List UInt8))} (hM0 : Models w0 K0) (h_a0_slices : qa0.V K0 a0_slices a0_slices_v) (hp : a0_slices.flatten.length ≤ 140737488355328) : Calls Try.prog 134 #[a0_slices_v] w0 (fun e w' => ∃ (K' : Ghost) (r0 : Value), e = .returned r0 ∧ Ext NX w0 K0 w' K' ∧ Models w' K' ∧ Own Kd.byte 5 w' K' a0_slices.flatten r0 ∧ (∀ g, ob r0 = some g → w0.heap.size ≤ g)) := by
 refine (qiE hM0 h_a0_slices (qlk h_a0_slices.wf hp)).mono ?_
 rintro _ w' ⟨K', r0, o0, rfl, rfl, hF⟩
 exact ⟨K', r0, rfl, hF⟩
end Go.Proofs.Ytmjjkpiglbpkhaa

set_option linter.unusedVariables false
set_option maxRecDepth 100000
set_option maxHeartbeats 2000000
namespace Go.Proofs.Ytmjjkpiglbpkhaa
open Go Go.RowKit Go.Inc
noncomputable def qjF : Ctr := ⟨[.v (.sl (.sl .byte))], [.ow 5 .byte], some (fun a => (fun (a0_slices : List (List UInt8)) => (a0_slices.flatten.length ≤ 140737488355328 : Prop)) a.1), fun a => (fun (a0_slices : List (List UInt8)) => ((a0_slices.flatten, ()), (()))) a.1⟩
theorem qnN : qjF.valid Try.prog 134 := qsA (k := .byte) (fun _ => rfl) fun a hp θ vs w K hM hv => by
 obtain ⟨v, vs, rfl, h1, h2⟩ := hv
 have h2' : vs = [] := h2
 subst h2'
 exact qnM hM (qbM (t := .sl (.sl .byte)) h1 rfl) hp
end Go.Proofs.Ytmjjkpiglbpkhaa

set_option linter.unusedVariables false
namespace Go.Inc
open Go Go.RowKit
section
variable {P : Program} {f : FuncId} {pm : List PM} {e : Nat}
theorem qq5 {u : Bool} {t : Ty} {pr : Option (PM.denL (.bk e u :: pm) → Prop)} {out : PM.denL (.bk e u :: pm) → RM.denL [.v t] × PM.MD (.bk e u :: pm)} {pr' : Option (PM.denL (.nil :: pm) → Prop)} {out' : PM.denL (.nil :: pm) → RM.denL [.v t] × PM.MD (.nil :: pm)}
 (h : Ctr.valid P f ⟨.bk e u :: pm, [.v t], pr, out⟩) (h0 : ∀ a, PM.resL pm a = []) (hs : ∀ (a : PM.denL pm) (θ θ' : Th) (n n' : Nat) (K : Ghost) (vs : List Value), SVal.relL θ n K (PM.svL pm a n) vs → SVal.relL θ' n' K (PM.svL pm a n') vs) (ho : ∀ x : t.den, (SVal.of t x).to t = some x)
 (hp : ∀ a, Ctr.pre ⟨.nil :: pm, [.v t], pr', out'⟩ a → Ctr.pre ⟨.bk e u :: pm, [.v t], pr, out⟩ (none, a.2)) (hout : ∀ a, Ctr.pre ⟨.nil :: pm, [.v t], pr', out'⟩ a → (out' a).1.1 = (out (none, a.2)).1.1) : Ctr.valid P f ⟨.nil :: pm, [.v t], pr', out'⟩ := by
 refine br_v (C := ⟨.nil :: pm, [.v t], pr', out'⟩) (fun a => ?_) (fun _ => rfl) fun a hpre θ vs w K hM hv => ?_
 ·show PM.res .nil a.1 ++ PM.resL pm a.2 = []
  rw [h0]
  rfl
 obtain ⟨v, vs, rfl, h1, h2⟩ := hv
 have h1' : v = .pointer none := h1
 subst h1'
 have hres : PM.resL (.bk e u :: pm) (none, a.2) = [(.bk e none, u)] := by
  show PM.res (.bk e u) none ++ PM.resL pm a.2 = _
  rw [h0]
  rfl
 have h3 := h (none, a.2) (hp a hpre) ⟨fun _ => .pointer none, fun _ => NX, fun _ => ([], [])⟩ (.pointer none :: vs) w K hM ⟨by
  rw [hres]
  exact ⟨_, vs, rfl, ⟨Nat.zero_lt_one, rfl⟩, hs _ _ _ _ _ _ _ h2⟩, fun r R m hr => by
  rw [hres] at hr
  cases r with
  | succ r => simp at hr
  | zero =>
    simp at hr
    obtain ⟨rfl, rfl⟩ := hr
    exact (qaW.nil : qaW e w K (.pointer none) NX none), fun r r' h1 h2 hne => by
  rw [hres] at h1 h2
  simp at h1 h2
  omega⟩
 refine h3.mono ?_
 rintro ed w' ⟨v, K', θ', rfl, hO⟩
 obtain ⟨us, rfl, hus⟩ := hO.val
 obtain ⟨r0, us, rfl, hr, hnil⟩ := hus
 have hnil' : us = [] := hnil
 subst hnil'
 refine ⟨K', [r0], rfl, hO.ext.weak ?_, hO.mod, ?_⟩
 ·rintro g _ ⟨r, R, hr, hf⟩
  exact hf
 ·refine ⟨r0, [], rfl, ?_, rfl⟩
  have hV := qbM hr (ho _)
  have := SVal.of_rel (θ := θ) (n := 0) hV
  rw [← hout a hpre] at this
  exact this
end
end Go.Inc

set_option linter.unusedVariables false
namespace Go.Inc
open Go Go.RowKit
section
variable {P : Program} {f : FuncId} {pm : List PM} {rm : List RM} {e : Nat} {t : Ty}
end
end Go.Inc

set_option linter.unusedVariables false
namespace Go.Inc
open Go Go.RowKit
def Yields (P : Program) (l : Nat) (v : Value) (W : World) (R : World → Prop) : Prop := YieldAt Fence.wide 0 P l #[v] W fun e W' => e = .returned (.bool true) ∧ R W'
def Iter (P : Program) (f : Nat) (lb : Array Value) (L : List Value) (B : Nat → Prop) (W0 : World) (K0 : Ghost) : Prop :=
 ∀ (l : Nat) (J : Nat → World → Ghost → Prop) (W : World) (K : Ghost), Ext (fun b => ¬ B b) W0 K0 W K → Models W K →
   (∀ j W K W' K', J j W K → Ext B W K W' K' → Models W' K' → J j W' K') →
   (∀ j x W K, L[j]? = some x → J j W K → Models W K → Yields P l x W fun W' => ∃ K', J (j + 1) W' K' ∧ Models W' K' ∧ Ext (fun b => ¬ B b) W K W' K') →
   J 0 W K → Calls P f (#[.func (.yield l) #[] #[]] ++ lb) W fun e W' => (∃ v, e = .returned v) ∧ ∃ K', J L.length W' K' ∧ Models W' K'
def marks : Option Nat → List Deferred
 | none => []
 | some D => [{ target := .collected D, args := #[] }]
def WF (P : Program) (n : Nat) (c : Code) (Q : Option Nat → Post) (ρ : Env) (w : World) : Prop := ∀ a, Fits n [] ρ a → c.wpIn Fence.wide 0 P (fun e a w => ∃ D ρ', Fits n (marks D) ρ' a ∧ Q D e ρ' w) a w
theorem WF.mono {P : Program} {n : Nat} {c : Code} {Q Q' : Option Nat → Post} {ρ : Env} {w : World} (h : WF P n c Q ρ w) (hq : ∀ D e ρ w, Q D e ρ w → Q' D e ρ w) : WF P n c Q' ρ w := fun a ha => wpIn_mono (h a ha) fun e a w ⟨D, ρ', hf, h⟩ => ⟨D, ρ', hf, hq D e ρ' w h⟩
end Go.Inc

set_option linter.unusedVariables false
namespace Go.Inc
open Go Go.RowKit
section
variable {G G2 : Glob} {s : St} {θ : Th} {ρ : Env} {w w' : World} {K K' : Ghost}
theorem Rel.base (h : Rel G s θ ρ w K) (hE : Ext G2.X G2.w0 G2.K0 w K) (h1 : G2.Kb = G.Kb) (h2 : G2.θb = G.θb) (h3 : G2.nb = G.nb) (h4 : G2.frz = G.frz) (ho : ∀ r e, s.res r = some e → e.org.ok G2 (θ.fp r)) : Rel G2 s θ ρ w K :=
 ⟨h.mod, hE, by rw [h1]; exact h.kle, by rw [h2, h3]; exact h.old, by rw [h3]; exact h.nbx, fun r e he => by rw [h4] at he; rw [h2]; exact h.frz r e he, h.env, fun r e he => ⟨(h.res r e he).1, (h.res r e he).2.1, ho r e he⟩, h.sep⟩
end
def Caps (w : World) (K : Ghost) : List Int → List Value → (Nat → Prop) → Prop
 | [], [], B => ∀ b, ¬ B b
 | x :: xs, v :: vs, B => ∃ (b : Nat) (pre post : List Value) (B' : Nat → Prop), v = .pointer (some ⟨b, pre.length, none⟩) ∧ Bx (Ty.kd (.int .i64)) w K b pre post x ∧ ¬ B' b ∧ Caps w K xs vs B' ∧ ∀ g, B g ↔ g = b ∨ B' g
 | _, _, _ => False
structure ICtr where
 pre : List Int → Prop
 L : List Int → List Int
def ICtr.valid (P : Program) (f : Nat) (C : ICtr) : Prop := ∀ xs, C.pre xs → (∀ x ∈ C.L xs, (Kd.int .i64).wf x) ∧ ∀ (vs : List Value) (B : Nat → Prop) (w : World) (K : Ghost), Models w K → Caps w K xs vs B → Iter P f vs.toArray ((C.L xs).map fun x => .int .i64 x) B w K
end Go.Inc

set_option linter.unusedVariables false
namespace Go.Inc
open Go Go.RowKit
section
variable {P : Program} {n p : Nat}
end
end Go.Inc

set_option linter.unusedVariables false
namespace Go.Inc
open Go Go.RowKit
section
variable {X : Fx} {its : List (Nat × ICtr)} {ex : Nat → Code → St → (Exit → St → Prop) → Prop} {n : Nat} {G : Glob}
end
end Go.Inc

set_option linter.unusedVariables false
namespace Go.Inc
open Go Go.RowKit
section
variable {X : Fx} {its : List (Nat × ICtr)} {f : Nat} {C : Ctr}
end
end Go.Inc

set_option linter.unusedVariables false
namespace Go.Inc
open Go Go.RowKit
section
variable {P : Program} {n : Nat} {ops : Array Oper} {Q : Post} {ρ : Env} {w : World} {o : Oper} {i : Nat} {rest : List Nat}
end
structure Held (B : Nat → Prop) (θ0 : Th) (m : Nat) : Prop where
 key : ∀ r, r < m → ∃ b, θ0.key r = .pointer (some ⟨b, (θ0.sur r).1.length, none⟩) ∧ B b ∧ ∀ g, θ0.fp r g ↔ g = b
 sep : ∀ r r', r < m → r' < m → r ≠ r' → ∀ g, θ0.fp r g → ¬ θ0.fp r' g
section
variable {X : Fx} {fuel n : Nat} {L : List Int} {l m : Nat} {B : Nat → Prop} {θ0 : Th} {Kb : Ghost} {J : Nat → World → Ghost → Prop}
variable (hX : X.ok) (hB : Held B θ0 m) (hJ : ∀ j W K W' K', J j W K → Ext B W K W' K' → Models W' K' → J j W' K')
 (hY : ∀ j x W K, L[j]? = some x → J j W K → Models W K → Yields X.c.P l (.int .i64 x) W fun W' => ∃ K', J (j + 1) W' K' ∧ Models W' K' ∧ Ext (fun b => ¬ B b) W K W' K')
include hX hB hJ hY
end
end Go.Inc

set_option linter.unusedVariables false
namespace Go.Inc
open Go Go.RowKit
end Go.Inc

set_option linter.unusedVariables false
namespace Go.Inc
open Go
abbrev Sm := List UInt8
theorem ixN {α : Type} [Inhabited α] {l : List α} {j : Nat} (h : j < l.length) : ix l (j : Int) = l[j] := qce (i := (j : Int)) h
def half (n : Nat) : Nat := if n < 2 then 0 else 2 ^ Nat.log2 (n - 1)
theorem qbb {n : Nat} (h : 2 ≤ n) : 1 ≤ half n := by
 unfold half
 rw [if_neg (by omega)]
 exact Nat.one_le_two_pow
theorem qbC {n : Nat} (h : 2 ≤ n) : half n < n := by
 unfold half
 rw [if_neg (by omega)]
 have := Nat.log2_self_le (n := n - 1) (by omega)
 omega
def qbh (l : List Sm) : Sm :=
 if h : l.length < 2 then (match l with
  | [] => qae 2 []
  | x :: _ => x)
 else qae 2 [qbh (l.take (half l.length)), qbh (l.drop (half l.length))]
termination_by l.length
decreasing_by
 all_goals
  have h1 := qbb (n := l.length) (by omega)
  have h2 := qbC (n := l.length) (by omega)
  simp only [List.length_take, List.length_drop]
  omega
theorem qnc : qbh [] = qae 2 [] := by rw [qbh]; rfl
theorem qf1 (x : Sm) : qbh [x] = x := by rw [qbh]; rfl
theorem qc5 {l : List Sm} (h : 2 ≤ l.length) : qbh l = qae 2 [qbh (l.take (half l.length)), qbh (l.drop (half l.length))] := by
 rw [qbh, dif_neg (by omega)]
theorem qbi : ∀ {l : List Sm}, (∀ x ∈ l, x.length = 32) → (qbh l).length = 32
 | [], _ => by rw [qnc]; exact qaE _ _
 | [x], h => by rw [qf1]; exact h x (by simp)
 | x :: y :: r, _ => by rw [qc5 (by simp)]; exact qaE _ _
def qbw (b : qag) (l : List Sm) : qag :=
 if h : l.length < 2 then (if l.length = 0 then qaj b 2 [] else b)
 else qaj (qbw (qbw b (l.take (half l.length))) (l.drop (half l.length))) 2 [qbh (l.take (half l.length)), qbh (l.drop (half l.length))]
termination_by l.length
decreasing_by
 all_goals
  have h1 := qbb (n := l.length) (by omega)
  have h2 := qbC (n := l.length) (by omega)
  simp only [List.length_take, List.length_drop]
  omega
theorem qbp (b : qag) : qbw b [] = qaj b 2 [] := by rw [qbw]; rfl
theorem qbV (b : qag) (x : Sm) : qbw b [x] = b := by rw [qbw]; rfl
theorem qbE (b : qag) {l : List Sm} (h : 2 ≤ l.length) : qbw b l = qaj (qbw (qbw b (l.take (half l.length))) (l.drop (half l.length))) 2 [qbh (l.take (half l.length)), qbh (l.drop (half l.length))] := by
 rw [qbw, dif_neg (by omega)]
def qar (x : qag) (n : Nat) : Prop := ∀ y, x = some y → y.1.length + n ≤ 1048576
theorem qar.room {x : qag} {n : Nat} (h : qar x n) : qan x := fun y hy => by
 have := h y hy
 omega
theorem qar.le {x : qag} {n m : Nat} (h : qar x n) (hm : m ≤ n) : qar x m := fun y hy => by
 have := h y hy
 omega
theorem qar.of {x : qag} {n : Nat} (h : qar x (n + 1)) (k : Int) (l : List (List UInt8)) : qar (qaj x k l) n := by
 intro y hy
 cases x with
 | none => cases hy
 | some z =>
   cases hy
   have h1 := h z rfl
   have h2 := qn8 z.1 (qae k l) (preimage k l)
   show (addL z.1 (qae k l) (preimage k l)).length + n ≤ 1048576
   omega
theorem qar.root : ∀ (k : Nat) {l : List Sm} {x : qag} {n : Nat}, l.length ≤ k → 1 ≤ l.length → qar x (n + (l.length - 1)) → qar (qbw x l) n
 | 0, l, x, n, hk, h1, h => by omega
 | k + 1, l, x, n, hk, h1, h => by
   rcases Nat.lt_or_ge l.length 2 with h2 | h2
   ·match l, h1, h2 with
    | [a], _, _ => rw [qbV]; exact h
   ·have a1 := qbb h2
    have a2 := qbC h2
    rw [qbE x h2]
    refine qar.of (qar.root k ?_ ?_ (qar.root k ?_ ?_ (h.le ?_))) _ _ <;> simp only [List.length_take, List.length_drop] <;> omega
def qhr : List Int → List Sm → Sm × Sm → qag → qag
 | a :: A, p :: P, s, x => qhr A P (if a = 1 then (s.1, qae 2 [s.2, p]) else (qae 2 [p, s.1], qae 2 [p, s.2])) (if a = 1 then qaj x 2 [s.2, p] else qaj (qaj x 2 [p, s.1]) 2 [p, s.2])
 | _, _, _, x => x
end Go.Inc

set_option linter.unusedVariables false
set_option maxRecDepth 100000
namespace Go.Inc
open Go
end Go.Inc

set_option linter.unusedVariables false
namespace Go.Inc
open Go
def bkIn (N : List Nt) (x : qag) : Prop := ∀ y, x = some y → ∀ z ∈ y.1, z ∈ N
theorem bkIn.of {N : List Nt} {x : qag} {k : Int} {p : List (List UInt8)} (h : bkIn N (qaj x k p)) : bkIn N x := fun y hy z hz => by
 subst hy
 exact h _ rfl z (qn9 _ _ _ z hz)
theorem bkIn.node {N : List Nt} {x : qag} {k : Int} {p : List (List UInt8)} (hx : x.isSome = true) (h : bkIn N (qaj x k p)) : (qae k p, preimage k p) ∈ N := by
 obtain ⟨y, rfl⟩ := Option.isSome_iff_exists.1 hx
 exact h _ rfl _ (qqt _ _ _)
theorem qaC {x : qag} {k : Int} {p : List (List UInt8)} (hx : x.isSome = true) : (qaj x k p).isSome = true := by
 obtain ⟨y, rfl⟩ := Option.isSome_iff_exists.1 hx
 rfl
theorem qbx : ∀ (k : Nat) {l : List Sm} {x : qag}, l.length ≤ k → x.isSome = true → (qbw x l).isSome = true
 | 0, l, x, hk, hx => by
   obtain rfl : l = [] := List.length_eq_zero_iff.1 (by omega)
   rw [qbp]; exact qaC hx
 | k + 1, l, x, hk, hx => by
   rcases Nat.lt_or_ge l.length 2 with h2 | h2
   ·match l, h2 with
    | [], _ => rw [qbp]; exact qaC hx
    | [a], _ => rw [qbV]; exact hx
   ·have a1 := qbb h2
    have a2 := qbC h2
    rw [qbE x h2]
    exact qaC (qbx k (by simp only [List.length_drop]; omega) (qbx k (by simp only [List.length_take]; omega) hx))
theorem bkIn.root : ∀ (k : Nat) {N : List Nt} {l : List Sm} {x : qag}, l.length ≤ k → bkIn N (qbw x l) → bkIn N x
 | 0, N, l, x, hk, h => by
   obtain rfl : l = [] := List.length_eq_zero_iff.1 (by omega)
   rw [qbp] at h; exact h.of
 | k + 1, N, l, x, hk, h => by
   rcases Nat.lt_or_ge l.length 2 with h2 | h2
   ·match l, h2 with
    | [], _ => rw [qbp] at h; exact h.of
    | [a], _ => rw [qbV] at h; exact h
   ·have a1 := qbb h2
    have a2 := qbC h2
    rw [qbE x h2] at h
    exact bkIn.root k (by simp only [List.length_take]; omega) (bkIn.root k (by simp only [List.length_drop]; omega) h.of)
theorem qcn.node {N : List Nt} (hN : qcn N) {a b c d : Sm} (h1 : (qae 2 [a, b], preimage 2 [a, b]) ∈ N) (h2 : (qae 2 [c, d], preimage 2 [c, d]) ∈ N) (he : qae 2 [a, b] = qae 2 [c, d]) (ha : a.length = 32) (hb : b.length = 32) (hc : c.length = 32) (hd : d.length = 32) : a = c ∧ b = d := by
 rw [he] at h1
 have hp := hN _ _ _ h1 h2
 have := (qeX (k := 2) (o := 2) (a := [a, b]) (b := [c, d]) (by intro x hx; simp at hx; rcases hx with rfl | rfl <;> omega) (by intro x hx; simp at hx; rcases hx with rfl | rfl <;> omega)).1 hp
 simpa using this.2
def qbA (x : qag) : Prop := ∀ y, x = some y → ∀ z ∈ y.1, z.2.length ≤ 200
theorem qbA.of {x : qag} {k : Int} {p : List (List UInt8)} (h : qbA x) (hp : qai p ≤ 199) : qbA (qaj x k p) := fun y hy z hz => by
 cases x with
 | none => cases hy
 | some u =>
   cases hy
   rcases qjT hz with hz | hz
   ·exact h u rfl z hz
   ·rw [hz]
    have := qcj k (l := p) (by omega)
    exact Nat.le_trans this (by omega)
theorem qk0 {a b : Sm} (ha : a.length = 32) (hb : b.length = 32) : qai [a, b] ≤ 199 := by simp [qai, ha, hb]
theorem qbA.root : ∀ (k : Nat) {l : List Sm} {x : qag}, l.length ≤ k → (∀ z ∈ l, z.length = 32) → qbA x → qbA (qbw x l)
 | 0, l, x, hk, hl, h => by
   obtain rfl : l = [] := List.length_eq_zero_iff.1 (by omega)
   rw [qbp]; exact h.of (by simp [qai])
 | k + 1, l, x, hk, hl, h => by
   rcases Nat.lt_or_ge l.length 2 with h2 | h2
   ·match l, h2 with
    | [], _ => rw [qbp]; exact h.of (by simp [qai])
    | [a], _ => rw [qbV]; exact h
   ·have a1 := qbb h2
    have a2 := qbC h2
    have w1 : ∀ z ∈ l.take (half l.length), z.length = 32 := fun z hz => hl z (List.mem_of_mem_take hz)
    have w2 : ∀ z ∈ l.drop (half l.length), z.length = 32 := fun z hz => hl z (List.mem_of_mem_drop hz)
    rw [qbE x h2]
    exact (qbA.root k (by simp only [List.length_drop]; omega) w2 (qbA.root k (by simp only [List.length_take]; omega) w1 h)).of (qk0 (qbi w1) (qbi w2))
theorem qbA.fold : ∀ {A : List Int} {P : List Sm} {s : Sm × Sm} {x : qag}, s.1.length = 32 → s.2.length = 32 → (∀ z ∈ P, z.length = 32) → qbA x → qbA (qhr A P s x)
 | [], P, s, x, _, _, _, h => by simpa [qhr] using h
 | _ :: _, [], s, x, _, _, _, h => by simpa [qhr] using h
 | a :: A, p :: P, s, x, h1, h2, hP, h => by
   have hp := hP p (by simp)
   have hP' : ∀ z ∈ P, z.length = 32 := fun z hz => hP z (by simp [hz])
   simp only [qhr]
   split
   ·exact qbA.fold h1 (qaE _ _) hP' (h.of (qk0 h2 hp))
   ·exact qbA.fold (qaE _ _) (qaE _ _) hP' ((h.of (qk0 hp h1)).of (qk0 hp h2))
theorem qar.fold : ∀ {A : List Int} {P : List Sm} {s : Sm × Sm} {x : qag} {n : Nat}, qar x (n + 2 * P.length) → qar (qhr A P s x) n
 | [], P, s, x, n, h => by simp only [qhr]; exact h.le (by omega)
 | _ :: _, [], s, x, n, h => by simp only [qhr]; exact h.le (by omega)
 | a :: A, p :: P, s, x, n, h => by
   simp only [qhr]
   refine qar.fold ?_
   have h' : qar x (n + 2 * P.length + 1 + 1) := h.le (by simp only [List.length_cons]; omega)
   split
   ·exact (h'.le (by omega) : qar x (n + 2 * P.length + 1)).of _ _
   ·exact (h'.of _ _).of _ _
end Go.Inc

set_option linter.unusedVariables false
namespace Go.Inc
open Go
def qbj (n a : Nat) : List Int :=
 if h : 1 < n then (if half n ≤ a then 1 :: qbj (n - half n) (a - half n) else 0 :: qbj (half n) a) else []
termination_by n
decreasing_by
 ·have := qbb (n := n) (by omega); omega
 ·exact qbC (by omega)
theorem qdp {n a : Nat} (h : ¬ 1 < n) : qbj n a = [] := by rw [qbj, dif_neg h]
theorem qdQ {n a : Nat} (h : 1 < n) (ha : a < half n) : qbj n a = 0 :: qbj (half n) a := by rw [qbj, dif_pos h, if_neg (by omega)]
theorem qc6 {n a : Nat} (h : 1 < n) (ha : half n ≤ a) : qbj n a = 1 :: qbj (n - half n) (a - half n) := by rw [qbj, dif_pos h, if_pos ha]
def topL (l : List Sm) (a : Nat) : List Sm :=
 if h : 1 < l.length then (if half l.length ≤ a then qbh (l.take (half l.length)) :: topL (l.drop (half l.length)) (a - half l.length) else qbh (l.drop (half l.length)) :: topL (l.take (half l.length)) a) else []
termination_by l.length
decreasing_by
 ·have := qbb (n := l.length) (by omega); simp only [List.length_drop]; omega
 ·have := qbC (n := l.length) (by omega); simp only [List.length_take]; omega
theorem qfg {l : List Sm} {a : Nat} (h : ¬ 1 < l.length) : topL l a = [] := by rw [topL, dif_neg h]
theorem qf6 {l : List Sm} {a : Nat} (h : 1 < l.length) (ha : a < half l.length) : topL l a = qbh (l.drop (half l.length)) :: topL (l.take (half l.length)) a := by rw [topL, dif_pos h, if_neg (by omega)]
theorem qeM {l : List Sm} {a : Nat} (h : 1 < l.length) (ha : half l.length ≤ a) : topL l a = qbh (l.take (half l.length)) :: topL (l.drop (half l.length)) (a - half l.length) := by rw [topL, dif_pos h, if_pos ha]
theorem qeg : ∀ (k : Nat) {l : List Sm} {a : Nat}, l.length ≤ k → (topL l a).length = (qbj l.length a).length
 | 0, l, a, hk => by rw [qfg (by omega), qdp (by omega)]; rfl
 | k + 1, l, a, hk => by
   by_cases hl : 1 < l.length
   ·have a1 := qbb hl
    have a2 := qbC hl
    have e1 : (l.take (half l.length)).length = half l.length := by rw [List.length_take]; omega
    have e2 : (l.drop (half l.length)).length = l.length - half l.length := List.length_drop
    rcases Nat.lt_or_ge a (half l.length) with ha | ha
    ·rw [qf6 hl ha, qdQ hl ha, List.length_cons, List.length_cons, qeg k (by omega), e1]
    ·rw [qeM hl ha, qc6 hl ha, List.length_cons, List.length_cons, qeg k (by omega), e2]
   ·rw [qfg hl, qdp hl]; rfl
def qkY (l : List Sm) (a : Int) : List Sm := if 0 ≤ a ∧ a < (l.length : Int) then (topL l a.toNat).reverse else []
def qdt : List Int → List Sm → Sm → Sm
 | a :: A, p :: P, s => qdt A P (if a = 0 then qae 2 [s, p] else qae 2 [p, s])
 | _, _, s => s
def foldK : List Int → List Sm → Sm → qag → qag
 | a :: A, p :: P, s, x => foldK A P (if a = 0 then qae 2 [s, p] else qae 2 [p, s]) (if a = 0 then qaj x 2 [s, p] else qaj x 2 [p, s])
 | _, _, _, x => x
def qfP (n a : Int) (P : List Sm) : Bool := decide ((0 ≤ a ∧ a < n) ∧ P.length = (qbj n.toNat a.toNat).length)
def sm0L : Sm := List.replicate 32 0
def qcZ (n a : Int) (s : Sm) (P : List Sm) : Sm := if qfP n a P then qdt (qbj n.toNat a.toNat).reverse P s else sm0L
def leadK (x : qag) (n a : Int) (s : Sm) (P : List Sm) : qag := if qfP n a P then foldK (qbj n.toNat a.toNat).reverse P s x else x
theorem qbI : ∀ (A : List Int) (P : List Sm) (a : Int) (p s : Sm), A.length = P.length → qdt (A ++ [a]) (P ++ [p]) s = if a = 0 then qae 2 [qdt A P s, p] else qae 2 [p, qdt A P s]
 | [], [], a, p, s, _ => rfl
 | [], _ :: _, a, p, s, h => by simp at h
 | _ :: _, [], a, p, s, h => by simp at h
 | b :: A, q :: P, a, p, s, h => by
   simp only [List.cons_append, qdt]
   exact qbI A P a p _ (by simpa using h)
theorem qcV : ∀ (A : List Int) (P : List Sm) (a : Int) (p s : Sm) (x : qag), A.length = P.length → foldK (A ++ [a]) (P ++ [p]) s x = if a = 0 then qaj (foldK A P s x) 2 [qdt A P s, p] else qaj (foldK A P s x) 2 [p, qdt A P s]
 | [], [], a, p, s, x, _ => rfl
 | [], _ :: _, a, p, s, x, h => by simp at h
 | _ :: _, [], a, p, s, x, h => by simp at h
 | b :: A, q :: P, a, p, s, x, h => by
   simp only [List.cons_append, foldK, qdt]
   exact qcV A P a p _ _ (by simpa using h)
theorem qd5 : ∀ (A : List Int) (P : List Sm) (s : Sm), s.length = 32 → (qdt A P s).length = 32
 | [], _, s, h => by simpa [qdt] using h
 | a :: A, [], s, h => by simpa [qdt] using h
 | a :: A, p :: P, s, h => by
   rw [qdt]
   exact qd5 A P _ (by split <;> exact qaE _ _)
end Go.Inc

set_option linter.unusedVariables false
namespace Go.Inc
open Go
theorem qeF : ∀ (k : Nat) {l : List Sm} {a : Nat}, l.length ≤ k → a < l.length → qdt (qbj l.length a).reverse (topL l a).reverse (ix l (a : Int)) = qbh l
 | 0, l, a, hk, ha => by omega
 | k + 1, l, a, hk, ha => by
   rw [ixN ha]
   by_cases h : 1 < l.length
   ·have a1 := qbb (n := l.length) (by omega)
    have a2 := qbC (n := l.length) (by omega)
    have l1 : (l.take (half l.length)).length = half l.length := by rw [List.length_take]; omega
    have l2 : (l.drop (half l.length)).length = l.length - half l.length := List.length_drop
    rcases Nat.lt_or_ge a (half l.length) with hh | hh
    ·have ih := qeF k (l := l.take (half l.length)) (a := a) (by omega) (by omega)
     have hlen := qeg _ (l := l.take (half l.length)) (a := a) (Nat.le_refl _)
     have ev : ix (l.take (half l.length)) (a : Int) = l[a] := by rw [ixN (by omega), List.getElem_take]
     rw [ev, l1] at ih
     rw [l1] at hlen
     rw [qdQ h hh, qf6 h hh, List.reverse_cons, List.reverse_cons, qbI _ _ _ _ _ (by rw [List.length_reverse, List.length_reverse, hlen]), if_pos rfl, qc5 (l := l) h]
     rw [ih]
    ·have ih := qeF k (l := l.drop (half l.length)) (a := a - half l.length) (by omega) (by omega)
     have hlen := qeg _ (l := l.drop (half l.length)) (a := a - half l.length) (Nat.le_refl _)
     have ei : half l.length + (a - half l.length) = a := by omega
     have ev : ix (l.drop (half l.length)) ((a - half l.length : Nat) : Int) = l[a] := by
      rw [ixN (by omega), List.getElem_drop]
      simp only [ei]
     rw [ev, l2] at ih
     rw [l2] at hlen
     rw [qc6 h hh, qeM h hh, List.reverse_cons, List.reverse_cons, qbI _ _ _ _ _ (by rw [List.length_reverse, List.length_reverse, hlen]), if_neg (by decide), qc5 (l := l) h]
     rw [ih]
   ·have e : l.length = 1 := by omega
    obtain ⟨x, rfl⟩ := List.length_eq_one_iff.1 e
    obtain rfl : a = 0 := by simp at ha; exact ha
    rw [qdp h, qfg h, qf1]
    rfl
theorem qgF {l : List Sm} {a : Int} (h : 0 ≤ a ∧ a < (l.length : Int)) : qfP (l.length : Int) a (qkY l a) = true := by
 unfold qfP qkY
 rw [if_pos h, List.length_reverse, qeg _ (Nat.le_refl _), Int.toNat_natCast]
 exact decide_eq_true ⟨h, rfl⟩
theorem qkU {l : List Sm} {a : Int} (h : 0 ≤ a ∧ a < (l.length : Int)) : qcZ (l.length : Int) a (ix l a) (qkY l a) = qbh l := by
 unfold qcZ
 rw [qgF h, if_pos rfl, Int.toNat_natCast]
 have := qeF _ (l := l) (a := a.toNat) (Nat.le_refl _) (by omega)
 rw [Int.toNat_of_nonneg h.1] at this
 unfold qkY
 rw [if_pos h]
 exact this
theorem qcd : ∀ {A : List Int} {P : List Sm} {s : Sm} {x : qag}, x.isSome = true → (foldK A P s x).isSome = true
 | [], P, s, x, hx => by simpa [foldK] using hx
 | _ :: _, [], s, x, hx => by simpa [foldK] using hx
 | a :: A, p :: P, s, x, hx => by
   simp only [foldK]
   refine qcd ?_
   split <;> exact qaC hx
theorem qeE {N : List Nt} (hN : qcn N) : ∀ (k : Nat) {l : List Sm} {a : Nat} {s : Sm} {P : List Sm} {x y : qag}, l.length ≤ k → a < l.length → P.length = (qbj l.length a).length → (∀ z ∈ l, z.length = 32) → (∀ z ∈ P, z.length = 32) → s.length = 32 → x.isSome = true → y.isSome = true →
 bkIn N (qbw x l) → bkIn N (foldK (qbj l.length a).reverse P s y) → qdt (qbj l.length a).reverse P s = qbh l → s = ix l (a : Int) ∧ P = (topL l a).reverse
 | 0, l, a, s, P, x, y, hk, ha, hP, hl, hp, hs, hx, hy, hR, hF, he => by omega
 | k + 1, l, a, s, P, x, y, hk, ha, hP, hl, hp, hs, hx, hy, hR, hF, he => by
   rw [ixN ha]
   by_cases h : 1 < l.length
   ·have b2 : 2 ≤ l.length := h
    have a1 := qbb b2
    have a2 := qbC b2
    have l1 : (l.take (half l.length)).length = half l.length := by rw [List.length_take]; omega
    have l2 : (l.drop (half l.length)).length = l.length - half l.length := List.length_drop
    have w1 : ∀ z ∈ l.take (half l.length), z.length = 32 := fun z hz => hl z (List.mem_of_mem_take hz)
    have w2 : ∀ z ∈ l.drop (half l.length), z.length = 32 := fun z hz => hl z (List.mem_of_mem_drop hz)
    rw [qbE x b2] at hR
    have hsx := qbx (half l.length) (l := l.take (half l.length)) (x := x) (by omega) hx
    have hnode := hR.node (qbx (l.length) (l := l.drop (half l.length)) (by omega) hsx)
    have hRR := hR.of
    have hRL := bkIn.root (l.length) (l := l.drop (half l.length)) (by omega) hRR
    have step : ∀ (n' : Nat), P.length = n' + 1 → ∃ Q p, P = Q ++ [p] ∧ Q.length = n' ∧ p.length = 32 ∧ ∀ z ∈ Q, z.length = 32 := fun n' hlen => by
     have hne : P ≠ [] := fun h0 => by rw [h0] at hlen; simp at hlen
     refine ⟨P.dropLast, P.getLast hne, (List.dropLast_concat_getLast hne).symm, ?_, hp _ (List.getLast_mem hne), fun z hz => hp z (List.dropLast_subset _ hz)⟩
     rw [List.length_dropLast, hlen]
     rfl
    rcases Nat.lt_or_ge a (half l.length) with hm | hm
    ·rw [qdQ h hm] at hP hF he
     rw [List.length_cons] at hP
     obtain ⟨Q, p, rfl, hQ, hp32, hQ32⟩ := step _ hP
     rw [List.reverse_cons, qcV _ _ _ _ _ _ (by rw [List.length_reverse, hQ]), if_pos rfl] at hF
     rw [List.reverse_cons, qbI _ _ _ _ _ (by rw [List.length_reverse, hQ]), if_pos rfl, qc5 b2] at he
     have hb := hN.node (hF.node (qcd hy)) hnode he (qd5 _ _ _ hs) hp32 (qbi w1) (qbi w2)
     have ih := qeE hN k (l := l.take (half l.length)) (a := a) (s := s) (P := Q) (x := x) (y := y) (by omega) (by omega) (by rw [l1]; exact hQ) w1 hQ32 hs hx hy hRL (by rw [l1]; exact hF.of) (by rw [l1]; exact hb.1)
     rw [ixN (by omega), List.getElem_take] at ih
     rw [qf6 h hm, List.reverse_cons, ← ih.2, hb.2]
     exact ⟨ih.1, rfl⟩
    ·rw [qc6 h hm] at hP hF he
     rw [List.length_cons] at hP
     obtain ⟨Q, p, rfl, hQ, hp32, hQ32⟩ := step _ hP
     have h10 : ¬ ((1 : Int) = 0) := by decide
     rw [List.reverse_cons, qcV _ _ _ _ _ _ (by rw [List.length_reverse, hQ]), if_neg h10] at hF
     rw [List.reverse_cons, qbI _ _ _ _ _ (by rw [List.length_reverse, hQ]), if_neg h10, qc5 b2] at he
     have hb := hN.node (hF.node (qcd hy)) hnode he hp32 (qd5 _ _ _ hs) (qbi w1) (qbi w2)
     have ih := qeE hN k (l := l.drop (half l.length)) (a := a - half l.length) (s := s) (P := Q) (x := qbw x (l.take (half l.length))) (y := y) (by omega) (by omega) (by rw [l2]; exact hQ) w2 hQ32 hs hsx hy hRR (by rw [l2]; exact hF.of) (by rw [l2]; exact hb.2)
     rw [ixN (by omega), List.getElem_drop] at ih
     rw [qeM h hm, List.reverse_cons, ← ih.2, hb.1]
     refine ⟨ih.1.trans ?_, rfl⟩
     congr 1
     omega
   ·have e : l.length = 1 := by omega
    obtain ⟨v, rfl⟩ := List.length_eq_one_iff.1 e
    obtain rfl : a = 0 := by simp at ha; exact ha
    rw [qdp h] at hP he
    have hP0 : P = [] := List.length_eq_zero_iff.1 hP
    subst hP0
    rw [qfg h]
    rw [qf1] at he
    exact ⟨he, rfl⟩
theorem qar.foldK : ∀ {A : List Int} {P : List Sm} {s : Sm} {x : qag} {n : Nat}, qar x (n + P.length) → qar (foldK A P s x) n
 | [], P, s, x, n, h => by simp only [Go.Inc.foldK]; exact h.le (by omega)
 | _ :: _, [], s, x, n, h => by simpa [Go.Inc.foldK] using h
 | a :: A, p :: P, s, x, n, h => by
   simp only [Go.Inc.foldK]
   refine qar.foldK ?_
   rw [List.length_cons] at h
   split <;> exact qar.of (h.le (by omega)) _ _
theorem qbA.foldK : ∀ {A : List Int} {P : List Sm} {s : Sm} {x : qag}, s.length = 32 → (∀ z ∈ P, z.length = 32) → qbA x → qbA (foldK A P s x)
 | [], P, s, x, hs, hp, h => by simpa [Go.Inc.foldK] using h
 | _ :: _, [], s, x, hs, hp, h => by simpa [Go.Inc.foldK] using h
 | a :: A, p :: P, s, x, hs, hp, h => by
   have hp1 := hp p List.mem_cons_self
   have hp2 : ∀ z ∈ P, z.length = 32 := fun z hz => hp z (List.mem_cons_of_mem _ hz)
   simp only [Go.Inc.foldK]
   split
   ·exact qbA.foldK (qaE _ _) hp2 (h.of (qk0 hs hp1))
   ·exact qbA.foldK (qaE _ _) hp2 (h.of (qk0 hp1 hs))
def qbr (x : qag) (n : Nat) : Prop := ∃ y, x = some y ∧ y.2 = (n : Int)
theorem qbr.of {x : qag} {n : Nat} (h : qbr x n) (hn : n ≤ 1048576) (k : Int) (l : List (List UInt8)) : qbr (qaj x k l) (n + 1) := by
 obtain ⟨y, rfl, hy⟩ := h
 refine ⟨_, rfl, ?_⟩
 show IntKind.i64.wrap (y.2 + 1) = _
 rw [hy, qaD (wf64 (by omega) (by omega))]
 omega
theorem qbr.calls {x : qag} {n : Nat} (h : qbr x n) : ql0 x = (n : Int) := by
 obtain ⟨y, rfl, hy⟩ := h
 exact hy
theorem qbr.foldK : ∀ {A : List Int} {P : List Sm} {s : Sm} {x : qag} {n : Nat}, qbr x n → A.length = P.length → n + P.length ≤ 1048576 → qbr (foldK A P s x) (n + P.length)
 | [], [], s, x, n, h, _, _ => by simpa [Go.Inc.foldK] using h
 | [], _ :: _, s, x, n, h, e, _ => by cases e
 | _ :: _, [], s, x, n, h, e, _ => by cases e
 | a :: A, p :: P, s, x, n, h, e, hb => by
   simp only [List.length_cons] at e hb
   simp only [Go.Inc.foldK, List.length_cons]
   rw [show n + (P.length + 1) = n + 1 + P.length from by omega]
   refine qbr.foldK ?_ (by omega) (by omega)
   split <;> exact h.of (by omega) _ _
theorem qbr.root : ∀ (k : Nat) {l : List Sm} {x : qag} {n : Nat}, l.length ≤ k → 1 ≤ l.length → qbr x n → n + l.length ≤ 1048576 → qbr (qbw x l) (n + (l.length - 1))
 | 0, l, x, n, hk, h1, h, hb => by omega
 | k + 1, l, x, n, hk, h1, h, hb => by
   rcases Nat.lt_or_ge l.length 2 with h2 | h2
   ·match l, h1, h2 with
    | [a], _, _ => rw [qbV]; exact h
   ·have a1 := qbb h2
    have a2 := qbC h2
    have l1 : (l.take (half l.length)).length = half l.length := by rw [List.length_take]; omega
    have l2 : (l.drop (half l.length)).length = l.length - half l.length := List.length_drop
    rw [qbE x h2]
    have i1 := qbr.root k (l := l.take (half l.length)) (by omega) (by omega) h (by omega)
    have i2 := qbr.root k (l := l.drop (half l.length)) (by omega) (by omega) i1 (by omega)
    have i3 := i2.of (by omega) 2 [qbh (l.take (half l.length)), qbh (l.drop (half l.length))]
    rw [l1, l2, show n + (half l.length - 1) + (l.length - half l.length - 1) + 1 = n + (l.length - 1) from by omega] at i3
    exact i3
end Go.Inc

set_option linter.unusedVariables false
namespace Go.Inc
open Go
abbrev By := List UInt8
abbrev Pk := By × By
abbrev Sp := Int × (Pk × List Sm)
abbrev Sn := Int × List Sp
theorem qaN : ∀ a : By, sless a a = false
 | [] => rfl
 | x :: a => by
   have := qaN a
   unfold sless at this ⊢
   simp [Op.bytesLess, this]
theorem qgO {x y : UInt8} {a b : By} : sless (x :: a) (y :: b) = (decide (x < y) || (decide (x = y) && sless a b)) := by
 unfold sless
 simp only [Op.bytesLess]
 by_cases h1 : x < y
 ·simp [h1]
 ·by_cases h2 : x = y
  ·simp [h2]
  ·simp [h1, h2]
theorem qbn : ∀ {a b c : By}, sless a b = true → sless b c = true → sless a c = true
 | [], b, c, h1, h2 => by
   cases c with
   | nil => cases b <;> cases h2
   | cons z c => rfl
 | x :: a, [], c, h1, h2 => by cases h1
 | x :: a, y :: b, [], h1, h2 => by cases h2
 | x :: a, y :: b, z :: c, h1, h2 => by
   rw [qgO] at h1 h2 ⊢
   simp only [Bool.or_eq_true, Bool.and_eq_true, decide_eq_true_eq] at h1 h2 ⊢
   rcases h1 with h1 | ⟨rfl, h1⟩ <;> rcases h2 with h2 | ⟨rfl, h2⟩
   ·exact .inl (UInt8.lt_trans h1 h2)
   ·exact .inl h1
   ·exact .inl h2
   ·exact .inr ⟨rfl, qbn h1 h2⟩
theorem qec : ∀ {a b : By}, sless a b = false → a ≠ b → sless b a = true
 | [], [], _, h => absurd rfl h
 | [], y :: b, h, _ => by cases h
 | x :: a, [], _, _ => rfl
 | x :: a, y :: b, h, hne => by
   rw [qgO] at h ⊢
   simp only [Bool.or_eq_false_iff, Bool.and_eq_false_iff, decide_eq_false_iff_not] at h
   simp only [Bool.or_eq_true, Bool.and_eq_true, decide_eq_true_eq]
   by_cases hxy : x = y
   ·subst hxy
    refine .inr ⟨rfl, qec ?_ (fun e => hne (by rw [e]))⟩
    rcases h.2 with h2 | h2
    ·exact absurd rfl h2
    ·exact h2
   ·refine .inl ?_
    have h1 := h.1
    rw [UInt8.lt_iff_toNat_lt] at h1 ⊢
    have : x.toNat ≠ y.toNat := fun e => hxy (UInt8.toNat_inj.1 e)
    omega
theorem qk3 {a b : By} (h : sless a b = true) : sless b a = false := by
 cases hb : sless b a with
 | false => rfl
 | true => have := qbn h hb; rw [qaN] at this; cases this
def cmpB (a b : By) : Int := if sless a b = true then -1 else if a = b then 0 else 1
theorem qeu {a b : By} : cmpB a b < 0 ↔ sless a b = true := by
 unfold cmpB
 split
 ·rename_i h; simp [h]
 ·rename_i h
  split <;> simp [h]
theorem qma {a b : By} : cmpB a b = 0 ↔ a = b := by
 unfold cmpB
 split
 ·rename_i h
  exact ⟨fun h2 => absurd h2 (by decide), fun h2 => by subst h2; rw [qaN] at h; cases h⟩
 ·split
  ·rename_i h; exact ⟨fun _ => h, fun _ => rfl⟩
  ·rename_i h; exact ⟨fun h2 => absurd h2 (by decide), fun h2 => absurd h2 h⟩
theorem qmb {a b : By} : 0 < cmpB a b ↔ sless b a = true := by
 unfold cmpB
 split
 ·rename_i h
  rw [qk3 h]
  simp
 ·rename_i h
  split
  ·rename_i h2; subst h2; rw [qaN]; simp
  ·rename_i h2; simp [qec (by simpa using h) h2]
def mayK : List Pk → Bool
 | a :: b :: l => sless a.1 b.1 && mayK (b :: l)
 | _ => true
theorem qii {a : Pk} {l : List Pk} (h : mayK (a :: l) = true) : mayK l = true := by
 cases l with
 | nil => rfl
 | cons b l => simp only [mayK, Bool.and_eq_true] at h; exact h.2
theorem qih : ∀ {l : List Pk} {a x : Pk}, mayK (a :: l) = true → x ∈ l → sless a.1 x.1 = true
 | [], a, x, h, hx => by cases hx
 | b :: l, a, x, h, hx => by
   have h1 : sless a.1 b.1 = true := by simp only [mayK, Bool.and_eq_true] at h; exact h.1
   rcases List.mem_cons.1 hx with rfl | hx
   ·exact h1
   ·exact qbn h1 (qih (qii h) hx)
theorem qc0 : ∀ {l : List Pk} {i j : Nat} (hi : i < l.length) (hj : j < l.length), mayK l = true → i < j → sless l[i].1 l[j].1 = true
 | [], i, j, hi, _, _, _ => by simp at hi
 | a :: l, 0, j + 1, hi, hj, h, _ => qih h (List.getElem_mem (l := l) (n := j) (by simpa using hj))
 | a :: l, i + 1, j + 1, hi, hj, h, hij => qc0 (l := l) (i := i) (j := j) (by simpa using hi) (by simpa using hj) (qii h) (by omega)
def qcb (p : Pk) : Sm := qae 4 [p.1, p.2]
def qaU (l : List Pk) : List Sm := l.map qcb
def qiz (n : Int) (t : Sm) : Sm := qae 5 [numB n.toNat, t]
def qeI (l : List Pk) : Sm := qiz l.length (qbh (qaU l))
theorem qbm (l : List Pk) : (qaU l).length = l.length := List.length_map ..
theorem qgG (l : List Pk) : ∀ x ∈ qaU l, x.length = 32 := fun x hx => by
 obtain ⟨p, _, rfl⟩ := List.mem_map.1 hx
 exact qaE _ _
def lowK (l : List Pk) (key : By) : Nat := (l.takeWhile fun p => sless p.1 key).length
theorem qjk : ∀ {l : List Pk} {key : By} {i : Nat}, i ≤ l.length → (∀ (t : Nat) (h : t < l.length), t < i → sless l[t].1 key = true) → (∀ h : i < l.length, sless l[i].1 key = false) → lowK l key = i
 | [], key, i, hi, _, _ => by
   have : i = 0 := by simpa using hi
   subst this; rfl
 | a :: l, key, 0, hi, h1, h2 => by
   have := h2 (by simp)
   simp only [List.getElem_cons_zero] at this
   simp [lowK, List.takeWhile, this]
 | a :: l, key, i + 1, hi, h1, h2 => by
   have h0 := h1 0 (by simp) (by omega)
   simp only [List.getElem_cons_zero] at h0
   have := qjk (l := l) (key := key) (i := i) (by simpa using hi) (fun t ht hti => h1 (t + 1) (by simpa using ht) (by omega)) (fun h => h2 (by simpa using h))
   simp only [lowK, List.takeWhile, h0, List.length_cons]
   exact congrArg (· + 1) this
theorem qmT : ∀ (l : List Pk) (key : By), lowK l key ≤ l.length
 | [], key => Nat.le_refl _
 | a :: l, key => by
   have := qmT l key
   unfold lowK at this ⊢
   simp only [List.takeWhile]
   split
   ·simp only [List.length_cons]; omega
   ·exact Nat.zero_le _
theorem qjj : ∀ {l : List Pk} {key : By} {t : Nat} (h : t < l.length), t < lowK l key → sless l[t].1 key = true
 | [], key, t, h, _ => by simp at h
 | a :: l, key, t, h, ht => by
   cases hs : sless a.1 key with
   | false => simp [lowK, List.takeWhile, hs] at ht
   | true =>
     cases t with
     | zero => exact hs
     | succ t =>
       simp only [lowK, List.takeWhile, hs, List.length_cons] at ht
       exact qjj (l := l) (by simpa using h) (by unfold lowK; omega)
theorem qji : ∀ {l : List Pk} {key : By} (h : lowK l key < l.length), sless l[lowK l key].1 key = false
 | [], key, h => by simp at h
 | a :: l, key, h => by
   cases hs : sless a.1 key with
   | false =>
     have e : lowK (a :: l) key = 0 := by simp [lowK, List.takeWhile, hs]
     simp only [e, List.getElem_cons_zero]
     exact hs
   | true =>
     have e : lowK (a :: l) key = lowK l key + 1 := by simp [lowK, List.takeWhile, hs]
     simp only [e, List.getElem_cons_succ]
     exact qji (l := l) (by rw [e] at h; simpa using h)
def isK (l : List Pk) (key : By) : Bool := decide (lowK l key < l.length) && decide ((ix l (lowK l key : Int)).1 = key)
def qf3 (l : List Pk) (i : Nat) : Sp := ((i : Int), ix l (i : Int), qkY (qaU l) (i : Int))
def qe3 (l : List Pk) (key : By) : Nat := if isK l key then lowK l key else lowK l key - 1
def toK (l : List Pk) (key : By) : Nat := min (lowK l key + 1) l.length
def qjt (l : List Pk) (key : By) : Sn := if mayK l then ((l.length : Int), (List.range' (qe3 l key) (toK l key - qe3 l key)).map (qf3 l)) else (0, [])
def qng (key : By) (s : Sn) : Bool × Bool := match s.2 with
 | [] => (false, decide (s.1 = 0))
 | [a] => (decide (cmpB key a.2.1.1 = 0), decide (cmpB key a.2.1.1 = 0 ∨ cmpB key a.2.1.1 < 0 ∧ a.1 = 0 ∨ 0 < cmpB key a.2.1.1 ∧ a.1 = s.1 - 1))
 | [a, b] => (false, decide (0 ≤ a.1 ∧ a.1 < b.1 ∧ b.1 - a.1 = 1 ∧ cmpB a.2.1.1 key < 0 ∧ cmpB key b.2.1.1 < 0))
 | _ => (false, false)
def goK (n : Int) : Bool → List Sp → Sm → Option Sm
 | _, [], t => some t
 | f, x :: l, t => if qfP n x.1 x.2.2 = true ∧ (f = true ∨ qcZ n x.1 (qcb x.2.1) x.2.2 = t) then goK n false l (qcZ n x.1 (qcb x.2.1) x.2.2) else none
def goBk (n : Int) : Bool → List Sp → Sm → qag → qag
 | _, [], t, b => b
 | f, x :: l, t, b => if qfP n x.1 x.2.2 = true ∧ (f = true ∨ qcZ n x.1 (qcb x.2.1) x.2.2 = t) then goBk n false l (qcZ n x.1 (qcb x.2.1) x.2.2) (leadK (qaj b 4 [x.2.1.1, x.2.1.2]) n x.1 (qcb x.2.1) x.2.2)
   else leadK (qaj b 4 [x.2.1.1, x.2.1.2]) n x.1 (qcb x.2.1) x.2.2
def begK (n : Int) : Sm := if n = 0 then qbh [] else sm0L
def qob (n : Int) (b : qag) : qag := if n = 0 then qaj b 2 [] else b
def qgf (root : Sm) (key : By) (s : Sn) : Option Bool := if (qng key s).2 = true ∧ 0 ≤ s.1 then (match goK s.1 true s.2 (begK s.1) with
 | some t => if qiz s.1 t = root then some (qng key s).1 else none
 | none => none) else none
def qoW (root : Sm) (key : By) (s : Sn) : By := if qgf root key s = some true then (ix s.2 0).2.1.2 else []
def qoV (root : Sm) (key : By) (s : Sn) : Bool := decide (qgf root key s = some true)
def qoU (root : Sm) (key : By) (s : Sn) : Int := if qgf root key s = none then 10 else 0
def qmR (b : qag) (key : By) (s : Sn) : qag := if (qng key s).2 = true ∧ 0 ≤ s.1 then (match goK s.1 true s.2 (begK s.1) with
 | some t => qaj (goBk s.1 true s.2 (begK s.1) (qob s.1 b)) 5 [numB s.1.toNat, t]
 | none => goBk s.1 true s.2 (begK s.1) (qob s.1 b)) else b
end Go.Inc

set_option linter.unusedVariables false
namespace Go.Inc
open Go Go.RowKit
section
variable {P : Program} {w : World} {K : Ghost} {ρ : Env} {dst : Option Tmp} {x y : Operand} {ty : TypeId}
end
end Go.Inc

set_option linter.unusedVariables false
namespace Go.Inc
open Go Go.RowKit
section
variable {P : Program} {f : FuncId} {pm : List PM} {rm : List RM} {e : Nat}
end
end Go.Inc

set_option linter.unusedVariables false
namespace Go.Inc
open Go
end Go.Inc

set_option linter.unusedVariables false
set_option maxRecDepth 100000
set_option maxHeartbeats 20000000
namespace Go.Proofs.Ytmjjkpiglbpkhaa
open Go Go.RowKit Go.Inc
noncomputable def qck : Ctr := ⟨[.v (.sl .byte)], [.ow 5 .byte], some (fun a => (fun (a0_s : List UInt8) => (a0_s.length ≤ 140737488355328 : Prop)) a.1), fun a => (fun (a0_s : List UInt8) => ((a0_s, ()), (()))) a.1⟩
noncomputable def qlj : Fx := ⟨seat, some bkT, fns, [], [], [], []⟩
def qgZ (a0_s : List UInt8) (Q : (List UInt8) → Prop) : Prop :=
 ∀ (x0 : Bool), (x0 = true → a0_s = ([] : List UInt8)) → (x0 = true → Q ([] : List UInt8)) ∧ (x0 = false → (([] : List UInt8).length + a0_s.length) * (1 : Nat) ≤ (140737488355328 : Nat) ∧ Q (([] : List UInt8) ++ a0_s))
theorem qnL {a0_s : List UInt8} (w_0 : (Ty.kd (.sl .byte)).wf a0_s) (hp : a0_s.length ≤ 140737488355328) : qgZ a0_s (fun o0 => o0 = a0_s) := by
 unfold qgZ
 intro r hr
 refine ⟨fun h => ?_, fun _ => ⟨?_, rfl⟩⟩
 ·rw [hr h]
 ·simpa using hp
theorem qnK : (∀ a, qck.pre a → PM.wfP qck.pm a (fvc qlj 200 69 qck a (eqO qck a))) = (∀ a : (List UInt8) × Unit, ((a.1).length ≤ 140737488355328) → (Ty.kd (.sl .byte)).wf a.1 → qgZ a.1 (fun o0 => o0 = (a.1))) := by kernel_rfl
theorem qek : qck.valid Try.prog 69 := qaz (X := qlj) (qaV qat (fun b hb => by cases hb; exact qay) qaA trivial) 200 (qnK.mpr fun a hp w_0 => @qnL a.1 w_0 hp)
noncomputable def qfl : Ctr := ⟨[.v (.sl .byte), .v (.sl .byte)], [.v .bool], none, fun a => (fun (a0_a : List UInt8) (a1_b : List UInt8) => ((decide (a0_a = a1_b), ()), (()))) a.1 a.2.1⟩
noncomputable def qlm : Fx := ⟨seat, some bkT, fns, [], [], [], []⟩
def qjH (a0_a : List UInt8) (a1_b : List UInt8) (Q : Bool → Prop) : Prop :=
 Q (decide (a0_a = a1_b))
theorem qnP {a0_a : List UInt8} {a1_b : List UInt8} (w_0 : (Ty.kd (.sl .byte)).wf a0_a) (w_1 : (Ty.kd (.sl .byte)).wf a1_b) : qjH a0_a a1_b (fun o0 => o0 = decide (a0_a = a1_b)) := by
 exact rfl
theorem qnO : (∀ a, qfl.pre a → PM.wfP qfl.pm a (fvc qlm 200 85 qfl a (eqO qfl a))) = (∀ a : (List UInt8) × (List UInt8) × Unit, True → (Ty.kd (.sl .byte)).wf a.1 → (Ty.kd (.sl .byte)).wf a.2.1 → qjH a.1 a.2.1 (fun o0 => o0 = decide ((a.1) = (a.2.1)))) := by kernel_rfl
theorem qp1 : qfl.valid Try.prog 85 := qaz (X := qlm) (qaV qat (fun b hb => by cases hb; exact qay) qaA trivial) 200 (qnO.mpr fun a hp w_0 w_1 => @qnP a.1 a.2.1 w_0 w_1)
noncomputable def qen : Ctr := ⟨[.v (.int .u64)], [.v (.int .i64)], none, fun a => (fun (a0_x : Int) => (((blen a0_x.toNat : Int), ()), (()))) a.1⟩
noncomputable def qlt : Fx := ⟨seat, some bkT, fns, [], [], [], []⟩
def qg1 (a0_x : Int) (Q : Int → Prop) : Prop :=
 ((4294967296 : Int) ≤ a0_x → ((65536 : Int) ≤ shr IntKind.u64 a0_x (32 : Int) → ((256 : Int) ≤ shr IntKind.u64 (shr IntKind.u64 a0_x (32 : Int)) (16 : Int) → ((0 : Int) ≤ IntKind.u8.wrap (shr IntKind.u64 (shr IntKind.u64 (shr IntKind.u64 a0_x (32 : Int)) (16 : Int)) (8 : Int)) ∧ IntKind.u8.wrap (shr IntKind.u64 (shr IntKind.u64 (shr IntKind.u64 a0_x (32 : Int)) (16 : Int)) (8 : Int)) < (qap.length : Int)) ∧ Q (IntKind.i64.wrap (IntKind.i64.wrap (IntKind.i64.wrap ((32 : Int) + (16 : Int)) + (8 : Int)) + bI (ix qap (IntKind.u8.wrap (shr IntKind.u64 (shr IntKind.u64 (shr IntKind.u64 a0_x (32 : Int)) (16 : Int)) (8 : Int))))))) ∧ (¬(256 : Int) ≤ shr IntKind.u64 (shr IntKind.u64 a0_x (32 : Int)) (16 : Int) → ((0 : Int) ≤ IntKind.u8.wrap (shr IntKind.u64 (shr IntKind.u64 a0_x (32 : Int)) (16 : Int)) ∧ IntKind.u8.wrap (shr IntKind.u64 (shr IntKind.u64 a0_x (32 : Int)) (16 : Int)) < (qap.length : Int)) ∧ Q (IntKind.i64.wrap (IntKind.i64.wrap ((32 : Int) + (16 : Int)) + bI (ix qap (IntKind.u8.wrap (shr IntKind.u64 (shr IntKind.u64 a0_x (32 : Int)) (16 : Int)))))))) ∧ (¬(65536 : Int) ≤ shr IntKind.u64 a0_x (32 : Int) → ((256 : Int) ≤ shr IntKind.u64 a0_x (32 : Int) → ((0 : Int) ≤ IntKind.u8.wrap (shr IntKind.u64 (shr IntKind.u64 a0_x (32 : Int)) (8 : Int)) ∧ IntKind.u8.wrap (shr IntKind.u64 (shr IntKind.u64 a0_x (32 : Int)) (8 : Int)) < (qap.length : Int)) ∧ Q (IntKind.i64.wrap (IntKind.i64.wrap ((32 : Int) + (8 : Int)) + bI (ix qap (IntKind.u8.wrap (shr IntKind.u64 (shr IntKind.u64 a0_x (32 : Int)) (8 : Int))))))) ∧ (¬(256 : Int) ≤ shr IntKind.u64 a0_x (32 : Int) → ((0 : Int) ≤ IntKind.u8.wrap (shr IntKind.u64 a0_x (32 : Int)) ∧ IntKind.u8.wrap (shr IntKind.u64 a0_x (32 : Int)) < (qap.length : Int)) ∧ Q (IntKind.i64.wrap ((32 : Int) + bI (ix qap (IntKind.u8.wrap (shr IntKind.u64 a0_x (32 : Int))))))))) ∧ (¬(4294967296 : Int) ≤ a0_x → ((65536 : Int) ≤ a0_x → ((256 : Int) ≤ shr IntKind.u64 a0_x (16 : Int) → ((0 : Int) ≤ IntKind.u8.wrap (shr IntKind.u64 (shr IntKind.u64 a0_x (16 : Int)) (8 : Int)) ∧ IntKind.u8.wrap (shr IntKind.u64 (shr IntKind.u64 a0_x (16 : Int)) (8 : Int)) < (qap.length : Int)) ∧ Q (IntKind.i64.wrap (IntKind.i64.wrap (IntKind.i64.wrap ((0 : Int) + (16 : Int)) + (8 : Int)) + bI (ix qap (IntKind.u8.wrap (shr IntKind.u64 (shr IntKind.u64 a0_x (16 : Int)) (8 : Int))))))) ∧ (¬(256 : Int) ≤ shr IntKind.u64 a0_x (16 : Int) → ((0 : Int) ≤ IntKind.u8.wrap (shr IntKind.u64 a0_x (16 : Int)) ∧ IntKind.u8.wrap (shr IntKind.u64 a0_x (16 : Int)) < (qap.length : Int)) ∧ Q (IntKind.i64.wrap (IntKind.i64.wrap ((0 : Int) + (16 : Int)) + bI (ix qap (IntKind.u8.wrap (shr IntKind.u64 a0_x (16 : Int)))))))) ∧ (¬(65536 : Int) ≤ a0_x → ((256 : Int) ≤ a0_x → ((0 : Int) ≤ IntKind.u8.wrap (shr IntKind.u64 a0_x (8 : Int)) ∧ IntKind.u8.wrap (shr IntKind.u64 a0_x (8 : Int)) < (qap.length : Int)) ∧ Q (IntKind.i64.wrap (IntKind.i64.wrap ((0 : Int) + (8 : Int)) + bI (ix qap (IntKind.u8.wrap (shr IntKind.u64 a0_x (8 : Int))))))) ∧ (¬(256 : Int) ≤ a0_x → ((0 : Int) ≤ IntKind.u8.wrap a0_x ∧ IntKind.u8.wrap a0_x < (qap.length : Int)) ∧ Q (IntKind.i64.wrap ((0 : Int) + bI (ix qap (IntKind.u8.wrap a0_x)))))))
theorem qnT {a0_x : Int} (w_0 : (Ty.kd (.int .u64)).wf a0_x) : qg1 a0_x (fun o0 => o0 = (blen a0_x.toNat : Int)) := by
 obtain ⟨n, rfl⟩ := Int.eq_ofNat_of_zero_le w_0.1
 have hn : n < 18446744073709551616 := by
  have h : ((n : Int)) ≤ (18446744073709551615 : Int) := w_0.2
  omega
 have ht : qap = qdF := by decide +kernel
 have s32 : ∀ m : Nat, shr .u64 (m : Int) 32 = ((m / 4294967296 : Nat) : Int) := fun m => qhF (k := 32) (by decide)
 have s16 : ∀ m : Nat, shr .u64 (m : Int) 16 = ((m / 65536 : Nat) : Int) := fun m => qhF (k := 16) (by decide)
 have s8 : ∀ m : Nat, shr .u64 (m : Int) 8 = ((m / 256 : Nat) : Int) := fun m => qhF (k := 8) (by decide)
 have b32 : ∀ m : Nat, 4294967296 ≤ m → blen m = 32 + blen (m / 4294967296) := fun m h => qct 32 h
 have b16 : ∀ m : Nat, 65536 ≤ m → blen m = 16 + blen (m / 65536) := fun m h => qct 16 h
 have b8 : ∀ m : Nat, 256 ≤ m → blen m = 8 + blen (m / 256) := fun m h => qct 8 h
 unfold qg1
 simp only [s32, s16, s8, Int.toNat_natCast]
 refine ⟨fun h1 => ⟨fun h2 => ⟨fun h3 => ?_, fun h3 => ?_⟩, fun h2 => ⟨fun h3 => ?_, fun h3 => ?_⟩⟩, fun h1 => ⟨fun h2 => ⟨fun h3 => ?_, fun h3 => ?_⟩, fun h2 => ⟨fun h3 => ?_, fun h3 => ?_⟩⟩⟩
 ·exact qch (k := 56) (by omega) (by omega) (by rw [b32 n (by omega), b16 _ (by omega), b8 _ (by omega)]; omega) (by decide) ht
 ·exact qch (k := 48) (by omega) (by omega) (by rw [b32 n (by omega), b16 _ (by omega)]; omega) (by decide) ht
 ·exact qch (k := 40) (by omega) (by omega) (by rw [b32 n (by omega), b8 _ (by omega)]; omega) (by decide) ht
 ·exact qch (k := 32) (by omega) (by omega) (by rw [b32 n (by omega)]) (by decide) ht
 ·exact qch (k := 24) (by omega) (by omega) (by rw [b16 n (by omega), b8 _ (by omega)]; omega) (by decide) ht
 ·exact qch (k := 16) (by omega) (by omega) (by rw [b16 n (by omega)]) (by decide) ht
 ·exact qch (k := 8) (by omega) (by omega) (by rw [b8 n (by omega)]) (by decide) ht
 ·exact qch (k := 0) (by omega) (by omega) (by omega) (by decide) ht
theorem qnS : (∀ a, qen.pre a → PM.wfP qen.pm a (fvc qlt 200 108 qen a (eqO qen a))) = (∀ a : Int × Unit, True → (Ty.kd (.int .u64)).wf a.1 → qg1 a.1 (fun o0 => o0 = (blen (a.1).toNat : Int))) := by kernel_rfl
theorem qqb : qen.valid Try.prog 108 := qaz (X := qlt) (qaV qat (fun b hb => by cases hb; exact qay) qaA trivial) 200 (qnS.mpr fun a hp w_0 => @qnT a.1 w_0)
noncomputable def qiK : Ctr := ⟨[.v (.sl .byte), .v (.sl (.int .u64))], [.ow 5 .byte], some (fun a => (fun (a0_b : List UInt8) (a1_l : List Int) => (a0_b.length + 9 * a1_l.length ≤ 140737488355328 : Prop)) a.1 a.2.1), fun a => (fun (a0_b : List UInt8) (a1_l : List Int) => (((a0_b ++ qax a1_l), ()), (()))) a.1 a.2.1⟩
noncomputable def qrL : Fx := ⟨seat, some bkT, fns, [(69, qck), (108, qen)], [], [], []⟩
def qlu (a0_b : List UInt8) (a1_l : List Int) (Q : (List UInt8) → Prop) : Prop :=
 a0_b.length ≤ (140737488355328 : Nat) ∧ (Ty.byte.kd.sl.wf a0_b → ∃ (x0 : List UInt8 → Int → Prop), ∃ (x1 : List UInt8 → Int → Nat), x0 a0_b (0 : Int) ∧ ∀ (x2 : List UInt8) (x3 : Int), x0 x2 x3 → Ty.byte.kd.sl.wf x2 → (Kd.int IntKind.i64).wf x3 → (x3 < (a1_l.length : Int) → ((0 : Int) ≤ x3 ∧ x3 < (a1_l.length : Int)) ∧ ((Ty.int IntKind.i64).kd.wf (blen (ix a1_l x3).toNat : Int) → (x2.length + (toB (IntKind.u8.wrap (IntKind.i64.wrap ((IntKind.i64.wrap ((blen (ix a1_l x3).toNat : Int) + (7 : Int))).tdiv (8 : Int)))) :: ([] : List UInt8)).length) * (1 : Nat) ≤ (140737488355328 : Nat) ∧ ∃ (x9 : List UInt8 → Int → Prop), ∃ (x10 : List UInt8 → Int → Nat), x9 (x2 ++ toB (IntKind.u8.wrap (IntKind.i64.wrap ((IntKind.i64.wrap ((blen (ix a1_l x3).toNat : Int) + (7 : Int))).tdiv (8 : Int)))) :: ([] : List UInt8)) (IntKind.i64.wrap ((8 : Int) * IntKind.i64.wrap ((IntKind.i64.wrap ((blen (ix a1_l x3).toNat : Int) + (7 : Int))).tdiv (8 : Int)))) ∧ ∀ (x11 : List UInt8) (x12 : Int), x9 x11 x12 → Ty.byte.kd.sl.wf x11 → (Kd.int IntKind.i64).wf x12 → ((0 : Int) < x12 → (0 : Int) ≤ IntKind.i64.wrap (x12 - (8 : Int)) ∧ (x11.length + (toB (IntKind.u8.wrap (shr IntKind.u64 (ix a1_l x3) (IntKind.i64.wrap (x12 - (8 : Int))))) :: ([] : List UInt8)).length) * (1 : Nat) ≤ (140737488355328 : Nat) ∧ x9 (x11 ++ toB (IntKind.u8.wrap (shr IntKind.u64 (ix a1_l x3) (IntKind.i64.wrap (x12 - (8 : Int))))) :: ([] : List UInt8)) (IntKind.i64.wrap (x12 - (8 : Int))) ∧ x10 (x11 ++ toB (IntKind.u8.wrap (shr IntKind.u64 (ix a1_l x3) (IntKind.i64.wrap (x12 - (8 : Int))))) :: ([] : List UInt8)) (IntKind.i64.wrap (x12 - (8 : Int))) < x10 x11 x12) ∧ (¬(0 : Int) < x12 → x3 < (9223372036854775807 : Int) ∧ x0 x11 (x3 + (1 : Int)) ∧ x1 x11 (x3 + (1 : Int)) < x1 x2 x3))) ∧ (¬x3 < (a1_l.length : Int) → Q x2))
theorem qrN {a0_b : List UInt8} {a1_l : List Int} (w_0 : (Ty.kd (.sl .byte)).wf a0_b) (w_1 : (Ty.kd (.sl (.int .u64))).wf a1_l) (hp : a0_b.length + 9 * a1_l.length ≤ 140737488355328) : qlu a0_b a1_l (fun o0 => o0 = (a0_b ++ qax a1_l)) := by
 have hw : ∀ x ∈ a1_l, ∃ n : Nat, x = (n : Int) ∧ n < 2 ^ 64 := fun x hx => by
  obtain ⟨n, rfl⟩ := Int.eq_ofNat_of_zero_le (w_1.2 x hx).1
  have h : ((n : Int)) ≤ (18446744073709551615 : Int) := (w_1.2 (n : Int) hx).2
  exact ⟨n, rfl, by omega⟩
 have hlen : ∀ j, j ≤ a1_l.length → (qax (a1_l.take j)).length ≤ 9 * j := by
  intro j
  induction j with
  | zero => intro _; simp [qax]
  | succ j ih =>
    intro hj
    have hlt : (j : Int) < (a1_l.length : Int) := by omega
    obtain ⟨n, hn, hb⟩ := hw _ (qic (by omega) hlt)
    have h1 := qaP hb
    have h2 := ih (by omega)
    rw [qbK hlt]
    unfold qax at *
    rw [List.flatMap_append, List.length_append]
    simp only [List.flatMap_cons, List.flatMap_nil, List.append_nil, hn, Int.toNat_natCast]
    omega
 unfold qlu
 refine ⟨by omega, fun _ => ⟨fun out i => ∃ j : Nat, i = (j : Int) ∧ j ≤ a1_l.length ∧ out = a0_b ++ qax (a1_l.take j), fun _ i => a1_l.length - i.toNat, ⟨0, rfl, by omega, by simp [qax]⟩, ?_⟩⟩
 rintro out i ⟨j, rfl, hj, rfl⟩ _ hwi
 refine ⟨fun hlt => ⟨⟨by omega, hlt⟩, fun _ => ⟨?_, ?_⟩⟩, fun hge => ?_⟩
 ·have := hlen j hj
  simp only [List.length_append, List.length_cons, List.length_nil]
  omega
 ·obtain ⟨n, hn, hb⟩ := hw _ (qic (by omega) hlt)
  have hbl := qcD 64 hb
  have hk := qtR hbl
  rw [hn]
  simp only [Int.toNat_natCast, hk]
  rw [qpT]
  generalize hkk : (blen n + 7) / 8 = k
  have hk8 : k ≤ 8 := by omega
  have hT : a0_b ++ qax (a1_l.take (j + 1)) = a0_b ++ qax (a1_l.take j) ++ [UInt8.ofNat k] ++ be n k := by
   rw [qbK hlt]
   simp [qax, numB, hn, hkk]
  have hTl := hlen (j + 1) (by omega)
  have hTl2 : (a0_b ++ qax (a1_l.take (j + 1))).length ≤ 140737488355328 := by
   rw [List.length_append]
   omega
  refine ⟨fun out at_ => ∃ m : Nat, m ≤ k ∧ at_ = ((8 * m : Nat) : Int) ∧ out ++ be n m = a0_b ++ qax (a1_l.take (j + 1)), fun _ at_ => at_.toNat, ⟨k, Nat.le_refl _, ?_, hT.symm⟩, ?_⟩
  ·rw [qaD (wf64 (by omega) (by omega))]
   omega
  ·rintro out at_ ⟨m, hm, rfl, hout⟩ _ _
   refine ⟨fun hpos => ?_, fun hz => ?_⟩
   ·obtain ⟨m, rfl⟩ : ∃ m', m = m' + 1 := ⟨m - 1, by omega⟩
    have e8 : IntKind.i64.wrap (((8 * (m + 1) : Nat) : Int) - 8) = ((8 * m : Nat) : Int) := by
     rw [qaD (wf64 (by omega) (by omega))]
     omega
    rw [e8, ql1 (by omega)]
    have hol := congrArg List.length hout
    simp only [List.length_append, qaF] at hol
    simp only [List.length_append] at hTl2
    refine ⟨by omega, ?_, ⟨m, by omega, rfl, ?_⟩, ?_⟩
    ·simp only [List.length_cons, List.length_nil]
     omega
    ·rw [← hout]
     simp [be]
    ·show ((8 * m : Nat) : Int).toNat < ((8 * (m + 1) : Nat) : Int).toNat
     omega
   ·have : m = 0 := by omega
    subst this
    have h2 := w_1.1
    unfold LM at h2
    refine ⟨by omega, ⟨j + 1, rfl, by omega, by simpa [be] using hout⟩, ?_⟩
    show a1_l.length - ((j + 1 : Nat) : Int).toNat < a1_l.length - (j : Int).toNat
    omega
 ·have : j = a1_l.length := by omega
  subst this
  rw [List.take_length]
theorem qrM : (∀ a, qiK.pre a → PM.wfP qiK.pm a (fvc qrL 200 62 qiK a (eqO qiK a))) = (∀ a : (List UInt8) × (List Int) × Unit, ((a.1).length + 9 * (a.2.1).length ≤ 140737488355328) → (Ty.kd (.sl .byte)).wf a.1 → (Ty.kd (.sl (.int .u64))).wf a.2.1 → qlu a.1 a.2.1 (fun o0 => o0 = ((a.1) ++ qax (a.2.1)))) := by kernel_rfl
theorem qqc : qiK.valid Try.prog 62 := qaz (X := qrL) (qaV qat (fun b hb => by cases hb; exact qay) qaA ⟨qek, qqb, trivial⟩) 200 (qrM.mpr fun a hp w_0 w_1 => @qrN a.1 a.2.1 w_0 w_1 hp)
noncomputable def qgk : Ctr := ⟨[.v (.sl .byte), .v (.sl (.sl .byte))], [.ow 5 .byte], some (fun a => (fun (a0_b : List UInt8) (a1_l : List (List UInt8)) => (a0_b.length + qai a1_l ≤ 140737488355328 : Prop)) a.1 a.2.1), fun a => (fun (a0_b : List UInt8) (a1_l : List (List UInt8)) => (((a0_b ++ qaB a1_l), ()), (()))) a.1 a.2.1⟩
noncomputable def qpr : Fx := ⟨seat, some bkT, fns, [(69, qck), (62, qiK)], [], [], []⟩
def qiB (a0_b : List UInt8) (a1_l : List (List UInt8)) (Q : (List UInt8) → Prop) : Prop :=
 a0_b.length ≤ (140737488355328 : Nat) ∧ (Ty.byte.kd.sl.wf a0_b → ∃ (x0 : List UInt8 → Int → Prop), ∃ (x1 : List UInt8 → Int → Nat), x0 a0_b (0 : Int) ∧ ∀ (x2 : List UInt8) (x3 : Int), x0 x2 x3 → Ty.byte.kd.sl.wf x2 → (Kd.int IntKind.i64).wf x3 → (x3 < (a1_l.length : Int) → ((0 : Int) ≤ x3 ∧ x3 < (a1_l.length : Int)) ∧ x2.length + (9 : Nat) * (IntKind.u64.wrap ((ix a1_l x3).length : Int) :: ([] : List Int)).length ≤ (140737488355328 : Nat) ∧ (Ty.byte.kd.sl.wf (x2 ++ qax (IntKind.u64.wrap ((ix a1_l x3).length : Int) :: ([] : List Int))) → ((x2 ++ qax (IntKind.u64.wrap ((ix a1_l x3).length : Int) :: ([] : List Int))).length + (ix a1_l x3).length) * (1 : Nat) ≤ (140737488355328 : Nat) ∧ x3 < (9223372036854775807 : Int) ∧ x0 (x2 ++ qax (IntKind.u64.wrap ((ix a1_l x3).length : Int) :: ([] : List Int)) ++ ix a1_l x3) (x3 + (1 : Int)) ∧ x1 (x2 ++ qax (IntKind.u64.wrap ((ix a1_l x3).length : Int) :: ([] : List Int)) ++ ix a1_l x3) (x3 + (1 : Int)) < x1 x2 x3)) ∧ (¬x3 < (a1_l.length : Int) → Q x2))
theorem qpX {a0_b : List UInt8} {a1_l : List (List UInt8)} (w_0 : (Ty.kd (.sl .byte)).wf a0_b) (w_1 : (Ty.kd (.sl (.sl .byte))).wf a1_l) (hp : a0_b.length + qai a1_l ≤ 140737488355328) : qiB a0_b a1_l (fun o0 => o0 = (a0_b ++ qaB a1_l)) := by
 have hw : ∀ x ∈ a1_l, x.length ≤ LM := fun x hx => (w_1.2 x hx).1
 unfold qiB
 refine ⟨by omega, fun _ => ⟨fun out i => ∃ j : Nat, i = (j : Int) ∧ j ≤ a1_l.length ∧ out = a0_b ++ qaB (a1_l.take j), fun _ i => a1_l.length - i.toNat, ⟨0, rfl, by omega, by simp [qaB]⟩, ?_⟩⟩
 rintro out i ⟨j, rfl, hj, rfl⟩ _ _
 refine ⟨fun hlt => ⟨⟨by omega, hlt⟩, ?_, fun _ => ⟨?_, by have := w_1.1; unfold LM at this; omega, ?_, ?_⟩⟩, fun hge => ?_⟩
 ·have h1 := qbF (a1_l.take j) (fun y hy => by have := hw y (List.mem_of_mem_take hy); unfold LM at this; omega)
  have h2 := qd0 hlt
  simp only [List.length_append, List.length_cons, List.length_nil]
  omega
 ·have h1 := qbF (a1_l.take j) (fun y hy => by have := hw y (List.mem_of_mem_take hy); unfold LM at this; omega)
  have h2 := qd0 hlt
  have h3 := hw _ (qic (by omega) hlt)
  have h4 : IntKind.u64.wrap ((ix a1_l (j : Int)).length : Int) = ((ix a1_l (j : Int)).length : Int) := qaD ⟨by show (0 : Int) ≤ _; omega, by unfold LM at h3; show _ ≤ (18446744073709551615 : Int); omega⟩
  have h5 := qaP (n := (ix a1_l (j : Int)).length) (by unfold LM at h3; omega)
  rw [h4]
  simp only [List.length_append, qax, List.flatMap_cons, List.flatMap_nil, List.append_nil, Int.toNat_natCast]
  omega
 ·have h3 := hw _ (qic (by omega) hlt)
  have h4 : IntKind.u64.wrap ((ix a1_l (j : Int)).length : Int) = ((ix a1_l (j : Int)).length : Int) := qaD ⟨by show (0 : Int) ≤ _; omega, by unfold LM at h3; show _ ≤ (18446744073709551615 : Int); omega⟩
  refine ⟨j + 1, by omega, by omega, ?_⟩
  rw [h4, qbK hlt]
  simp [qaB, qax]
 ·show a1_l.length - ((j : Int) + 1).toNat < a1_l.length - (j : Int).toNat
  omega
 ·have : j = a1_l.length := by omega
  subst this
  rw [List.take_length]
theorem qpW : (∀ a, qgk.pre a → PM.wfP qgk.pm a (fvc qpr 200 95 qgk a (eqO qgk a))) = (∀ a : (List UInt8) × (List (List UInt8)) × Unit, ((a.1).length + qai (a.2.1) ≤ 140737488355328) → (Ty.kd (.sl .byte)).wf a.1 → (Ty.kd (.sl (.sl .byte))).wf a.2.1 → qiB a.1 a.2.1 (fun o0 => o0 = ((a.1) ++ qaB (a.2.1)))) := by kernel_rfl
theorem qrA : qgk.valid Try.prog 95 := qaz (X := qpr) (qaV qat (fun b hb => by cases hb; exact qay) qaA ⟨qek, qqc, trivial⟩) 200 (qpW.mpr fun a hp w_0 w_1 => @qpX a.1 a.2.1 w_0 w_1 hp)
noncomputable def qcr : Ctr := ⟨[.v (.int .i64), .v (.sl (.sl .byte))], [.ow 5 .byte], some (fun a => (fun (a0_kind : Int) (a1_parts : List (List UInt8)) => (1 + qai a1_parts ≤ 140737488355328 : Prop)) a.1 a.2.1), fun a => (fun (a0_kind : Int) (a1_parts : List (List UInt8)) => (((preimage a0_kind a1_parts), ()), (()))) a.1 a.2.1⟩
noncomputable def qgp : Fx := ⟨seat, some bkT, fns, [(95, qgk)], [], [], []⟩
def qdA (a0_kind : Int) (a1_parts : List (List UInt8)) (Q : (List UInt8) → Prop) : Prop :=
 (toB (IntKind.u8.wrap a0_kind) :: ([] : List UInt8)).length + qai a1_parts ≤ (140737488355328 : Nat) ∧ (Ty.byte.kd.sl.wf (toB (IntKind.u8.wrap a0_kind) :: ([] : List UInt8) ++ qaB a1_parts) → Q (toB (IntKind.u8.wrap a0_kind) :: ([] : List UInt8) ++ qaB a1_parts))
theorem qiM {a0_kind : Int} {a1_parts : List (List UInt8)} (w_0 : (Ty.kd (.int .i64)).wf a0_kind) (w_1 : (Ty.kd (.sl (.sl .byte))).wf a1_parts) (hp : 1 + qai a1_parts ≤ 140737488355328) : qdA a0_kind a1_parts (fun o0 => o0 = (preimage a0_kind a1_parts)) := by
 unfold qdA
 refine ⟨by simpa using hp, fun _ => rfl⟩
theorem qiL : (∀ a, qcr.pre a → PM.wfP qcr.pm a (fvc qgp 200 98 qcr a (eqO qcr a))) = (∀ a : Int × (List (List UInt8)) × Unit, (1 + qai (a.2.1) ≤ 140737488355328) → (Ty.kd (.int .i64)).wf a.1 → (Ty.kd (.sl (.sl .byte))).wf a.2.1 → qdA a.1 a.2.1 (fun o0 => o0 = (preimage (a.1) (a.2.1)))) := by kernel_rfl
theorem qkE : qcr.valid Try.prog 98 := qaz (X := qgp) (qaV qat (fun b hb => by cases hb; exact qay) qaA ⟨qrA, trivial⟩) 200 (qiL.mpr fun a hp w_0 w_1 => @qiM a.1 a.2.1 w_0 w_1 hp)
noncomputable def qiJ : Ctr := ⟨[], [.bx (.pr (.arr 8 (.int .u32)) (.pr (.int .u64) (.sl .byte)))], none, fun _ => ((((List.replicate 8 (0 : Int), (0 : Int), ([] : List UInt8)) : List Int × Int × List UInt8), ()), (()))⟩
noncomputable def qrH : Fx := ⟨seat, some bkT, fns, [], [], [], []⟩
def qpv (Q : ((List Int) × Int × List UInt8) → Prop) : Prop :=
 Q ((Ty.arr (8 : Nat) (Ty.int IntKind.u32)).pr ((Ty.int IntKind.u64).pr Ty.byte.sl)).kd.z
theorem qrK  : qpv  (fun o0 => o0 = ((List.replicate 8 (0 : Int), (0 : Int), ([] : List UInt8)) : List Int × Int × List UInt8)) := by
 exact rfl
theorem qrI : (∀ a, qiJ.pre a → PM.wfP qiJ.pm a (fvc qrH 200 123 qiJ a (eqO qiJ a))) = (∀ a : Unit, True → qpv  (fun o0 => o0 = ((List.replicate 8 (0 : Int), (0 : Int), ([] : List UInt8)) : List Int × Int × List UInt8))) := by kernel_rfl
theorem qrJ : qiJ.valid Try.prog 123 := qaz (X := qrH) (qaV qat (fun b hb => by cases hb; exact qay) qaA trivial) 200 (qrI.mpr fun a hp  => @qrK )
noncomputable def qgD : Ctr := ⟨[.v (.int .u64)], [.ow 5 .byte], none, fun a => (fun (a0_x : Int) => (((be a0_x.toNat 8), ()), (()))) a.1⟩
noncomputable def qpI : Fx := ⟨seat, some bkT, fns, [], [], [], []⟩
def qjc (a0_x : Int) (Q : (List UInt8) → Prop) : Prop :=
 ∃ (x0 : List UInt8 → Int → Prop), ∃ (x1 : List UInt8 → Int → Nat), x0 ([] : List UInt8) (56 : Int) ∧ ∀ (x2 : List UInt8) (x3 : Int), x0 x2 x3 → Ty.byte.kd.sl.wf x2 → (Kd.int IntKind.i64).wf x3 → ((0 : Int) ≤ x3 → (0 : Int) ≤ x3 ∧ (x2.length + (toB (IntKind.u8.wrap (shr IntKind.u64 a0_x x3)) :: ([] : List UInt8)).length) * (1 : Nat) ≤ (140737488355328 : Nat) ∧ x0 (x2 ++ toB (IntKind.u8.wrap (shr IntKind.u64 a0_x x3)) :: ([] : List UInt8)) (IntKind.i64.wrap (x3 - (8 : Int))) ∧ x1 (x2 ++ toB (IntKind.u8.wrap (shr IntKind.u64 a0_x x3)) :: ([] : List UInt8)) (IntKind.i64.wrap (x3 - (8 : Int))) < x1 x2 x3) ∧ (¬(0 : Int) ≤ x3 → Q x2)
theorem qqX {a0_x : Int} (w_0 : (Ty.kd (.int .u64)).wf a0_x) : qjc a0_x (fun o0 => o0 = (be a0_x.toNat 8)) := by
 obtain ⟨n, rfl⟩ := Int.eq_ofNat_of_zero_le w_0.1
 unfold qjc
 rw [Int.toNat_natCast]
 refine ⟨fun b i => ∃ m : Nat, m ≤ 8 ∧ i = 8 * (m : Int) - 8 ∧ b ++ be n m = be n 8, fun _ i => (i + 8).toNat, ⟨8, by omega, by omega, rfl⟩, ?_⟩
 rintro b i ⟨m, hm, rfl, hb⟩ _ _
 have hbl := congrArg List.length hb
 simp only [List.length_append, qaF] at hbl
 refine ⟨fun h0 => ⟨h0, ?_, ?_, ?_⟩, fun h => ?_⟩
 ·simp only [List.length_cons, List.length_nil]
  omega
 ·obtain ⟨m, rfl⟩ : ∃ m', m = m' + 1 := ⟨m - 1, by omega⟩
  have e : 8 * ((m + 1 : Nat) : Int) - 8 = ((8 * m : Nat) : Int) := by omega
  rw [e, ql1 (by omega), qaD (wf64 (by omega) (by omega))]
  refine ⟨m, by omega, by omega, ?_⟩
  rw [← hb]
  simp [be]
 ·rw [qaD (wf64 (by omega) (by omega))]
  show (8 * (m : Int) - 8 - 8 + 8).toNat < (8 * (m : Int) - 8 + 8).toNat
  omega
 ·have : m = 0 := by omega
  subst this
  simpa [be] using hb
theorem qqW : (∀ a, qgD.pre a → PM.wfP qgD.pm a (fvc qpI 200 139 qgD a (eqO qgD a))) = (∀ a : Int × Unit, True → (Ty.kd (.int .u64)).wf a.1 → qjc a.1 (fun o0 => o0 = (be (a.1).toNat 8))) := by kernel_rfl
theorem qsJ : qgD.valid Try.prog 139 := qaz (X := qpI) (qaV qat (fun b hb => by cases hb; exact qay) qaA trivial) 200 (qqW.mpr fun a hp w_0 => @qqX a.1 w_0)
noncomputable def qeC : Ctr := ⟨[], [.v (.arr 8 (.int .u32))], none, fun _ => ((shaH, ()), (()))⟩
noncomputable def qmv : Fx := ⟨seat, some bkT, fns, [], [], [], []⟩
def qj4 (Q : (List Int) → Prop) : Prop :=
 Q ((1779033703 : Int) :: (3144134277 : Int) :: (1013904242 : Int) :: (2773480762 : Int) :: (1359893119 : Int) :: (2600822924 : Int) :: (528734635 : Int) :: (1541459225 : Int) :: ([] : List Int))
theorem qoB  : qj4  (fun o0 => o0 = shaH) := by
 exact rfl
theorem qoA : (∀ a, qeC.pre a → PM.wfP qeC.pm a (fvc qmv 200 135 qeC a (eqO qeC a))) = (∀ a : Unit, True → qj4  (fun o0 => o0 = shaH)) := by kernel_rfl
theorem qqR : qeC.valid Try.prog 135 := qaz (X := qmv) (qaV qat (fun b hb => by cases hb; exact qay) qaA trivial) 200 (qoA.mpr fun a hp  => @qoB )
noncomputable def qdm : Ctr := ⟨[], [.v (.arr 64 (.int .u32))], none, fun _ => ((shaK, ()), (()))⟩
noncomputable def qkr : Fx := ⟨seat, some bkT, fns, [], [], [], []⟩
def qiq (Q : (List Int) → Prop) : Prop :=
 Q ((1116352408 : Int) :: (1899447441 : Int) :: (3049323471 : Int) :: (3921009573 : Int) :: (961987163 : Int) :: (1508970993 : Int) :: (2453635748 : Int) :: (2870763221 : Int) :: (3624381080 : Int) :: (310598401 : Int) :: (607225278 : Int) :: (1426881987 : Int) :: (1925078388 : Int) :: (2162078206 : Int) :: (2614888103 : Int) :: (3248222580 : Int) :: (3835390401 : Int) :: (4022224774 : Int) :: (264347078 : Int) :: (604807628 : Int) :: (770255983 : Int) :: (1249150122 : Int) :: (1555081692 : Int) :: (1996064986 : Int) :: (2554220882 : Int) :: (2821834349 : Int) :: (2952996808 : Int) :: (3210313671 : Int) :: (3336571891 : Int) :: (3584528711 : Int) :: (113926993 : Int) :: (338241895 : Int) :: (666307205 : Int) :: (773529912 : Int) :: (1294757372 : Int) :: (1396182291 : Int) :: (1695183700 : Int) :: (1986661051 : Int) :: (2177026350 : Int) :: (2456956037 : Int) :: (2730485921 : Int) :: (2820302411 : Int) :: (3259730800 : Int) :: (3345764771 : Int) :: (3516065817 : Int) :: (3600352804 : Int) :: (4094571909 : Int) :: (275423344 : Int) :: (430227734 : Int) :: (506948616 : Int) :: (659060556 : Int) :: (883997877 : Int) :: (958139571 : Int) :: (1322822218 : Int) :: (1537002063 : Int) :: (1747873779 : Int) :: (1955562222 : Int) :: (2024104815 : Int) :: (2227730452 : Int) :: (2361852424 : Int) :: (2428436474 : Int) :: (2756734187 : Int) :: (3204031479 : Int) :: (3329325298 : Int) :: ([] : List Int))
theorem qne  : qiq  (fun o0 => o0 = shaK) := by
 exact rfl
theorem qnd : (∀ a, qdm.pre a → PM.wfP qdm.pm a (fvc qkr 200 147 qdm a (eqO qdm a))) = (∀ a : Unit, True → qiq  (fun o0 => o0 = shaK)) := by kernel_rfl
theorem qo8 : qdm.valid Try.prog 147 := qaz (X := qkr) (qaV qat (fun b hb => by cases hb; exact qay) qaA trivial) 200 (qnd.mpr fun a hp  => @qne )
noncomputable def qgr : Ctr := ⟨[.v (.int .u32), .v (.int .i64)], [.v (.int .u32)], none, fun a => (fun (a0_x : Int) (a1_k : Int) => (((rotl a0_x a1_k), ()), (()))) a.1 a.2.1⟩
noncomputable def qpw : Fx := ⟨seat, some bkT, fns, [], [], [], []⟩
def qlC (a0_x : Int) (a1_k : Int) (Q : Int → Prop) : Prop :=
 Q (bor IntKind.u32 (shl IntKind.u32 a0_x (band IntKind.u64 (IntKind.u64.wrap a1_k) (31 : Int))) (shr IntKind.u32 a0_x (IntKind.u64.wrap ((32 : Int) - band IntKind.u64 (IntKind.u64.wrap a1_k) (31 : Int)))))
theorem qqm {a0_x : Int} {a1_k : Int} (w_0 : (Ty.kd (.int .u32)).wf a0_x) (w_1 : (Ty.kd (.int .i64)).wf a1_k) : qlC a0_x a1_k (fun o0 => o0 = (rotl a0_x a1_k)) := by
 exact rfl
theorem qql : (∀ a, qgr.pre a → PM.wfP qgr.pm a (fvc qpw 200 148 qgr a (eqO qgr a))) = (∀ a : Int × Int × Unit, True → (Ty.kd (.int .u32)).wf a.1 → (Ty.kd (.int .i64)).wf a.2.1 → qlC a.1 a.2.1 (fun o0 => o0 = (rotl (a.1) (a.2.1)))) := by kernel_rfl
theorem qsd : qgr.valid Try.prog 148 := qaz (X := qpw) (qaV qat (fun b hb => by cases hb; exact qay) qaA trivial) 200 (qql.mpr fun a hp w_0 w_1 => @qqm a.1 a.2.1 w_0 w_1)
noncomputable def qeO : Ctr := ⟨[.v (.int .u32), .v (.sl (.int .i64))], [.v (.int .u32)], none, fun a => (fun (a0_x : Int) (a1_l : List Int) => (((qav a0_x a1_l), ()), (()))) a.1 a.2.1⟩
noncomputable def qnl : Fx := ⟨seat, some bkT, fns, [(148, qgr)], [], [], []⟩
def qhJ (a0_x : Int) (a1_l : List Int) (Q : Int → Prop) : Prop :=
 ∃ (x0 : Int → Int → Prop), ∃ (x1 : Int → Int → Nat), x0 (0 : Int) (0 : Int) ∧ ∀ (x2 x3 : Int), x0 x2 x3 → (Kd.int IntKind.u32).wf x2 → (Kd.int IntKind.i64).wf x3 → (x3 < (a1_l.length : Int) → ((0 : Int) ≤ x3 ∧ x3 < (a1_l.length : Int)) ∧ ((Ty.int IntKind.u32).kd.wf (rotl a0_x (IntKind.i64.wrap ((0 : Int) - ix a1_l x3))) → x3 < (9223372036854775807 : Int) ∧ x0 (bxor IntKind.u32 x2 (rotl a0_x (IntKind.i64.wrap ((0 : Int) - ix a1_l x3)))) (x3 + (1 : Int)) ∧ x1 (bxor IntKind.u32 x2 (rotl a0_x (IntKind.i64.wrap ((0 : Int) - ix a1_l x3)))) (x3 + (1 : Int)) < x1 x2 x3)) ∧ (¬x3 < (a1_l.length : Int) → Q x2)
theorem qpi {a0_x : Int} {a1_l : List Int} (w_0 : (Ty.kd (.int .u32)).wf a0_x) (w_1 : (Ty.kd (.sl (.int .i64))).wf a1_l) : qhJ a0_x a1_l (fun o0 => o0 = (qav a0_x a1_l)) := by
 unfold qhJ
 refine ⟨fun s i => ∃ j : Nat, i = (j : Int) ∧ j ≤ a1_l.length ∧ s = qav a0_x (a1_l.take j), fun _ i => a1_l.length - i.toNat, ⟨0, rfl, by omega, rfl⟩, ?_⟩
 rintro s i ⟨j, rfl, hj, rfl⟩ _ _
 refine ⟨fun hlt => ⟨⟨by omega, hlt⟩, fun _ => ⟨by have := w_1.1; unfold LM at this; omega, ⟨j + 1, by omega, by omega, ?_⟩, ?_⟩⟩, fun hge => ?_⟩
 ·rw [qbK hlt]
  simp [qav]
 ·show a1_l.length - ((j : Int) + 1).toNat < a1_l.length - (j : Int).toNat
  omega
 ·have : j = a1_l.length := by omega
  subst this
  rw [List.take_length]
theorem qph : (∀ a, qeO.pre a → PM.wfP qeO.pm a (fvc qnl 200 146 qeO a (eqO qeO a))) = (∀ a : Int × (List Int) × Unit, True → (Ty.kd (.int .u32)).wf a.1 → (Ty.kd (.sl (.int .i64))).wf a.2.1 → qhJ a.1 a.2.1 (fun o0 => o0 = (qav (a.1) (a.2.1)))) := by kernel_rfl
theorem qrn : qeO.valid Try.prog 146 := qaz (X := qnl) (qaV qat (fun b hb => by cases hb; exact qay) qaA ⟨qsd, trivial⟩) 200 (qph.mpr fun a hp w_0 w_1 => @qpi a.1 a.2.1 w_0 w_1)
noncomputable def qgn : Ctr := ⟨[.bx (.pr (.arr 8 (.int .u32)) (.pr (.int .u64) (.sl .byte))) false], [.v (.int .u64)], none, fun a => (fun (a0_h : (List Int) × Int × List UInt8) => (((hLen a0_h), ()), (()))) a.1⟩
noncomputable def qpt : Fx := ⟨seat, some bkT, fns, [], [], [], [(3, [], [.o 0 2, .o 1 2, .o 2 2, .o 3 2, .o 4 2, .o 5 2, .o 6 2, .o 7 2, .o 8 2, .o 9 2, .o 10 2, .o 11 2, .o 12 2])]⟩
def qlp (a0_h : (List Int) × Int × List UInt8) (Q : Int → Prop) : Prop :=
 Q (IntKind.u64.wrap (IntKind.u64.wrap ((64 : Int) * a0_h.snd.fst) + IntKind.u64.wrap (a0_h.snd.snd.length : Int)))
theorem qp7 {a0_h : (List Int) × Int × List UInt8} (w_0 : (Ty.kd (.pr (.arr 8 (.int .u32)) (.pr (.int .u64) (.sl .byte)))).wf a0_h) : qlp a0_h (fun o0 => o0 = (hLen a0_h)) := by
 exact rfl
theorem qp6 : (∀ a, qgn.pre a → PM.wfP qgn.pm a (fvc qpt 200 138 qgn a (eqO qgn a))) = (∀ a : ((List Int) × Int × List UInt8) × Unit, True → (Ty.kd (.pr (.arr 8 (.int .u32)) (.pr (.int .u64) (.sl .byte)))).wf a.1 → qlp a.1 (fun o0 => o0 = (hLen (a.1)))) := by kernel_rfl
theorem qrE : qgn.valid Try.prog 138 := qaz (X := qpt) (qaV qat (fun b hb => by cases hb; exact qay) qaA trivial) 200 (qp6.mpr fun a hp w_0 => @qp7 a.1 w_0)
noncomputable def qel : Ctr := ⟨[.bx (.pr (.arr 8 (.int .u32)) (.pr (.int .u64) (.sl .byte))) false], [.bx (.pr (.arr 8 (.int .u32)) (.pr (.int .u64) (.sl .byte)))], some (fun a => (fun (a0_h : (List Int) × Int × List UInt8) => (a0_h.2.2.length ≤ 140737488355328 : Prop)) a.1), fun a => (fun (a0_h : (List Int) × Int × List UInt8) => ((a0_h, ()), (()))) a.1⟩
noncomputable def qlo : Fx := ⟨seat, some bkT, fns, [(69, qck)], [], [], []⟩
def qjI (a0_h : (List Int) × Int × List UInt8) (Q : ((List Int) × Int × List UInt8) → Prop) : Prop :=
 a0_h.snd.snd.length ≤ (140737488355328 : Nat) ∧ (Ty.byte.kd.sl.wf a0_h.snd.snd → Q (a0_h.fst, a0_h.snd.fst, a0_h.snd.snd))
theorem qnR {a0_h : (List Int) × Int × List UInt8} (w_0 : (Ty.kd (.pr (.arr 8 (.int .u32)) (.pr (.int .u64) (.sl .byte)))).wf a0_h) (hp : a0_h.2.2.length ≤ 140737488355328) : qjI a0_h (fun o0 => o0 = a0_h) := by
 exact ⟨hp, fun _ => rfl⟩
theorem qnQ : (∀ a, qel.pre a → PM.wfP qel.pm a (fvc qlo 200 137 qel a (eqO qel a))) = (∀ a : ((List Int) × Int × List UInt8) × Unit, ((a.1).2.2.length ≤ 140737488355328) → (Ty.kd (.pr (.arr 8 (.int .u32)) (.pr (.int .u64) (.sl .byte)))).wf a.1 → qjI a.1 (fun o0 => o0 = (a.1))) := by kernel_rfl
theorem qp5 : qel.valid Try.prog 137 := qaz (X := qlo) (qaV qat (fun b hb => by cases hb; exact qay) qaA ⟨qek, trivial⟩) 200 (qnQ.mpr fun a hp w_0 => @qnR a.1 w_0 hp)
end Go.Proofs.Ytmjjkpiglbpkhaa

set_option linter.unusedVariables false
set_option maxRecDepth 100000
set_option maxHeartbeats 20000000
namespace Go.Proofs.Ytmjjkpiglbpkhaa
open Go Go.RowKit Go.Inc
noncomputable def qgR : Ctr := ⟨[.bx (.arr 8 (.int .u32)) true, .v (.sl .byte)], [], some (fun a => (fun (a0_s : List Int) (a1_b : List UInt8) => (a1_b.length = 64 : Prop)) a.1 a.2.1), fun a => (fun (a0_s : List Int) (a1_b : List UInt8) => ((()), ((qc8 a0_s a1_b), ()))) a.1 a.2.1⟩
noncomputable def qpR : Fx := ⟨seat, some bkT, fns, [(146, qeO), (147, qdm)], [], [(2, [1], []), (10, [2], []), (18, [0], [])], [(5, [1], [.o 0 2, .o 1 2, .o 2 2, .o 3 2, .o 4 2, .o 5 2, .o 6 2, .o 7 2, .o 8 2, .o 9 2, .o 10 2, .o 11 2, .o 12 2, .o 13 2, .o 14 2, .o 15 2, .o 16 2, .o 17 2, .o 18 2, .o 19 2, .o 20 2, .o 21 2, .o 22 2, .o 23 2, .o 24 2, .o 25 2, .o 26 2, .o 27 2, .o 28 2, .o 29 2, .o 30 2, .o 31 2, .o 32 2, .o 33 2, .o 34 2, .o 35 1]), (6, [1], [.o 0 2, .o 1 2, .o 2 2, .o 3 2, .o 4 2, .o 5 2, .o 6 2, .o 7 2, .o 8 2, .o 9 2, .o 10 2, .o 11 2, .o 12 2, .o 13 2, .o 16 2, .o 17 2, .o 18 2, .o 19 2, .o 20 2, .o 23 2, .o 24 2, .o 25 2, .o 26 2, .o 29 2, .o 30 2, .o 31 2, .o 32 2, .o 33 2, .par [14, 15, 21, 22, 27] (.alt 14 0 (.alt 15 0 (.one 21 2 (.one 22 2 (.one 27 0 .fin))) (.alt 27 0 (.one 15 0 (.one 21 2 (.one 22 2 .fin))) .fin)) (.alt 27 0 (.one 14 0 (.one 15 0 (.one 21 2 (.one 22 2 .fin)))) .fin)), .o 28 0, .o 34 2, .o 35 2, .o 36 2, .o 37 1]), (12, [], [.o 0 2, .o 1 2, .o 2 2, .o 3 2, .o 4 2, .o 5 2]), (13, [], [.o 0 2, .o 1 2, .o 2 2, .o 6 2, .o 7 2, .o 8 2, .o 9 2, .o 10 2, .o 11 2, .o 12 2, .o 13 2, .o 14 2, .o 15 2, .o 17 2, .o 19 2, .o 20 2, .o 21 2, .o 3 0, .o 4 0, .o 5 2, .o 16 2, .o 18 2, .o 22 2, .o 23 2]), (14, [], [.o 0 2, .o 3 2, .o 4 2, .o 5 2, .o 6 2, .o 7 2, .o 8 2, .o 9 2, .o 10 2, .o 11 2, .o 12 2, .o 13 2, .o 14 2, .o 15 2, .o 16 2, .o 17 2, .o 1 0, .o 2 0, .o 18 2, .o 19 2]), (20, [0], [.o 0 2, .o 1 2, .o 2 2, .o 3 2, .o 4 2, .o 5 2, .o 6 2, .o 7 2, .o 8 2, .o 9 2, .o 10 2, .o 11 1])]⟩
def qju (a0_s : List Int) (a1_b : List UInt8) (Q : (List Int) → Prop) : Prop :=
 ∃ (x0 : Int → List Int → Prop), ∃ (x1 : Int → List Int → Nat), x0 (0 : Int) (Ty.arr (64 : Nat) (Ty.int IntKind.u32)).kd.z ∧ ∀ (x2 : Int) (x3 : List Int), x0 x2 x3 → (Kd.int IntKind.i64).wf x2 → (Ty.arr (64 : Nat) (Ty.int IntKind.u32)).kd.wf x3 → (x2 < (64 : Int) → (x2 < (16 : Int) → ((0 : Int) ≤ IntKind.i64.wrap ((4 : Int) * x2) ∧ IntKind.i64.wrap ((4 : Int) * x2) < (a1_b.length : Int)) ∧ ((0 : Int) ≤ IntKind.i64.wrap (IntKind.i64.wrap ((4 : Int) * x2) + (1 : Int)) ∧ IntKind.i64.wrap (IntKind.i64.wrap ((4 : Int) * x2) + (1 : Int)) < (a1_b.length : Int)) ∧ ((0 : Int) ≤ IntKind.i64.wrap (IntKind.i64.wrap ((4 : Int) * x2) + (2 : Int)) ∧ IntKind.i64.wrap (IntKind.i64.wrap ((4 : Int) * x2) + (2 : Int)) < (a1_b.length : Int)) ∧ ((0 : Int) ≤ IntKind.i64.wrap (IntKind.i64.wrap ((4 : Int) * x2) + (3 : Int)) ∧ IntKind.i64.wrap (IntKind.i64.wrap ((4 : Int) * x2) + (3 : Int)) < (a1_b.length : Int)) ∧ ((0 : Int) ≤ x2 ∧ x2 < ((64 : Nat) : Int)) ∧ x2 < (9223372036854775807 : Int) ∧ x0 (x2 + (1 : Int)) (x3.set x2.toNat (bor IntKind.u32 (bor IntKind.u32 (bor IntKind.u32 (shl IntKind.u32 (bI (ix a1_b (IntKind.i64.wrap ((4 : Int) * x2)))) (24 : Int)) (shl IntKind.u32 (bI (ix a1_b (IntKind.i64.wrap (IntKind.i64.wrap ((4 : Int) * x2) + (1 : Int))))) (16 : Int))) (shl IntKind.u32 (bI (ix a1_b (IntKind.i64.wrap (IntKind.i64.wrap ((4 : Int) * x2) + (2 : Int))))) (8 : Int))) (bI (ix a1_b (IntKind.i64.wrap (IntKind.i64.wrap ((4 : Int) * x2) + (3 : Int))))))) ∧ x1 (x2 + (1 : Int)) (x3.set x2.toNat (bor IntKind.u32 (bor IntKind.u32 (bor IntKind.u32 (shl IntKind.u32 (bI (ix a1_b (IntKind.i64.wrap ((4 : Int) * x2)))) (24 : Int)) (shl IntKind.u32 (bI (ix a1_b (IntKind.i64.wrap (IntKind.i64.wrap ((4 : Int) * x2) + (1 : Int))))) (16 : Int))) (shl IntKind.u32 (bI (ix a1_b (IntKind.i64.wrap (IntKind.i64.wrap ((4 : Int) * x2) + (2 : Int))))) (8 : Int))) (bI (ix a1_b (IntKind.i64.wrap (IntKind.i64.wrap ((4 : Int) * x2) + (3 : Int))))))) < x1 x2 x3) ∧ (¬x2 < (16 : Int) → ((0 : Int) ≤ IntKind.i64.wrap (x2 - (16 : Int)) ∧ IntKind.i64.wrap (x2 - (16 : Int)) < ((64 : Nat) : Int)) ∧ ((0 : Int) ≤ IntKind.i64.wrap (x2 - (7 : Int)) ∧ IntKind.i64.wrap (x2 - (7 : Int)) < ((64 : Nat) : Int)) ∧ ((0 : Int) ≤ IntKind.i64.wrap (x2 - (15 : Int)) ∧ IntKind.i64.wrap (x2 - (15 : Int)) < ((64 : Nat) : Int)) ∧ ((0 : Int) ≤ IntKind.i64.wrap (x2 - (15 : Int)) ∧ IntKind.i64.wrap (x2 - (15 : Int)) < ((64 : Nat) : Int)) ∧ ((0 : Int) ≤ IntKind.i64.wrap (x2 - (2 : Int)) ∧ IntKind.i64.wrap (x2 - (2 : Int)) < ((64 : Nat) : Int)) ∧ ((0 : Int) ≤ IntKind.i64.wrap (x2 - (2 : Int)) ∧ IntKind.i64.wrap (x2 - (2 : Int)) < ((64 : Nat) : Int)) ∧ (((Ty.int IntKind.u32).kd.wf (qav (ix x3 (IntKind.i64.wrap (x2 - (15 : Int)))) ((7 : Int) :: (18 : Int) :: ([] : List Int))) → (Ty.int IntKind.u32).kd.wf (qav (ix x3 (IntKind.i64.wrap (x2 - (2 : Int)))) ((17 : Int) :: (19 : Int) :: ([] : List Int))) → ((0 : Int) ≤ x2 ∧ x2 < ((64 : Nat) : Int)) ∧ x2 < (9223372036854775807 : Int) ∧ x0 (x2 + (1 : Int)) (x3.set x2.toNat (IntKind.u32.wrap (IntKind.u32.wrap (IntKind.u32.wrap (ix x3 (IntKind.i64.wrap (x2 - (16 : Int))) + ix x3 (IntKind.i64.wrap (x2 - (7 : Int)))) + bxor IntKind.u32 (qav (ix x3 (IntKind.i64.wrap (x2 - (15 : Int)))) ((7 : Int) :: (18 : Int) :: ([] : List Int))) (shr IntKind.u32 (ix x3 (IntKind.i64.wrap (x2 - (15 : Int)))) (3 : Int))) + bxor IntKind.u32 (qav (ix x3 (IntKind.i64.wrap (x2 - (2 : Int)))) ((17 : Int) :: (19 : Int) :: ([] : List Int))) (shr IntKind.u32 (ix x3 (IntKind.i64.wrap (x2 - (2 : Int)))) (10 : Int))))) ∧ x1 (x2 + (1 : Int)) (x3.set x2.toNat (IntKind.u32.wrap (IntKind.u32.wrap (IntKind.u32.wrap (ix x3 (IntKind.i64.wrap (x2 - (16 : Int))) + ix x3 (IntKind.i64.wrap (x2 - (7 : Int)))) + bxor IntKind.u32 (qav (ix x3 (IntKind.i64.wrap (x2 - (15 : Int)))) ((7 : Int) :: (18 : Int) :: ([] : List Int))) (shr IntKind.u32 (ix x3 (IntKind.i64.wrap (x2 - (15 : Int)))) (3 : Int))) + bxor IntKind.u32 (qav (ix x3 (IntKind.i64.wrap (x2 - (2 : Int)))) ((17 : Int) :: (19 : Int) :: ([] : List Int))) (shr IntKind.u32 (ix x3 (IntKind.i64.wrap (x2 - (2 : Int)))) (10 : Int))))) < x1 x2 x3) ∧ ((Ty.int IntKind.u32).kd.wf (qav (ix x3 (IntKind.i64.wrap (x2 - (15 : Int)))) ((7 : Int) :: (18 : Int) :: ([] : List Int))) → (Ty.int IntKind.u32).kd.wf (qav (ix x3 (IntKind.i64.wrap (x2 - (2 : Int)))) ((17 : Int) :: (19 : Int) :: ([] : List Int))) → ((0 : Int) ≤ x2 ∧ x2 < ((64 : Nat) : Int)) ∧ x2 < (9223372036854775807 : Int) ∧ x0 (x2 + (1 : Int)) (x3.set x2.toNat (IntKind.u32.wrap (IntKind.u32.wrap (IntKind.u32.wrap (ix x3 (IntKind.i64.wrap (x2 - (16 : Int))) + ix x3 (IntKind.i64.wrap (x2 - (7 : Int)))) + bxor IntKind.u32 (qav (ix x3 (IntKind.i64.wrap (x2 - (15 : Int)))) ((7 : Int) :: (18 : Int) :: ([] : List Int))) (shr IntKind.u32 (ix x3 (IntKind.i64.wrap (x2 - (15 : Int)))) (3 : Int))) + bxor IntKind.u32 (qav (ix x3 (IntKind.i64.wrap (x2 - (2 : Int)))) ((17 : Int) :: (19 : Int) :: ([] : List Int))) (shr IntKind.u32 (ix x3 (IntKind.i64.wrap (x2 - (2 : Int)))) (10 : Int))))) ∧ x1 (x2 + (1 : Int)) (x3.set x2.toNat (IntKind.u32.wrap (IntKind.u32.wrap (IntKind.u32.wrap (ix x3 (IntKind.i64.wrap (x2 - (16 : Int))) + ix x3 (IntKind.i64.wrap (x2 - (7 : Int)))) + bxor IntKind.u32 (qav (ix x3 (IntKind.i64.wrap (x2 - (15 : Int)))) ((7 : Int) :: (18 : Int) :: ([] : List Int))) (shr IntKind.u32 (ix x3 (IntKind.i64.wrap (x2 - (15 : Int)))) (3 : Int))) + bxor IntKind.u32 (qav (ix x3 (IntKind.i64.wrap (x2 - (2 : Int)))) ((17 : Int) :: (19 : Int) :: ([] : List Int))) (shr IntKind.u32 (ix x3 (IntKind.i64.wrap (x2 - (2 : Int)))) (10 : Int))))) < x1 x2 x3) ∧ True) ∧ ((Ty.int IntKind.u32).kd.wf (qav (ix x3 (IntKind.i64.wrap (x2 - (15 : Int)))) ((7 : Int) :: (18 : Int) :: ([] : List Int))) → (Ty.int IntKind.u32).kd.wf (qav (ix x3 (IntKind.i64.wrap (x2 - (2 : Int)))) ((17 : Int) :: (19 : Int) :: ([] : List Int))) → ((0 : Int) ≤ x2 ∧ x2 < ((64 : Nat) : Int)) ∧ x2 < (9223372036854775807 : Int) ∧ x0 (x2 + (1 : Int)) (x3.set x2.toNat (IntKind.u32.wrap (IntKind.u32.wrap (IntKind.u32.wrap (ix x3 (IntKind.i64.wrap (x2 - (16 : Int))) + ix x3 (IntKind.i64.wrap (x2 - (7 : Int)))) + bxor IntKind.u32 (qav (ix x3 (IntKind.i64.wrap (x2 - (15 : Int)))) ((7 : Int) :: (18 : Int) :: ([] : List Int))) (shr IntKind.u32 (ix x3 (IntKind.i64.wrap (x2 - (15 : Int)))) (3 : Int))) + bxor IntKind.u32 (qav (ix x3 (IntKind.i64.wrap (x2 - (2 : Int)))) ((17 : Int) :: (19 : Int) :: ([] : List Int))) (shr IntKind.u32 (ix x3 (IntKind.i64.wrap (x2 - (2 : Int)))) (10 : Int))))) ∧ x1 (x2 + (1 : Int)) (x3.set x2.toNat (IntKind.u32.wrap (IntKind.u32.wrap (IntKind.u32.wrap (ix x3 (IntKind.i64.wrap (x2 - (16 : Int))) + ix x3 (IntKind.i64.wrap (x2 - (7 : Int)))) + bxor IntKind.u32 (qav (ix x3 (IntKind.i64.wrap (x2 - (15 : Int)))) ((7 : Int) :: (18 : Int) :: ([] : List Int))) (shr IntKind.u32 (ix x3 (IntKind.i64.wrap (x2 - (15 : Int)))) (3 : Int))) + bxor IntKind.u32 (qav (ix x3 (IntKind.i64.wrap (x2 - (2 : Int)))) ((17 : Int) :: (19 : Int) :: ([] : List Int))) (shr IntKind.u32 (ix x3 (IntKind.i64.wrap (x2 - (2 : Int)))) (10 : Int))))) < x1 x2 x3) ∧ True)) ∧ (¬x2 < (64 : Int) → (Ty.arr (64 : Nat) (Ty.int IntKind.u32)).kd.wf shaK → ∃ (x9 : Int → List Int → Prop), ∃ (x10 : Int → List Int → Nat), x9 (0 : Int) a0_s ∧ ∀ (x11 : Int) (x12 : List Int), x9 x11 x12 → (Kd.int IntKind.i64).wf x11 → (Ty.arr (8 : Nat) (Ty.int IntKind.u32)).kd.wf x12 → (x11 < (64 : Int) → ((0 : Int) ≤ x11 ∧ x11 < ((64 : Nat) : Int)) ∧ ((0 : Int) ≤ x11 ∧ x11 < ((64 : Nat) : Int)) ∧ ((Ty.int IntKind.u32).kd.wf (qav (ix x12 (4 : Int)) ((6 : Int) :: (11 : Int) :: (25 : Int) :: ([] : List Int))) → (Ty.int IntKind.u32).kd.wf (qav (ix x12 (0 : Int)) ((2 : Int) :: (13 : Int) :: (22 : Int) :: ([] : List Int))) → x11 < (9223372036854775807 : Int) ∧ x9 (x11 + (1 : Int)) (IntKind.u32.wrap (IntKind.u32.wrap (IntKind.u32.wrap (IntKind.u32.wrap (IntKind.u32.wrap (ix x12 (7 : Int) + qav (ix x12 (4 : Int)) ((6 : Int) :: (11 : Int) :: (25 : Int) :: ([] : List Int))) + bxor IntKind.u32 (band IntKind.u32 (ix x12 (4 : Int)) (ix x12 (5 : Int))) (band IntKind.u32 (bxor IntKind.u32 (if IntKind.u32.signed = true then (-1 : Int) else IntKind.u32.max) (ix x12 (4 : Int))) (ix x12 (6 : Int)))) + ix shaK x11) + ix x3 x11) + IntKind.u32.wrap (qav (ix x12 (0 : Int)) ((2 : Int) :: (13 : Int) :: (22 : Int) :: ([] : List Int)) + bxor IntKind.u32 (bxor IntKind.u32 (band IntKind.u32 (ix x12 (0 : Int)) (ix x12 (1 : Int))) (band IntKind.u32 (ix x12 (0 : Int)) (ix x12 (2 : Int)))) (band IntKind.u32 (ix x12 (1 : Int)) (ix x12 (2 : Int))))) :: ix x12 (0 : Int) :: ix x12 (1 : Int) :: ix x12 (2 : Int) :: IntKind.u32.wrap (ix x12 (3 : Int) + IntKind.u32.wrap (IntKind.u32.wrap (IntKind.u32.wrap (IntKind.u32.wrap (ix x12 (7 : Int) + qav (ix x12 (4 : Int)) ((6 : Int) :: (11 : Int) :: (25 : Int) :: ([] : List Int))) + bxor IntKind.u32 (band IntKind.u32 (ix x12 (4 : Int)) (ix x12 (5 : Int))) (band IntKind.u32 (bxor IntKind.u32 (if IntKind.u32.signed = true then (-1 : Int) else IntKind.u32.max) (ix x12 (4 : Int))) (ix x12 (6 : Int)))) + ix shaK x11) + ix x3 x11)) :: ix x12 (4 : Int) :: ix x12 (5 : Int) :: ix x12 (6 : Int) :: ([] : List Int)) ∧ x10 (x11 + (1 : Int)) (IntKind.u32.wrap (IntKind.u32.wrap (IntKind.u32.wrap (IntKind.u32.wrap (IntKind.u32.wrap (ix x12 (7 : Int) + qav (ix x12 (4 : Int)) ((6 : Int) :: (11 : Int) :: (25 : Int) :: ([] : List Int))) + bxor IntKind.u32 (band IntKind.u32 (ix x12 (4 : Int)) (ix x12 (5 : Int))) (band IntKind.u32 (bxor IntKind.u32 (if IntKind.u32.signed = true then (-1 : Int) else IntKind.u32.max) (ix x12 (4 : Int))) (ix x12 (6 : Int)))) + ix shaK x11) + ix x3 x11) + IntKind.u32.wrap (qav (ix x12 (0 : Int)) ((2 : Int) :: (13 : Int) :: (22 : Int) :: ([] : List Int)) + bxor IntKind.u32 (bxor IntKind.u32 (band IntKind.u32 (ix x12 (0 : Int)) (ix x12 (1 : Int))) (band IntKind.u32 (ix x12 (0 : Int)) (ix x12 (2 : Int)))) (band IntKind.u32 (ix x12 (1 : Int)) (ix x12 (2 : Int))))) :: ix x12 (0 : Int) :: ix x12 (1 : Int) :: ix x12 (2 : Int) :: IntKind.u32.wrap (ix x12 (3 : Int) + IntKind.u32.wrap (IntKind.u32.wrap (IntKind.u32.wrap (IntKind.u32.wrap (ix x12 (7 : Int) + qav (ix x12 (4 : Int)) ((6 : Int) :: (11 : Int) :: (25 : Int) :: ([] : List Int))) + bxor IntKind.u32 (band IntKind.u32 (ix x12 (4 : Int)) (ix x12 (5 : Int))) (band IntKind.u32 (bxor IntKind.u32 (if IntKind.u32.signed = true then (-1 : Int) else IntKind.u32.max) (ix x12 (4 : Int))) (ix x12 (6 : Int)))) + ix shaK x11) + ix x3 x11)) :: ix x12 (4 : Int) :: ix x12 (5 : Int) :: ix x12 (6 : Int) :: ([] : List Int)) < x10 x11 x12)) ∧ (¬x11 < (64 : Int) → ∃ (x17 : Int → List Int → Prop), ∃ (x18 : Int → List Int → Nat), x17 (0 : Int) a0_s ∧ ∀ (x19 : Int) (x20 : List Int), x17 x19 x20 → (Kd.int IntKind.i64).wf x19 → (Ty.arr (8 : Nat) (Ty.int IntKind.u32)).kd.wf x20 → (x19 < (8 : Int) → ((0 : Int) ≤ x19 ∧ x19 < ((8 : Nat) : Int)) ∧ ((0 : Int) ≤ x19 ∧ x19 < ((8 : Nat) : Int)) ∧ ((0 : Int) ≤ x19 ∧ x19 < ((8 : Nat) : Int)) ∧ x19 < (9223372036854775807 : Int) ∧ x17 (x19 + (1 : Int)) (x20.set x19.toNat (IntKind.u32.wrap (ix x20 x19 + ix x12 x19))) ∧ x18 (x19 + (1 : Int)) (x20.set x19.toNat (IntKind.u32.wrap (ix x20 x19 + ix x12 x19))) < x18 x19 x20) ∧ (¬x19 < (8 : Int) → Q x20)))
theorem qrl {a0_s : List Int} {a1_b : List UInt8} (w_0 : (Ty.kd (.arr 8 (.int .u32))).wf a0_s) (w_1 : (Ty.kd (.sl .byte)).wf a1_b) (hp : a1_b.length = 64) : qju a0_s a1_b (fun o0 => o0 = (qc8 a0_s a1_b)) := by
 have wr : ∀ a : Int, -1000 ≤ a → a ≤ 1000 → IntKind.i64.wrap a = a := fun a h1 h2 => qaD (wf64 (by omega) (by omega))
 unfold qju
 refine ⟨fun i w => ∃ n : Nat, i = (n : Int) ∧ n ≤ 64 ∧ w = qeZ a1_b n, fun i _ => 64 - i.toNat, ⟨0, rfl, by omega, rfl⟩, ?_⟩
 rintro i w ⟨n, rfl, hn, rfl⟩ _ _
 refine ⟨fun hlt => ⟨fun h16 => ?_, fun h16 => ?_⟩, fun hge _ => ?_⟩
 ·rw [wr (4 * (n : Int)) (by omega) (by omega), wr (4 * (n : Int) + 1) (by omega) (by omega), wr (4 * (n : Int) + 2) (by omega) (by omega), wr (4 * (n : Int) + 3) (by omega) (by omega)]
  refine ⟨by omega, by omega, by omega, by omega, by omega, by omega, ⟨n + 1, by omega, by omega, ?_⟩, ?_⟩
  ·simp only [qeZ, Int.toNat_natCast]
   rw [if_pos (by omega)]
   rfl
  ·show 64 - ((n : Int) + 1).toNat < 64 - (n : Int).toNat
   omega
 ·rw [wr ((n : Int) - 16) (by omega) (by omega), wr ((n : Int) - 7) (by omega) (by omega), wr ((n : Int) - 15) (by omega) (by omega), wr ((n : Int) - 2) (by omega) (by omega)]
  iterate 14 (all_goals (try intros); all_goals (try omega); all_goals (try (refine And.intro ?_ ?_)))
  all_goals first | trivial | omega | exact ⟨n + 1, by omega, by omega, by simp only [qeZ, Int.toNat_natCast]; rw [if_neg (by omega)]; rfl⟩ | (show 64 - ((n : Int) + 1).toNat < 64 - (n : Int).toNat; omega)
 ·have : n = 64 := by omega
  subst this
  refine ⟨fun i x => ∃ n : Nat, i = (n : Int) ∧ n ≤ 64 ∧ x = qhD (qeZ a1_b 64) a0_s n, fun i _ => 64 - i.toNat, ⟨0, rfl, by omega, rfl⟩, ?_⟩
  rintro i x ⟨n, rfl, hn, rfl⟩ _ _
  refine ⟨fun hlt => ?_, fun hge => ?_⟩
  ·iterate 14 (all_goals (try intros); all_goals (try omega); all_goals (try (refine And.intro ?_ ?_)))
   all_goals first | trivial | omega | exact ⟨n + 1, by omega, by omega, rfl⟩ | (show 64 - ((n : Int) + 1).toNat < 64 - (n : Int).toNat; omega)
  ·have : n = 64 := by omega
   subst this
   refine ⟨fun i s => ∃ n : Nat, i = (n : Int) ∧ n ≤ 8 ∧ s = addN a0_s (qhD (qeZ a1_b 64) a0_s 64) n, fun i _ => 8 - i.toNat, ⟨0, rfl, by omega, rfl⟩, ?_⟩
   rintro i s ⟨n, rfl, hn, rfl⟩ _ _
   refine ⟨fun hlt => ?_, fun hge => ?_⟩
   ·iterate 14 (all_goals (try intros); all_goals (try omega); all_goals (try (refine And.intro ?_ ?_)))
    all_goals first | trivial | omega | exact ⟨n + 1, by omega, by omega, by simp [addN]⟩ | (show 8 - ((n : Int) + 1).toNat < 8 - (n : Int).toNat; omega)
   ·have : n = 8 := by omega
    subst this
    rfl
theorem qrk : (∀ a, qgR.pre a → PM.wfP qgR.pm a (fvc qpR 200 136 qgR a (eqO qgR a))) = (∀ a : (List Int) × (List UInt8) × Unit, ((a.2.1).length = 64) → (Ty.kd (.arr 8 (.int .u32))).wf a.1 → (Ty.kd (.sl .byte)).wf a.2.1 → qju a.1 a.2.1 (fun o0 => o0 = (qc8 (a.1) (a.2.1)))) := by kernel_rfl
theorem qsX : qgR.valid Try.prog 136 := qaz (X := qpR) (qaV qat (fun b hb => by cases hb; exact qay) qaA ⟨qrn, qo8, trivial⟩) 200 (qrk.mpr fun a hp w_0 w_1 => @qrl a.1 a.2.1 w_0 w_1 hp)
end Go.Proofs.Ytmjjkpiglbpkhaa

set_option linter.unusedVariables false
set_option maxRecDepth 100000
set_option maxHeartbeats 20000000
namespace Go.Proofs.Ytmjjkpiglbpkhaa
open Go Go.RowKit Go.Inc
noncomputable def qcB : Ctr := ⟨[.bx (.pr (.arr 8 (.int .u32)) (.pr (.int .u64) (.sl .byte))) true, .v (.sl (.sl .byte))], [], some (fun a => (fun (a0_h : (List Int) × Int × List UInt8) (a1_parts : List (List UInt8)) => ((1 + a1_parts.length) * 24 ≤ 140737488355328 ∧ (a0_h.2.2 ++ a1_parts.flatten).length ≤ 140737488355328 : Prop)) a.1 a.2.1), fun a => (fun (a0_h : (List Int) × Int × List UInt8) (a1_parts : List (List UInt8)) => ((()), ((qas a0_h a1_parts), ()))) a.1 a.2.1⟩
noncomputable def qjJ : Fx := ⟨seat, some bkT, fns, [(134, qjF), (135, qeC), (136, qgR)], [], [(2, [0], [])], [(6, [0, 1, 2, 3, 4, 5, 6, 7, 8, 9, 10, 11, 12], [.o 0 2, .o 1 2, .o 2 2, .o 3 2, .o 4 2, .o 5 2, .o 6 2, .o 7 2, .o 8 1])]⟩
def qfm (a0_h : (List Int) × Int × List UInt8) (a1_parts : List (List UInt8)) (Q : ((List Int) × Int × List UInt8) → Prop) : Prop :=
 ((a0_h.snd.snd :: ([] : List (List UInt8))).length + a1_parts.length) * (24 : Nat) ≤ (140737488355328 : Nat) ∧ (a0_h.snd.snd :: ([] : List (List UInt8)) ++ a1_parts).flatten.length ≤ (140737488355328 : Nat) ∧ (Ty.byte.kd.sl.wf (a0_h.snd.snd :: ([] : List (List UInt8)) ++ a1_parts).flatten → ∃ (x0 : List Int × Int × List UInt8 → Prop), ∃ (x1 : List Int × Int × List UInt8 → Nat), x0 (a0_h.fst, a0_h.snd.fst, (a0_h.snd.snd :: ([] : List (List UInt8)) ++ a1_parts).flatten) ∧ ∀ (x2 : List Int × Int × List UInt8), x0 x2 → ((Ty.arr (8 : Nat) (Ty.int IntKind.u32)).pr ((Ty.int IntKind.u64).pr Ty.byte.sl)).kd.wf x2 → ((64 : Int) ≤ (x2.snd.snd.length : Int) → (x2.snd.fst = (0 : Int) → (Ty.arr (8 : Nat) (Ty.int IntKind.u32)).kd.wf shaH → ((0 : Int) ≤ (64 : Int) ∧ (64 : Int) ≤ (x2.snd.snd.length : Int)) ∧ (List.take (Int.toNat (64 : Int)) x2.snd.snd).length = (64 : Nat) ∧ ((0 : Int) ≤ (64 : Int) ∧ (64 : Int) ≤ (x2.snd.snd.length : Int)) ∧ x0 (qc8 shaH (List.take (Int.toNat (64 : Int)) x2.snd.snd), IntKind.u64.wrap (x2.snd.fst + (1 : Int)), List.drop (Int.toNat (64 : Int)) x2.snd.snd) ∧ x1 (qc8 shaH (List.take (Int.toNat (64 : Int)) x2.snd.snd), IntKind.u64.wrap (x2.snd.fst + (1 : Int)), List.drop (Int.toNat (64 : Int)) x2.snd.snd) < x1 x2) ∧ (¬x2.snd.fst = (0 : Int) → ((0 : Int) ≤ (64 : Int) ∧ (64 : Int) ≤ (x2.snd.snd.length : Int)) ∧ (List.take (Int.toNat (64 : Int)) x2.snd.snd).length = (64 : Nat) ∧ ((0 : Int) ≤ (64 : Int) ∧ (64 : Int) ≤ (x2.snd.snd.length : Int)) ∧ x0 (qc8 x2.fst (List.take (Int.toNat (64 : Int)) x2.snd.snd), IntKind.u64.wrap (x2.snd.fst + (1 : Int)), List.drop (Int.toNat (64 : Int)) x2.snd.snd) ∧ x1 (qc8 x2.fst (List.take (Int.toNat (64 : Int)) x2.snd.snd), IntKind.u64.wrap (x2.snd.fst + (1 : Int)), List.drop (Int.toNat (64 : Int)) x2.snd.snd) < x1 x2)) ∧ (¬(64 : Int) ≤ (x2.snd.snd.length : Int) → Q x2))
theorem qlr {a0_h : (List Int) × Int × List UInt8} {a1_parts : List (List UInt8)} (w_0 : (Ty.kd (.pr (.arr 8 (.int .u32)) (.pr (.int .u64) (.sl .byte)))).wf a0_h) (w_1 : (Ty.kd (.sl (.sl .byte))).wf a1_parts) (hp : (1 + a1_parts.length) * 24 ≤ 140737488355328 ∧ (a0_h.2.2 ++ a1_parts.flatten).length ≤ 140737488355328) : qfm a0_h a1_parts (fun o0 => o0 = (qas a0_h a1_parts)) := by
 obtain ⟨h1, h2⟩ := hp
 unfold qfm
 refine ⟨by simp only [List.length_cons, List.length_nil]; omega, by simpa using h2, fun _ => ⟨fun b => eat b.1 b.2.1 b.2.2 = qas a0_h a1_parts, fun b => b.2.2.length, by simp [qas], ?_⟩⟩
 rintro ⟨s, n, r⟩ hI hwf
 refine ⟨fun h64 => ?_, fun h64 => ?_⟩
 ·have hl : 64 ≤ r.length := by
   have h : (64 : Int) ≤ (r.length : Int) := h64
   omega
  have ht : (r.take 64).length = 64 := by rw [List.length_take]; omega
  have hd : (r.drop 64).length < r.length := by rw [List.length_drop]; omega
  dsimp only at hI ⊢
  rw [eat, if_pos hl] at hI
  refine ⟨fun h0 _ => ⟨⟨by omega, by omega⟩, ht, ⟨by omega, by omega⟩, ?_, hd⟩, fun h0 => ⟨⟨by omega, by omega⟩, ht, ⟨by omega, by omega⟩, ?_, hd⟩⟩
  ·rw [if_pos h0] at hI
   exact hI
  ·rw [if_neg h0] at hI
   exact hI
 ·have hl : ¬ (64 ≤ r.length) := fun h => h64 (by show (64 : Int) ≤ (r.length : Int); omega)
  dsimp only at hI ⊢
  rw [eat, if_neg hl] at hI
  exact hI
theorem qlq : (∀ a, qcB.pre a → PM.wfP qcB.pm a (fvc qjJ 200 124 qcB a (eqO qcB a))) = (∀ a : ((List Int) × Int × List UInt8) × (List (List UInt8)) × Unit, ((1 + (a.2.1).length) * 24 ≤ 140737488355328 ∧ ((a.1).2.2 ++ (a.2.1).flatten).length ≤ 140737488355328) → (Ty.kd (.pr (.arr 8 (.int .u32)) (.pr (.int .u64) (.sl .byte)))).wf a.1 → (Ty.kd (.sl (.sl .byte))).wf a.2.1 → qfm a.1 a.2.1 (fun o0 => o0 = (qas (a.1) (a.2.1)))) := by kernel_rfl
theorem qjK : qcB.valid Try.prog 124 := qaz (X := qjJ) (qaV qat (fun b hb => by cases hb; exact qay) qaA ⟨qnN, qqR, qsX, trivial⟩) 200 (qlq.mpr fun a hp w_0 w_1 => @qlr a.1 a.2.1 w_0 w_1 hp)
noncomputable def qgo : Ctr := ⟨[.bx (.pr (.arr 8 (.int .u32)) (.pr (.int .u64) (.sl .byte))) false], [.v (.arr 32 .byte)], some (fun a => (fun (a0_h : (List Int) × Int × List UInt8) => (a0_h.2.2.length < 64 : Prop)) a.1), fun a => (fun (a0_h : (List Int) × Int × List UInt8) => (((hSum a0_h), ()), (()))) a.1⟩
noncomputable def qpu : Fx := ⟨seat, some bkT, fns, [(123, qiJ), (137, qel), (138, qgn), (139, qgD), (124, qcB)], [], [(8, [8], [])], [(5, [0, 1, 2, 3, 4, 5, 6, 7, 8, 9, 10, 11, 12], [.o 0 2, .o 2 2, .o 3 2, .o 4 2, .o 5 2, .o 6 2, .o 7 2, .o 8 2, .o 10 2, .o 11 2, .par [1, 9, 12] (.alt 1 0 (.alt 9 0 (.one 12 0 .fin) (.alt 12 0 (.one 9 0 .fin) .fin)) (.alt 9 0 (.alt 1 0 (.one 12 0 .fin) (.alt 12 0 (.one 1 0 .fin) .fin)) (.alt 12 0 (.alt 1 0 (.one 9 0 .fin) (.alt 9 0 (.one 1 0 .fin) .fin)) .fin))), .o 13 0, .o 14 1]), (10, [0, 1, 2, 3, 4, 5, 6, 7, 8, 9, 10, 11, 12], [.o 0 2, .o 1 2, .o 2 2, .o 3 2, .o 4 2, .o 5 0, .o 6 2, .o 7 1])]⟩
def qiG (a0_h : (List Int) × Int × List UInt8) (Q : (List UInt8) → Prop) : Prop :=
 ((Ty.arr (8 : Nat) (Ty.int IntKind.u32)).pr ((Ty.int IntKind.u64).pr Ty.byte.sl)).kd.wf (List.replicate (8 : Nat) (0 : Int), (0 : Int), ([] : List UInt8)) → a0_h.snd.snd.length ≤ (140737488355328 : Nat) ∧ (((Ty.arr (8 : Nat) (Ty.int IntKind.u32)).pr ((Ty.int IntKind.u64).pr Ty.byte.sl)).kd.wf a0_h → (Ty.int IntKind.u64).kd.wf (hLen a0_h) → ((((0 : Int) ≤ (IntKind.i64.wrap ((119 : Int) - (a0_h.snd.snd.length : Int))).tmod (64 : Int) ∧ (IntKind.i64.wrap ((119 : Int) - (a0_h.snd.snd.length : Int))).tmod (64 : Int) ≤ (IntKind.i64.wrap ((119 : Int) - (a0_h.snd.snd.length : Int))).tmod (64 : Int) ∧ ((1 : Nat) : Int) * (IntKind.i64.wrap ((119 : Int) - (a0_h.snd.snd.length : Int))).tmod (64 : Int) ≤ (281474976710656 : Int) ∧ (IntKind.i64.wrap ((119 : Int) - (a0_h.snd.snd.length : Int))).tmod (64 : Int) ≤ (281474976710656 : Int)) ∧ (Ty.byte.kd.sl.wf (be (IntKind.u64.wrap ((8 : Int) * hLen a0_h)).toNat (8 : Nat)) → (((1 : Nat) + ((toB (128 : Int) :: ([] : List UInt8)) :: List.replicate ((IntKind.i64.wrap ((119 : Int) - (a0_h.snd.snd.length : Int))).tmod (64 : Int)).toNat Ty.byte.kd.z :: be (IntKind.u64.wrap ((8 : Int) * hLen a0_h)).toNat (8 : Nat) :: ([] : List (List UInt8))).length) * (24 : Nat) ≤ (140737488355328 : Nat) ∧ (a0_h.snd.snd ++ ((toB (128 : Int) :: ([] : List UInt8)) :: List.replicate ((IntKind.i64.wrap ((119 : Int) - (a0_h.snd.snd.length : Int))).tmod (64 : Int)).toNat Ty.byte.kd.z :: be (IntKind.u64.wrap ((8 : Int) * hLen a0_h)).toNat (8 : Nat) :: ([] : List (List UInt8))).flatten).length ≤ (140737488355328 : Nat)) ∧ ∃ (x0 : Int → List UInt8 → Prop), ∃ (x1 : Int → List UInt8 → Nat), x0 (0 : Int) (Ty.arr (32 : Nat) Ty.byte).kd.z ∧ ∀ (x2 : Int) (x3 : List UInt8), x0 x2 x3 → (Kd.int IntKind.i64).wf x2 → (Ty.arr (32 : Nat) Ty.byte).kd.wf x3 → (x2 < (8 : Int) → ((0 : Int) ≤ x2 ∧ x2 < ((8 : Nat) : Int)) ∧ ((0 : Int) ≤ IntKind.i64.wrap ((4 : Int) * x2) ∧ IntKind.i64.wrap ((4 : Int) * x2) ≤ ((32 : Nat) : Int) ∧ ((32 : Nat) : Int) ≤ ((32 : Nat) : Int) ∧ IntKind.i64.wrap ((4 : Int) * x2) < ((32 : Nat) : Int)) ∧ (Ty.byte.kd.sl.wf (be (ix (qas a0_h ((toB (128 : Int) :: ([] : List UInt8)) :: List.replicate ((IntKind.i64.wrap ((119 : Int) - (a0_h.snd.snd.length : Int))).tmod (64 : Int)).toNat Ty.byte.kd.z :: be (IntKind.u64.wrap ((8 : Int) * hLen a0_h)).toNat (8 : Nat) :: ([] : List (List UInt8)))).fst x2).toNat (8 : Nat)) → ((0 : Int) ≤ (4 : Int) ∧ (4 : Int) ≤ ((be (ix (qas a0_h ((toB (128 : Int) :: ([] : List UInt8)) :: List.replicate ((IntKind.i64.wrap ((119 : Int) - (a0_h.snd.snd.length : Int))).tmod (64 : Int)).toNat Ty.byte.kd.z :: be (IntKind.u64.wrap ((8 : Int) * hLen a0_h)).toNat (8 : Nat) :: ([] : List (List UInt8)))).fst x2).toNat (8 : Nat)).length : Int)) ∧ x2 < (9223372036854775807 : Int) ∧ x0 (x2 + (1 : Int)) (List.take (IntKind.i64.wrap ((4 : Int) * x2)).toNat x3 ++ List.take (((32 : Nat) : Int).toNat - (IntKind.i64.wrap ((4 : Int) * x2)).toNat) (List.drop (Int.toNat (4 : Int)) (be (ix (qas a0_h ((toB (128 : Int) :: ([] : List UInt8)) :: List.replicate ((IntKind.i64.wrap ((119 : Int) - (a0_h.snd.snd.length : Int))).tmod (64 : Int)).toNat Ty.byte.kd.z :: be (IntKind.u64.wrap ((8 : Int) * hLen a0_h)).toNat (8 : Nat) :: ([] : List (List UInt8)))).fst x2).toNat (8 : Nat))) ++ List.drop ((IntKind.i64.wrap ((4 : Int) * x2)).toNat + min (List.drop (Int.toNat (4 : Int)) (be (ix (qas a0_h ((toB (128 : Int) :: ([] : List UInt8)) :: List.replicate ((IntKind.i64.wrap ((119 : Int) - (a0_h.snd.snd.length : Int))).tmod (64 : Int)).toNat Ty.byte.kd.z :: be (IntKind.u64.wrap ((8 : Int) * hLen a0_h)).toNat (8 : Nat) :: ([] : List (List UInt8)))).fst x2).toNat (8 : Nat))).length (((32 : Nat) : Int).toNat - (IntKind.i64.wrap ((4 : Int) * x2)).toNat)) x3) ∧ x1 (x2 + (1 : Int)) (List.take (IntKind.i64.wrap ((4 : Int) * x2)).toNat x3 ++ List.take (((32 : Nat) : Int).toNat - (IntKind.i64.wrap ((4 : Int) * x2)).toNat) (List.drop (Int.toNat (4 : Int)) (be (ix (qas a0_h ((toB (128 : Int) :: ([] : List UInt8)) :: List.replicate ((IntKind.i64.wrap ((119 : Int) - (a0_h.snd.snd.length : Int))).tmod (64 : Int)).toNat Ty.byte.kd.z :: be (IntKind.u64.wrap ((8 : Int) * hLen a0_h)).toNat (8 : Nat) :: ([] : List (List UInt8)))).fst x2).toNat (8 : Nat))) ++ List.drop ((IntKind.i64.wrap ((4 : Int) * x2)).toNat + min (List.drop (Int.toNat (4 : Int)) (be (ix (qas a0_h ((toB (128 : Int) :: ([] : List UInt8)) :: List.replicate ((IntKind.i64.wrap ((119 : Int) - (a0_h.snd.snd.length : Int))).tmod (64 : Int)).toNat Ty.byte.kd.z :: be (IntKind.u64.wrap ((8 : Int) * hLen a0_h)).toNat (8 : Nat) :: ([] : List (List UInt8)))).fst x2).toNat (8 : Nat))).length (((32 : Nat) : Int).toNat - (IntKind.i64.wrap ((4 : Int) * x2)).toNat)) x3) < x1 x2 x3)) ∧ (¬x2 < (8 : Int) → Q x3))) ∧ (Ty.byte.kd.sl.wf (be (IntKind.u64.wrap ((8 : Int) * hLen a0_h)).toNat (8 : Nat)) → ((0 : Int) ≤ (IntKind.i64.wrap ((119 : Int) - (a0_h.snd.snd.length : Int))).tmod (64 : Int) ∧ (IntKind.i64.wrap ((119 : Int) - (a0_h.snd.snd.length : Int))).tmod (64 : Int) ≤ (IntKind.i64.wrap ((119 : Int) - (a0_h.snd.snd.length : Int))).tmod (64 : Int) ∧ ((1 : Nat) : Int) * (IntKind.i64.wrap ((119 : Int) - (a0_h.snd.snd.length : Int))).tmod (64 : Int) ≤ (281474976710656 : Int) ∧ (IntKind.i64.wrap ((119 : Int) - (a0_h.snd.snd.length : Int))).tmod (64 : Int) ≤ (281474976710656 : Int)) ∧ (((1 : Nat) + ((toB (128 : Int) :: ([] : List UInt8)) :: List.replicate ((IntKind.i64.wrap ((119 : Int) - (a0_h.snd.snd.length : Int))).tmod (64 : Int)).toNat Ty.byte.kd.z :: be (IntKind.u64.wrap ((8 : Int) * hLen a0_h)).toNat (8 : Nat) :: ([] : List (List UInt8))).length) * (24 : Nat) ≤ (140737488355328 : Nat) ∧ (a0_h.snd.snd ++ ((toB (128 : Int) :: ([] : List UInt8)) :: List.replicate ((IntKind.i64.wrap ((119 : Int) - (a0_h.snd.snd.length : Int))).tmod (64 : Int)).toNat Ty.byte.kd.z :: be (IntKind.u64.wrap ((8 : Int) * hLen a0_h)).toNat (8 : Nat) :: ([] : List (List UInt8))).flatten).length ≤ (140737488355328 : Nat)) ∧ ∃ (x0 : Int → List UInt8 → Prop), ∃ (x1 : Int → List UInt8 → Nat), x0 (0 : Int) (Ty.arr (32 : Nat) Ty.byte).kd.z ∧ ∀ (x2 : Int) (x3 : List UInt8), x0 x2 x3 → (Kd.int IntKind.i64).wf x2 → (Ty.arr (32 : Nat) Ty.byte).kd.wf x3 → (x2 < (8 : Int) → ((0 : Int) ≤ x2 ∧ x2 < ((8 : Nat) : Int)) ∧ ((0 : Int) ≤ IntKind.i64.wrap ((4 : Int) * x2) ∧ IntKind.i64.wrap ((4 : Int) * x2) ≤ ((32 : Nat) : Int) ∧ ((32 : Nat) : Int) ≤ ((32 : Nat) : Int) ∧ IntKind.i64.wrap ((4 : Int) * x2) < ((32 : Nat) : Int)) ∧ (Ty.byte.kd.sl.wf (be (ix (qas a0_h ((toB (128 : Int) :: ([] : List UInt8)) :: List.replicate ((IntKind.i64.wrap ((119 : Int) - (a0_h.snd.snd.length : Int))).tmod (64 : Int)).toNat Ty.byte.kd.z :: be (IntKind.u64.wrap ((8 : Int) * hLen a0_h)).toNat (8 : Nat) :: ([] : List (List UInt8)))).fst x2).toNat (8 : Nat)) → ((0 : Int) ≤ (4 : Int) ∧ (4 : Int) ≤ ((be (ix (qas a0_h ((toB (128 : Int) :: ([] : List UInt8)) :: List.replicate ((IntKind.i64.wrap ((119 : Int) - (a0_h.snd.snd.length : Int))).tmod (64 : Int)).toNat Ty.byte.kd.z :: be (IntKind.u64.wrap ((8 : Int) * hLen a0_h)).toNat (8 : Nat) :: ([] : List (List UInt8)))).fst x2).toNat (8 : Nat)).length : Int)) ∧ x2 < (9223372036854775807 : Int) ∧ x0 (x2 + (1 : Int)) (List.take (IntKind.i64.wrap ((4 : Int) * x2)).toNat x3 ++ List.take (((32 : Nat) : Int).toNat - (IntKind.i64.wrap ((4 : Int) * x2)).toNat) (List.drop (Int.toNat (4 : Int)) (be (ix (qas a0_h ((toB (128 : Int) :: ([] : List UInt8)) :: List.replicate ((IntKind.i64.wrap ((119 : Int) - (a0_h.snd.snd.length : Int))).tmod (64 : Int)).toNat Ty.byte.kd.z :: be (IntKind.u64.wrap ((8 : Int) * hLen a0_h)).toNat (8 : Nat) :: ([] : List (List UInt8)))).fst x2).toNat (8 : Nat))) ++ List.drop ((IntKind.i64.wrap ((4 : Int) * x2)).toNat + min (List.drop (Int.toNat (4 : Int)) (be (ix (qas a0_h ((toB (128 : Int) :: ([] : List UInt8)) :: List.replicate ((IntKind.i64.wrap ((119 : Int) - (a0_h.snd.snd.length : Int))).tmod (64 : Int)).toNat Ty.byte.kd.z :: be (IntKind.u64.wrap ((8 : Int) * hLen a0_h)).toNat (8 : Nat) :: ([] : List (List UInt8)))).fst x2).toNat (8 : Nat))).length (((32 : Nat) : Int).toNat - (IntKind.i64.wrap ((4 : Int) * x2)).toNat)) x3) ∧ x1 (x2 + (1 : Int)) (List.take (IntKind.i64.wrap ((4 : Int) * x2)).toNat x3 ++ List.take (((32 : Nat) : Int).toNat - (IntKind.i64.wrap ((4 : Int) * x2)).toNat) (List.drop (Int.toNat (4 : Int)) (be (ix (qas a0_h ((toB (128 : Int) :: ([] : List UInt8)) :: List.replicate ((IntKind.i64.wrap ((119 : Int) - (a0_h.snd.snd.length : Int))).tmod (64 : Int)).toNat Ty.byte.kd.z :: be (IntKind.u64.wrap ((8 : Int) * hLen a0_h)).toNat (8 : Nat) :: ([] : List (List UInt8)))).fst x2).toNat (8 : Nat))) ++ List.drop ((IntKind.i64.wrap ((4 : Int) * x2)).toNat + min (List.drop (Int.toNat (4 : Int)) (be (ix (qas a0_h ((toB (128 : Int) :: ([] : List UInt8)) :: List.replicate ((IntKind.i64.wrap ((119 : Int) - (a0_h.snd.snd.length : Int))).tmod (64 : Int)).toNat Ty.byte.kd.z :: be (IntKind.u64.wrap ((8 : Int) * hLen a0_h)).toNat (8 : Nat) :: ([] : List (List UInt8)))).fst x2).toNat (8 : Nat))).length (((32 : Nat) : Int).toNat - (IntKind.i64.wrap ((4 : Int) * x2)).toNat)) x3) < x1 x2 x3)) ∧ (¬x2 < (8 : Int) → Q x3)) ∧ True) ∧ (((0 : Int) ≤ (IntKind.i64.wrap ((119 : Int) - (a0_h.snd.snd.length : Int))).tmod (64 : Int) ∧ (IntKind.i64.wrap ((119 : Int) - (a0_h.snd.snd.length : Int))).tmod (64 : Int) ≤ (IntKind.i64.wrap ((119 : Int) - (a0_h.snd.snd.length : Int))).tmod (64 : Int) ∧ ((1 : Nat) : Int) * (IntKind.i64.wrap ((119 : Int) - (a0_h.snd.snd.length : Int))).tmod (64 : Int) ≤ (281474976710656 : Int) ∧ (IntKind.i64.wrap ((119 : Int) - (a0_h.snd.snd.length : Int))).tmod (64 : Int) ≤ (281474976710656 : Int)) ∧ (Ty.byte.kd.sl.wf (be (IntKind.u64.wrap ((8 : Int) * hLen a0_h)).toNat (8 : Nat)) → (((1 : Nat) + ((toB (128 : Int) :: ([] : List UInt8)) :: List.replicate ((IntKind.i64.wrap ((119 : Int) - (a0_h.snd.snd.length : Int))).tmod (64 : Int)).toNat Ty.byte.kd.z :: be (IntKind.u64.wrap ((8 : Int) * hLen a0_h)).toNat (8 : Nat) :: ([] : List (List UInt8))).length) * (24 : Nat) ≤ (140737488355328 : Nat) ∧ (a0_h.snd.snd ++ ((toB (128 : Int) :: ([] : List UInt8)) :: List.replicate ((IntKind.i64.wrap ((119 : Int) - (a0_h.snd.snd.length : Int))).tmod (64 : Int)).toNat Ty.byte.kd.z :: be (IntKind.u64.wrap ((8 : Int) * hLen a0_h)).toNat (8 : Nat) :: ([] : List (List UInt8))).flatten).length ≤ (140737488355328 : Nat)) ∧ ∃ (x0 : Int → List UInt8 → Prop), ∃ (x1 : Int → List UInt8 → Nat), x0 (0 : Int) (Ty.arr (32 : Nat) Ty.byte).kd.z ∧ ∀ (x2 : Int) (x3 : List UInt8), x0 x2 x3 → (Kd.int IntKind.i64).wf x2 → (Ty.arr (32 : Nat) Ty.byte).kd.wf x3 → (x2 < (8 : Int) → ((0 : Int) ≤ x2 ∧ x2 < ((8 : Nat) : Int)) ∧ ((0 : Int) ≤ IntKind.i64.wrap ((4 : Int) * x2) ∧ IntKind.i64.wrap ((4 : Int) * x2) ≤ ((32 : Nat) : Int) ∧ ((32 : Nat) : Int) ≤ ((32 : Nat) : Int) ∧ IntKind.i64.wrap ((4 : Int) * x2) < ((32 : Nat) : Int)) ∧ (Ty.byte.kd.sl.wf (be (ix (qas a0_h ((toB (128 : Int) :: ([] : List UInt8)) :: List.replicate ((IntKind.i64.wrap ((119 : Int) - (a0_h.snd.snd.length : Int))).tmod (64 : Int)).toNat Ty.byte.kd.z :: be (IntKind.u64.wrap ((8 : Int) * hLen a0_h)).toNat (8 : Nat) :: ([] : List (List UInt8)))).fst x2).toNat (8 : Nat)) → ((0 : Int) ≤ (4 : Int) ∧ (4 : Int) ≤ ((be (ix (qas a0_h ((toB (128 : Int) :: ([] : List UInt8)) :: List.replicate ((IntKind.i64.wrap ((119 : Int) - (a0_h.snd.snd.length : Int))).tmod (64 : Int)).toNat Ty.byte.kd.z :: be (IntKind.u64.wrap ((8 : Int) * hLen a0_h)).toNat (8 : Nat) :: ([] : List (List UInt8)))).fst x2).toNat (8 : Nat)).length : Int)) ∧ x2 < (9223372036854775807 : Int) ∧ x0 (x2 + (1 : Int)) (List.take (IntKind.i64.wrap ((4 : Int) * x2)).toNat x3 ++ List.take (((32 : Nat) : Int).toNat - (IntKind.i64.wrap ((4 : Int) * x2)).toNat) (List.drop (Int.toNat (4 : Int)) (be (ix (qas a0_h ((toB (128 : Int) :: ([] : List UInt8)) :: List.replicate ((IntKind.i64.wrap ((119 : Int) - (a0_h.snd.snd.length : Int))).tmod (64 : Int)).toNat Ty.byte.kd.z :: be (IntKind.u64.wrap ((8 : Int) * hLen a0_h)).toNat (8 : Nat) :: ([] : List (List UInt8)))).fst x2).toNat (8 : Nat))) ++ List.drop ((IntKind.i64.wrap ((4 : Int) * x2)).toNat + min (List.drop (Int.toNat (4 : Int)) (be (ix (qas a0_h ((toB (128 : Int) :: ([] : List UInt8)) :: List.replicate ((IntKind.i64.wrap ((119 : Int) - (a0_h.snd.snd.length : Int))).tmod (64 : Int)).toNat Ty.byte.kd.z :: be (IntKind.u64.wrap ((8 : Int) * hLen a0_h)).toNat (8 : Nat) :: ([] : List (List UInt8)))).fst x2).toNat (8 : Nat))).length (((32 : Nat) : Int).toNat - (IntKind.i64.wrap ((4 : Int) * x2)).toNat)) x3) ∧ x1 (x2 + (1 : Int)) (List.take (IntKind.i64.wrap ((4 : Int) * x2)).toNat x3 ++ List.take (((32 : Nat) : Int).toNat - (IntKind.i64.wrap ((4 : Int) * x2)).toNat) (List.drop (Int.toNat (4 : Int)) (be (ix (qas a0_h ((toB (128 : Int) :: ([] : List UInt8)) :: List.replicate ((IntKind.i64.wrap ((119 : Int) - (a0_h.snd.snd.length : Int))).tmod (64 : Int)).toNat Ty.byte.kd.z :: be (IntKind.u64.wrap ((8 : Int) * hLen a0_h)).toNat (8 : Nat) :: ([] : List (List UInt8)))).fst x2).toNat (8 : Nat))) ++ List.drop ((IntKind.i64.wrap ((4 : Int) * x2)).toNat + min (List.drop (Int.toNat (4 : Int)) (be (ix (qas a0_h ((toB (128 : Int) :: ([] : List UInt8)) :: List.replicate ((IntKind.i64.wrap ((119 : Int) - (a0_h.snd.snd.length : Int))).tmod (64 : Int)).toNat Ty.byte.kd.z :: be (IntKind.u64.wrap ((8 : Int) * hLen a0_h)).toNat (8 : Nat) :: ([] : List (List UInt8)))).fst x2).toNat (8 : Nat))).length (((32 : Nat) : Int).toNat - (IntKind.i64.wrap ((4 : Int) * x2)).toNat)) x3) < x1 x2 x3)) ∧ (¬x2 < (8 : Int) → Q x3)) ∧ (Ty.byte.kd.sl.wf (be (IntKind.u64.wrap ((8 : Int) * hLen a0_h)).toNat (8 : Nat)) → (((1 : Nat) + ((toB (128 : Int) :: ([] : List UInt8)) :: List.replicate ((IntKind.i64.wrap ((119 : Int) - (a0_h.snd.snd.length : Int))).tmod (64 : Int)).toNat Ty.byte.kd.z :: be (IntKind.u64.wrap ((8 : Int) * hLen a0_h)).toNat (8 : Nat) :: ([] : List (List UInt8))).length) * (24 : Nat) ≤ (140737488355328 : Nat) ∧ (a0_h.snd.snd ++ ((toB (128 : Int) :: ([] : List UInt8)) :: List.replicate ((IntKind.i64.wrap ((119 : Int) - (a0_h.snd.snd.length : Int))).tmod (64 : Int)).toNat Ty.byte.kd.z :: be (IntKind.u64.wrap ((8 : Int) * hLen a0_h)).toNat (8 : Nat) :: ([] : List (List UInt8))).flatten).length ≤ (140737488355328 : Nat)) ∧ ∃ (x0 : Int → List UInt8 → Prop), ∃ (x1 : Int → List UInt8 → Nat), x0 (0 : Int) (Ty.arr (32 : Nat) Ty.byte).kd.z ∧ ∀ (x2 : Int) (x3 : List UInt8), x0 x2 x3 → (Kd.int IntKind.i64).wf x2 → (Ty.arr (32 : Nat) Ty.byte).kd.wf x3 → (x2 < (8 : Int) → ((0 : Int) ≤ x2 ∧ x2 < ((8 : Nat) : Int)) ∧ ((0 : Int) ≤ IntKind.i64.wrap ((4 : Int) * x2) ∧ IntKind.i64.wrap ((4 : Int) * x2) ≤ ((32 : Nat) : Int) ∧ ((32 : Nat) : Int) ≤ ((32 : Nat) : Int) ∧ IntKind.i64.wrap ((4 : Int) * x2) < ((32 : Nat) : Int)) ∧ (Ty.byte.kd.sl.wf (be (ix (qas a0_h ((toB (128 : Int) :: ([] : List UInt8)) :: List.replicate ((IntKind.i64.wrap ((119 : Int) - (a0_h.snd.snd.length : Int))).tmod (64 : Int)).toNat Ty.byte.kd.z :: be (IntKind.u64.wrap ((8 : Int) * hLen a0_h)).toNat (8 : Nat) :: ([] : List (List UInt8)))).fst x2).toNat (8 : Nat)) → ((0 : Int) ≤ (4 : Int) ∧ (4 : Int) ≤ ((be (ix (qas a0_h ((toB (128 : Int) :: ([] : List UInt8)) :: List.replicate ((IntKind.i64.wrap ((119 : Int) - (a0_h.snd.snd.length : Int))).tmod (64 : Int)).toNat Ty.byte.kd.z :: be (IntKind.u64.wrap ((8 : Int) * hLen a0_h)).toNat (8 : Nat) :: ([] : List (List UInt8)))).fst x2).toNat (8 : Nat)).length : Int)) ∧ x2 < (9223372036854775807 : Int) ∧ x0 (x2 + (1 : Int)) (List.take (IntKind.i64.wrap ((4 : Int) * x2)).toNat x3 ++ List.take (((32 : Nat) : Int).toNat - (IntKind.i64.wrap ((4 : Int) * x2)).toNat) (List.drop (Int.toNat (4 : Int)) (be (ix (qas a0_h ((toB (128 : Int) :: ([] : List UInt8)) :: List.replicate ((IntKind.i64.wrap ((119 : Int) - (a0_h.snd.snd.length : Int))).tmod (64 : Int)).toNat Ty.byte.kd.z :: be (IntKind.u64.wrap ((8 : Int) * hLen a0_h)).toNat (8 : Nat) :: ([] : List (List UInt8)))).fst x2).toNat (8 : Nat))) ++ List.drop ((IntKind.i64.wrap ((4 : Int) * x2)).toNat + min (List.drop (Int.toNat (4 : Int)) (be (ix (qas a0_h ((toB (128 : Int) :: ([] : List UInt8)) :: List.replicate ((IntKind.i64.wrap ((119 : Int) - (a0_h.snd.snd.length : Int))).tmod (64 : Int)).toNat Ty.byte.kd.z :: be (IntKind.u64.wrap ((8 : Int) * hLen a0_h)).toNat (8 : Nat) :: ([] : List (List UInt8)))).fst x2).toNat (8 : Nat))).length (((32 : Nat) : Int).toNat - (IntKind.i64.wrap ((4 : Int) * x2)).toNat)) x3) ∧ x1 (x2 + (1 : Int)) (List.take (IntKind.i64.wrap ((4 : Int) * x2)).toNat x3 ++ List.take (((32 : Nat) : Int).toNat - (IntKind.i64.wrap ((4 : Int) * x2)).toNat) (List.drop (Int.toNat (4 : Int)) (be (ix (qas a0_h ((toB (128 : Int) :: ([] : List UInt8)) :: List.replicate ((IntKind.i64.wrap ((119 : Int) - (a0_h.snd.snd.length : Int))).tmod (64 : Int)).toNat Ty.byte.kd.z :: be (IntKind.u64.wrap ((8 : Int) * hLen a0_h)).toNat (8 : Nat) :: ([] : List (List UInt8)))).fst x2).toNat (8 : Nat))) ++ List.drop ((IntKind.i64.wrap ((4 : Int) * x2)).toNat + min (List.drop (Int.toNat (4 : Int)) (be (ix (qas a0_h ((toB (128 : Int) :: ([] : List UInt8)) :: List.replicate ((IntKind.i64.wrap ((119 : Int) - (a0_h.snd.snd.length : Int))).tmod (64 : Int)).toNat Ty.byte.kd.z :: be (IntKind.u64.wrap ((8 : Int) * hLen a0_h)).toNat (8 : Nat) :: ([] : List (List UInt8)))).fst x2).toNat (8 : Nat))).length (((32 : Nat) : Int).toNat - (IntKind.i64.wrap ((4 : Int) * x2)).toNat)) x3) < x1 x2 x3)) ∧ (¬x2 < (8 : Int) → Q x3)) ∧ True) ∧ (Ty.byte.kd.sl.wf (be (IntKind.u64.wrap ((8 : Int) * hLen a0_h)).toNat (8 : Nat)) → (((0 : Int) ≤ (IntKind.i64.wrap ((119 : Int) - (a0_h.snd.snd.length : Int))).tmod (64 : Int) ∧ (IntKind.i64.wrap ((119 : Int) - (a0_h.snd.snd.length : Int))).tmod (64 : Int) ≤ (IntKind.i64.wrap ((119 : Int) - (a0_h.snd.snd.length : Int))).tmod (64 : Int) ∧ ((1 : Nat) : Int) * (IntKind.i64.wrap ((119 : Int) - (a0_h.snd.snd.length : Int))).tmod (64 : Int) ≤ (281474976710656 : Int) ∧ (IntKind.i64.wrap ((119 : Int) - (a0_h.snd.snd.length : Int))).tmod (64 : Int) ≤ (281474976710656 : Int)) ∧ (((1 : Nat) + ((toB (128 : Int) :: ([] : List UInt8)) :: List.replicate ((IntKind.i64.wrap ((119 : Int) - (a0_h.snd.snd.length : Int))).tmod (64 : Int)).toNat Ty.byte.kd.z :: be (IntKind.u64.wrap ((8 : Int) * hLen a0_h)).toNat (8 : Nat) :: ([] : List (List UInt8))).length) * (24 : Nat) ≤ (140737488355328 : Nat) ∧ (a0_h.snd.snd ++ ((toB (128 : Int) :: ([] : List UInt8)) :: List.replicate ((IntKind.i64.wrap ((119 : Int) - (a0_h.snd.snd.length : Int))).tmod (64 : Int)).toNat Ty.byte.kd.z :: be (IntKind.u64.wrap ((8 : Int) * hLen a0_h)).toNat (8 : Nat) :: ([] : List (List UInt8))).flatten).length ≤ (140737488355328 : Nat)) ∧ ∃ (x0 : Int → List UInt8 → Prop), ∃ (x1 : Int → List UInt8 → Nat), x0 (0 : Int) (Ty.arr (32 : Nat) Ty.byte).kd.z ∧ ∀ (x2 : Int) (x3 : List UInt8), x0 x2 x3 → (Kd.int IntKind.i64).wf x2 → (Ty.arr (32 : Nat) Ty.byte).kd.wf x3 → (x2 < (8 : Int) → ((0 : Int) ≤ x2 ∧ x2 < ((8 : Nat) : Int)) ∧ ((0 : Int) ≤ IntKind.i64.wrap ((4 : Int) * x2) ∧ IntKind.i64.wrap ((4 : Int) * x2) ≤ ((32 : Nat) : Int) ∧ ((32 : Nat) : Int) ≤ ((32 : Nat) : Int) ∧ IntKind.i64.wrap ((4 : Int) * x2) < ((32 : Nat) : Int)) ∧ (Ty.byte.kd.sl.wf (be (ix (qas a0_h ((toB (128 : Int) :: ([] : List UInt8)) :: List.replicate ((IntKind.i64.wrap ((119 : Int) - (a0_h.snd.snd.length : Int))).tmod (64 : Int)).toNat Ty.byte.kd.z :: be (IntKind.u64.wrap ((8 : Int) * hLen a0_h)).toNat (8 : Nat) :: ([] : List (List UInt8)))).fst x2).toNat (8 : Nat)) → ((0 : Int) ≤ (4 : Int) ∧ (4 : Int) ≤ ((be (ix (qas a0_h ((toB (128 : Int) :: ([] : List UInt8)) :: List.replicate ((IntKind.i64.wrap ((119 : Int) - (a0_h.snd.snd.length : Int))).tmod (64 : Int)).toNat Ty.byte.kd.z :: be (IntKind.u64.wrap ((8 : Int) * hLen a0_h)).toNat (8 : Nat) :: ([] : List (List UInt8)))).fst x2).toNat (8 : Nat)).length : Int)) ∧ x2 < (9223372036854775807 : Int) ∧ x0 (x2 + (1 : Int)) (List.take (IntKind.i64.wrap ((4 : Int) * x2)).toNat x3 ++ List.take (((32 : Nat) : Int).toNat - (IntKind.i64.wrap ((4 : Int) * x2)).toNat) (List.drop (Int.toNat (4 : Int)) (be (ix (qas a0_h ((toB (128 : Int) :: ([] : List UInt8)) :: List.replicate ((IntKind.i64.wrap ((119 : Int) - (a0_h.snd.snd.length : Int))).tmod (64 : Int)).toNat Ty.byte.kd.z :: be (IntKind.u64.wrap ((8 : Int) * hLen a0_h)).toNat (8 : Nat) :: ([] : List (List UInt8)))).fst x2).toNat (8 : Nat))) ++ List.drop ((IntKind.i64.wrap ((4 : Int) * x2)).toNat + min (List.drop (Int.toNat (4 : Int)) (be (ix (qas a0_h ((toB (128 : Int) :: ([] : List UInt8)) :: List.replicate ((IntKind.i64.wrap ((119 : Int) - (a0_h.snd.snd.length : Int))).tmod (64 : Int)).toNat Ty.byte.kd.z :: be (IntKind.u64.wrap ((8 : Int) * hLen a0_h)).toNat (8 : Nat) :: ([] : List (List UInt8)))).fst x2).toNat (8 : Nat))).length (((32 : Nat) : Int).toNat - (IntKind.i64.wrap ((4 : Int) * x2)).toNat)) x3) ∧ x1 (x2 + (1 : Int)) (List.take (IntKind.i64.wrap ((4 : Int) * x2)).toNat x3 ++ List.take (((32 : Nat) : Int).toNat - (IntKind.i64.wrap ((4 : Int) * x2)).toNat) (List.drop (Int.toNat (4 : Int)) (be (ix (qas a0_h ((toB (128 : Int) :: ([] : List UInt8)) :: List.replicate ((IntKind.i64.wrap ((119 : Int) - (a0_h.snd.snd.length : Int))).tmod (64 : Int)).toNat Ty.byte.kd.z :: be (IntKind.u64.wrap ((8 : Int) * hLen a0_h)).toNat (8 : Nat) :: ([] : List (List UInt8)))).fst x2).toNat (8 : Nat))) ++ List.drop ((IntKind.i64.wrap ((4 : Int) * x2)).toNat + min (List.drop (Int.toNat (4 : Int)) (be (ix (qas a0_h ((toB (128 : Int) :: ([] : List UInt8)) :: List.replicate ((IntKind.i64.wrap ((119 : Int) - (a0_h.snd.snd.length : Int))).tmod (64 : Int)).toNat Ty.byte.kd.z :: be (IntKind.u64.wrap ((8 : Int) * hLen a0_h)).toNat (8 : Nat) :: ([] : List (List UInt8)))).fst x2).toNat (8 : Nat))).length (((32 : Nat) : Int).toNat - (IntKind.i64.wrap ((4 : Int) * x2)).toNat)) x3) < x1 x2 x3)) ∧ (¬x2 < (8 : Int) → Q x3)) ∧ (((0 : Int) ≤ (IntKind.i64.wrap ((119 : Int) - (a0_h.snd.snd.length : Int))).tmod (64 : Int) ∧ (IntKind.i64.wrap ((119 : Int) - (a0_h.snd.snd.length : Int))).tmod (64 : Int) ≤ (IntKind.i64.wrap ((119 : Int) - (a0_h.snd.snd.length : Int))).tmod (64 : Int) ∧ ((1 : Nat) : Int) * (IntKind.i64.wrap ((119 : Int) - (a0_h.snd.snd.length : Int))).tmod (64 : Int) ≤ (281474976710656 : Int) ∧ (IntKind.i64.wrap ((119 : Int) - (a0_h.snd.snd.length : Int))).tmod (64 : Int) ≤ (281474976710656 : Int)) ∧ (((1 : Nat) + ((toB (128 : Int) :: ([] : List UInt8)) :: List.replicate ((IntKind.i64.wrap ((119 : Int) - (a0_h.snd.snd.length : Int))).tmod (64 : Int)).toNat Ty.byte.kd.z :: be (IntKind.u64.wrap ((8 : Int) * hLen a0_h)).toNat (8 : Nat) :: ([] : List (List UInt8))).length) * (24 : Nat) ≤ (140737488355328 : Nat) ∧ (a0_h.snd.snd ++ ((toB (128 : Int) :: ([] : List UInt8)) :: List.replicate ((IntKind.i64.wrap ((119 : Int) - (a0_h.snd.snd.length : Int))).tmod (64 : Int)).toNat Ty.byte.kd.z :: be (IntKind.u64.wrap ((8 : Int) * hLen a0_h)).toNat (8 : Nat) :: ([] : List (List UInt8))).flatten).length ≤ (140737488355328 : Nat)) ∧ ∃ (x0 : Int → List UInt8 → Prop), ∃ (x1 : Int → List UInt8 → Nat), x0 (0 : Int) (Ty.arr (32 : Nat) Ty.byte).kd.z ∧ ∀ (x2 : Int) (x3 : List UInt8), x0 x2 x3 → (Kd.int IntKind.i64).wf x2 → (Ty.arr (32 : Nat) Ty.byte).kd.wf x3 → (x2 < (8 : Int) → ((0 : Int) ≤ x2 ∧ x2 < ((8 : Nat) : Int)) ∧ ((0 : Int) ≤ IntKind.i64.wrap ((4 : Int) * x2) ∧ IntKind.i64.wrap ((4 : Int) * x2) ≤ ((32 : Nat) : Int) ∧ ((32 : Nat) : Int) ≤ ((32 : Nat) : Int) ∧ IntKind.i64.wrap ((4 : Int) * x2) < ((32 : Nat) : Int)) ∧ (Ty.byte.kd.sl.wf (be (ix (qas a0_h ((toB (128 : Int) :: ([] : List UInt8)) :: List.replicate ((IntKind.i64.wrap ((119 : Int) - (a0_h.snd.snd.length : Int))).tmod (64 : Int)).toNat Ty.byte.kd.z :: be (IntKind.u64.wrap ((8 : Int) * hLen a0_h)).toNat (8 : Nat) :: ([] : List (List UInt8)))).fst x2).toNat (8 : Nat)) → ((0 : Int) ≤ (4 : Int) ∧ (4 : Int) ≤ ((be (ix (qas a0_h ((toB (128 : Int) :: ([] : List UInt8)) :: List.replicate ((IntKind.i64.wrap ((119 : Int) - (a0_h.snd.snd.length : Int))).tmod (64 : Int)).toNat Ty.byte.kd.z :: be (IntKind.u64.wrap ((8 : Int) * hLen a0_h)).toNat (8 : Nat) :: ([] : List (List UInt8)))).fst x2).toNat (8 : Nat)).length : Int)) ∧ x2 < (9223372036854775807 : Int) ∧ x0 (x2 + (1 : Int)) (List.take (IntKind.i64.wrap ((4 : Int) * x2)).toNat x3 ++ List.take (((32 : Nat) : Int).toNat - (IntKind.i64.wrap ((4 : Int) * x2)).toNat) (List.drop (Int.toNat (4 : Int)) (be (ix (qas a0_h ((toB (128 : Int) :: ([] : List UInt8)) :: List.replicate ((IntKind.i64.wrap ((119 : Int) - (a0_h.snd.snd.length : Int))).tmod (64 : Int)).toNat Ty.byte.kd.z :: be (IntKind.u64.wrap ((8 : Int) * hLen a0_h)).toNat (8 : Nat) :: ([] : List (List UInt8)))).fst x2).toNat (8 : Nat))) ++ List.drop ((IntKind.i64.wrap ((4 : Int) * x2)).toNat + min (List.drop (Int.toNat (4 : Int)) (be (ix (qas a0_h ((toB (128 : Int) :: ([] : List UInt8)) :: List.replicate ((IntKind.i64.wrap ((119 : Int) - (a0_h.snd.snd.length : Int))).tmod (64 : Int)).toNat Ty.byte.kd.z :: be (IntKind.u64.wrap ((8 : Int) * hLen a0_h)).toNat (8 : Nat) :: ([] : List (List UInt8)))).fst x2).toNat (8 : Nat))).length (((32 : Nat) : Int).toNat - (IntKind.i64.wrap ((4 : Int) * x2)).toNat)) x3) ∧ x1 (x2 + (1 : Int)) (List.take (IntKind.i64.wrap ((4 : Int) * x2)).toNat x3 ++ List.take (((32 : Nat) : Int).toNat - (IntKind.i64.wrap ((4 : Int) * x2)).toNat) (List.drop (Int.toNat (4 : Int)) (be (ix (qas a0_h ((toB (128 : Int) :: ([] : List UInt8)) :: List.replicate ((IntKind.i64.wrap ((119 : Int) - (a0_h.snd.snd.length : Int))).tmod (64 : Int)).toNat Ty.byte.kd.z :: be (IntKind.u64.wrap ((8 : Int) * hLen a0_h)).toNat (8 : Nat) :: ([] : List (List UInt8)))).fst x2).toNat (8 : Nat))) ++ List.drop ((IntKind.i64.wrap ((4 : Int) * x2)).toNat + min (List.drop (Int.toNat (4 : Int)) (be (ix (qas a0_h ((toB (128 : Int) :: ([] : List UInt8)) :: List.replicate ((IntKind.i64.wrap ((119 : Int) - (a0_h.snd.snd.length : Int))).tmod (64 : Int)).toNat Ty.byte.kd.z :: be (IntKind.u64.wrap ((8 : Int) * hLen a0_h)).toNat (8 : Nat) :: ([] : List (List UInt8)))).fst x2).toNat (8 : Nat))).length (((32 : Nat) : Int).toNat - (IntKind.i64.wrap ((4 : Int) * x2)).toNat)) x3) < x1 x2 x3)) ∧ (¬x2 < (8 : Int) → Q x3)) ∧ True) ∧ True)
theorem qp9 {a0_h : (List Int) × Int × List UInt8} (w_0 : (Ty.kd (.pr (.arr 8 (.int .u32)) (.pr (.int .u64) (.sl .byte)))).wf a0_h) (hp : a0_h.2.2.length < 64) : qiG a0_h (fun o0 => o0 = (hSum a0_h)) := by
 have wr : ∀ a : Int, -1000 ≤ a → a ≤ 1000 → IntKind.i64.wrap a = a := fun a h1 h2 => qaD (wf64 (by omega) (by omega))
 have hk : Int.tmod (IntKind.i64.wrap (119 - (a0_h.2.2.length : Int))) 64 = ((119 - (a0_h.2.2.length : Int)) % 64) := by
  rw [wr _ (by omega) (by omega), Int.tmod_eq_emod_of_nonneg (by omega)]
 have hsum : ∀ n, (sumN (qas a0_h (qhB a0_h)).1 n).length = 32 := by
  intro n
  induction n with
  | zero => simp [sumN]
  | succ n ih =>
    simp only [sumN, List.length_append, List.length_take, List.length_drop, ih, qaF]
    omega
 have hp' : [[toB 128], List.replicate ((119 - (a0_h.2.2.length : Int)) % 64).toNat Ty.byte.kd.z, be (IntKind.u64.wrap (8 * hLen a0_h)).toNat 8] = qhB a0_h := by unfold qhB; rw [hk]; rfl
 unfold qiG
 rw [hk, hp']
 intro _
 refine ⟨by omega, fun _ _ => ?_⟩
 repeat' (first | apply And.intro | intro _)
 all_goals first | trivial | omega | (simp only [← hp', List.length_cons, List.length_nil, List.length_append, List.flatten_cons, List.flatten_nil, List.length_replicate, qaF]; omega) | skip
 all_goals
  refine ⟨fun i b => ∃ n : Nat, i = (n : Int) ∧ n ≤ 8 ∧ b = sumN (qas a0_h (qhB a0_h)).1 n, fun i _ => 8 - i.toNat, ⟨0, rfl, by omega, rfl⟩, ?_⟩
  rintro i b ⟨n, rfl, hn, rfl⟩ _ _
  refine ⟨fun hlt => ?_, fun hge => ?_⟩
  ·rw [wr (4 * (n : Int)) (by omega) (by omega)]
   have e4 : (4 * (n : Int)).toNat = 4 * n := by omega
   rw [e4]
   refine ⟨⟨by omega, hlt⟩, ⟨by omega, by omega, by omega, by omega⟩, fun _ => ⟨⟨by omega, by rw [qaF]; omega⟩, by omega, ⟨n + 1, by omega, by omega, rfl⟩, ?_⟩⟩
   show 8 - ((n : Int) + 1).toNat < 8 - (n : Int).toNat
   omega
  ·have : n = 8 := by omega
   subst this
   rfl
theorem qp8 : (∀ a, qgo.pre a → PM.wfP qgo.pm a (fvc qpu 200 125 qgo a (eqO qgo a))) = (∀ a : ((List Int) × Int × List UInt8) × Unit, ((a.1).2.2.length < 64) → (Ty.kd (.pr (.arr 8 (.int .u32)) (.pr (.int .u64) (.sl .byte)))).wf a.1 → qiG a.1 (fun o0 => o0 = (hSum (a.1)))) := by kernel_rfl
theorem qrF : qgo.valid Try.prog 125 := qaz (X := qpu) (qaV qat (fun b hb => by cases hb; exact qay) qaA ⟨qrJ, qp5, qrE, qsJ, qjK, trivial⟩) 200 (qp8.mpr fun a hp w_0 => @qp9 a.1 w_0 hp)
noncomputable def qdX : Ctr := ⟨[.v (.sl (.sl .byte))], [.v (.arr 32 .byte)], some (fun a => (fun (a0_parts : List (List UInt8)) => ((1 + a0_parts.length) * 24 ≤ 140737488355328 ∧ a0_parts.flatten.length ≤ 140737488355328 : Prop)) a.1), fun a => (fun (a0_parts : List (List UInt8)) => (((qa1 a0_parts), ()), (()))) a.1⟩
noncomputable def qjO : Fx := ⟨seat, some bkT, fns, [(123, qiJ), (124, qcB), (125, qgo)], [], [], []⟩
def qfr (a0_parts : List (List UInt8)) (Q : (List UInt8) → Prop) : Prop :=
 ((Ty.arr (8 : Nat) (Ty.int IntKind.u32)).pr ((Ty.int IntKind.u64).pr Ty.byte.sl)).kd.wf (List.replicate (8 : Nat) (0 : Int), (0 : Int), ([] : List UInt8)) → (((1 : Nat) + a0_parts.length) * (24 : Nat) ≤ (140737488355328 : Nat) ∧ (([] : List UInt8) ++ a0_parts.flatten).length ≤ (140737488355328 : Nat)) ∧ (qas (List.replicate (8 : Nat) (0 : Int), (0 : Int), ([] : List UInt8)) a0_parts).snd.snd.length < (64 : Nat) ∧ ((Ty.arr (32 : Nat) Ty.byte).kd.wf (hSum (qas (List.replicate (8 : Nat) (0 : Int), (0 : Int), ([] : List UInt8)) a0_parts)) → Q (hSum (qas (List.replicate (8 : Nat) (0 : Int), (0 : Int), ([] : List UInt8)) a0_parts)))
theorem qlI {a0_parts : List (List UInt8)} (w_0 : (Ty.kd (.sl (.sl .byte))).wf a0_parts) (hp : (1 + a0_parts.length) * 24 ≤ 140737488355328 ∧ a0_parts.flatten.length ≤ 140737488355328) : qfr a0_parts (fun o0 => o0 = (qa1 a0_parts)) := by
 unfold qfr
 exact fun _ => ⟨⟨hp.1, hp.2⟩, qov _ _ _, fun _ => rfl⟩
theorem qlH : (∀ a, qdX.pre a → PM.wfP qdX.pm a (fvc qjO 200 110 qdX a (eqO qdX a))) = (∀ a : (List (List UInt8)) × Unit, ((1 + (a.1).length) * 24 ≤ 140737488355328 ∧ (a.1).flatten.length ≤ 140737488355328) → (Ty.kd (.sl (.sl .byte))).wf a.1 → qfr a.1 (fun o0 => o0 = (qa1 (a.1)))) := by kernel_rfl
theorem qn4 : qdX.valid Try.prog 110 := qaz (X := qjO) (qaV qat (fun b hb => by cases hb; exact qay) qaA ⟨qrJ, qjK, qrF, trivial⟩) 200 (qlH.mpr fun a hp w_0 => @qlI a.1 w_0 hp)
end Go.Proofs.Ytmjjkpiglbpkhaa

set_option linter.unusedVariables false
set_option maxRecDepth 100000
set_option maxHeartbeats 2000000
namespace Go.Proofs.Ytmjjkpiglbpkhaa
open Go Go.RowKit Go.Inc
theorem qo5 {θ : Th} {n : Nat} {K : Ghost} {s : SVal} {v : Value} (h : s.rel θ n K v) : SVal.relL θ n K [s] [v] := ⟨v, [], rfl, h, rfl⟩
theorem qo6 {θ : Th} {n : Nat} {K : Ghost} {s s' : SVal} {v v' : Value} (h : s.rel θ n K v) (h' : s'.rel θ n K v') : SVal.relL θ n K [s, s'] [v, v'] := ⟨v, [v'], rfl, h, qo5 h'⟩
theorem qpZ {w0 : World} {K0 : Ghost} {a0_s_v : Value} {a0_s : (List UInt8)} (hM0 : Models w0 K0) (h_a0_s : qao.V K0 a0_s a0_s_v) (hp : a0_s.length ≤ 140737488355328) : Calls Try.prog 69 #[a0_s_v] w0 (fun e w' => ∃ (K' : Ghost) (r0 : Value), e = .returned r0 ∧ Ext NX w0 K0 w' K' ∧ Models w' K' ∧ Own Kd.byte 5 w' K' a0_s r0 ∧ (∀ g, ob r0 = some g → w0.heap.size ≤ g)) :=
 qpk (k := .byte) qek (fun _ => rfl) (a := (a0_s, ())) (vs := [a0_s_v]) hp hM0 fun θ => qo5 (SVal.of_rel (t := .sl .byte) h_a0_s)
theorem qp0 {w0 : World} {K0 : Ghost} {a0_a_v : Value} {a0_a : (List UInt8)} {a1_b_v : Value} {a1_b : (List UInt8)} (hM0 : Models w0 K0) (h_a0_a : qao.V K0 a0_a a0_a_v) (h_a1_b : qao.V K0 a1_b a1_b_v) : Calls Try.prog 85 #[a0_a_v, a1_b_v] w0 (fun e w' => ∃ (K' : Ghost) (r0 : Value), e = .returned r0 ∧ Ext NX w0 K0 w' K' ∧ Models w' K' ∧ Kd.bool.V K' (decide (a0_a = a1_b)) r0) :=
 un_v (t := .bool) qp1 (fun _ => rfl) (fun _ => rfl) (a := (a0_a, a1_b, ())) (vs := [a0_a_v, a1_b_v]) trivial hM0 fun θ => qo6 (SVal.of_rel (t := .sl .byte) h_a0_a) (SVal.of_rel (t := .sl .byte) h_a1_b)
theorem qgq {w0 : World} {K0 : Ghost} {a0_kind_v : Value} {a0_kind : Int} {a1_parts_v : Value} {a1_parts : (List (List UInt8))} (hM0 : Models w0 K0) (h_a0_kind : (Kd.int .i64).V K0 a0_kind a0_kind_v) (h_a1_parts : qa0.V K0 a1_parts a1_parts_v) (hp : 1 + qai a1_parts ≤ 140737488355328) : Calls Try.prog 98 #[a0_kind_v, a1_parts_v] w0 (fun e w' => ∃ (K' : Ghost) (r0 : Value), e = .returned r0 ∧ Ext NX w0 K0 w' K' ∧ Models w' K' ∧ Own Kd.byte 5 w' K' (preimage a0_kind a1_parts) r0 ∧ (∀ g, ob r0 = some g → w0.heap.size ≤ g)) :=
 qpk (k := .byte) qkE (fun _ => rfl) (a := (a0_kind, a1_parts, ())) (vs := [a0_kind_v, a1_parts_v]) hp hM0 fun θ => qo6 (SVal.of_rel (t := .int .i64) h_a0_kind) (SVal.of_rel (t := .sl (.sl .byte)) h_a1_parts)
theorem qjP {w0 : World} {K0 : Ghost} {a0_parts_v : Value} {a0_parts : (List (List UInt8))} (hM0 : Models w0 K0) (h_a0_parts : qa0.V K0 a0_parts a0_parts_v) (hp : (1 + a0_parts.length) * 24 ≤ 140737488355328 ∧ a0_parts.flatten.length ≤ 140737488355328) : Calls Try.prog 110 #[a0_parts_v] w0 (fun e w' => ∃ (K' : Ghost) (r0 : Value), e = .returned r0 ∧ Ext NX w0 K0 w' K' ∧ Models w' K' ∧ (Kd.arr 32 Kd.byte).V K' (qa1 a0_parts) r0) :=
 un_v (t := .arr 32 .byte) qn4 (fun _ => rfl) (fun _ => rfl) (a := (a0_parts, ())) (vs := [a0_parts_v]) hp hM0 fun θ => qo5 (SVal.of_rel (t := .sl (.sl .byte)) h_a0_parts)
end Go.Proofs.Ytmjjkpiglbpkhaa
