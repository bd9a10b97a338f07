/- P18, P19, P20, P14, G1, K1, S1, S2, S3, K2, G2, K3. -/
import Derived.Test.YtmjjkpiglbpkhaaM4
import Derived.Test.YtmjjkpiglbpkhaaM1
import Derived.Test.YtmjjkpiglbpkhaaChecked
set_option linter.unusedVariables false
namespace Go.Inc
open Go
theorem qpp {l : List Pk} {i : Nat} (h : i < l.length) : ix (qam l) (i : Int) = qaK l[i] := by
 rw [ixN (by rw [qaP]; exact h)]
 simp [qam]
theorem qc5 {l : List Pk} {i : Nat} (h : i < l.length) : qaM (l.length : Int) (qdN l i).1 (qdN l i).2.2 = true ∧ qaG (l.length : Int) (qdN l i).1 (qaK (qdN l i).2.1) (qdN l i).2.2 = qaD (qam l) := by
 have hr : (0 : Int) ≤ (i : Int) ∧ (i : Int) < ((qam l).length : Int) := by rw [qaP]; omega
 have h1 := qhW hr
 have h2 := qnh hr
 rw [qaP] at h1 h2
 rw [qpp h] at h2
 refine ⟨h1, ?_⟩
 show qaG (l.length : Int) (i : Int) (qaK (ix l (i : Int))) (qbR (qam l) (i : Int)) = _
 rw [ixN h]
 exact h2
theorem qk4 {l : List Pk} {key : By} (hm : mayK l = true) : isK l key = true ↔ ∃ (i : Nat) (h : i < l.length), l[i].1 = key := by
 unfold isK
 simp only [Bool.and_eq_true, decide_eq_true_eq]
 refine ⟨fun ⟨h1, h2⟩ => ⟨_, h1, by rw [ixN h1] at h2; exact h2⟩, fun ⟨i, h, he⟩ => ?_⟩
 have e : lowK l key = i := qiY (Nat.le_of_lt h) (fun t ht hti => by rw [← he]; exact qcr ht h hm hti) (fun _ => by rw [he]; exact qaY key)
 refine ⟨by rw [e]; exact h, ?_⟩
 simp only [e]
 rw [ixN h]
 exact he
theorem qkY {n : Int} {x : Sp} {t r : Sm} (h1 : qaM n x.1 x.2.2 = true) (h2 : qaG n x.1 (qaK x.2.1) x.2.2 = r) : goK n true [x] t = some r := by
 rw [goK, if_pos ⟨h1, .inl rfl⟩, h2, goK]
theorem quE {n : Int} {x y : Sp} {t r : Sm} (h1 : qaM n x.1 x.2.2 = true) (h2 : qaG n x.1 (qaK x.2.1) x.2.2 = r) (h3 : qaM n y.1 y.2.2 = true) (h4 : qaG n y.1 (qaK y.2.1) y.2.2 = r) : goK n true [x, y] t = some r := by
 rw [goK, if_pos ⟨h1, .inl rfl⟩, h2, goK, if_pos ⟨h3, .inr h4⟩, h4, goK]
theorem qns {l : List Pk} {key : By} (hm : mayK l = true) : qdn (qa4 l) key (qaI l key) = some (isK l key) ∧ (isK l key = true → ix (qaI l key).2 0 = qdN l (lowK l key)) := by
 have hle := qk9 l key
 have fin : ∀ (L : List Sp) (b : Bool), qbH key ((l.length : Int), L) = (b, true) → goK (l.length : Int) true L (begK (l.length : Int)) = some (qaD (qam l)) → qdn (qa4 l) key ((l.length : Int), L) = some b := fun L b h1 h2 => by
  unfold qdn
  rw [h1, if_pos ⟨rfl, Int.natCast_nonneg _⟩, h2]
  show (if qbr (l.length : Int) (qaD (qam l)) = qa4 l then some b else none) = some b
  rw [if_pos (show qbr (l.length : Int) (qaD (qam l)) = qa4 l from rfl)]
 have eshow : qaI l key = ((l.length : Int), (List.range' (qbz l key) (toK l key - qbz l key)).map (qdN l)) := by unfold qaI; rw [if_pos hm]
 rw [eshow]
 cases hi : isK l key with
 | true =>
   have hi' := hi
   unfold isK at hi'
   simp only [Bool.and_eq_true, decide_eq_true_eq] at hi'
   obtain ⟨hp, hk⟩ := hi'
   have e1 : qbz l key = lowK l key := by unfold qbz; rw [if_pos hi]
   have e2 : toK l key - qbz l key = 1 := by rw [e1]; unfold toK; omega
   rw [e2, e1]
   obtain ⟨s1, s2⟩ := qc5 hp
   refine ⟨fin _ _ ?_ (qkY s1 s2), fun _ => rfl⟩
   have hc : cmpB key (ix l (lowK l key : Int)).1 = 0 := qfv.2 hk.symm
   exact Prod.ext (decide_eq_true hc) (decide_eq_true (.inl hc))
 | false =>
   refine ⟨?_, fun h => by cases h⟩
   have e1 : qbz l key = lowK l key - 1 := by unfold qbz; rw [hi]; rfl
   have hne : ∀ h : lowK l key < l.length, l[lowK l key].1 ≠ key := fun h he => by
    have : isK l key = true := (qk4 hm).2 ⟨_, h, he⟩
    rw [hi] at this; cases this
   rcases Nat.eq_zero_or_pos l.length with h0 | h0
   ·have e0 : l = [] := List.length_eq_zero_iff.1 h0
    subst e0
    exact fin [] false rfl rfl
   rcases Nat.eq_zero_or_pos (lowK l key) with hz | hz
   ·have e2 : toK l key - qbz l key = 1 := by rw [e1]; unfold toK; omega
    rw [e2, e1, hz]
    obtain ⟨s1, s2⟩ := qc5 (l := l) (i := 0) h0
    refine fin _ _ ?_ (qkY s1 s2)
    have hs : sless key l[0].1 = true := by
     have h1 := qk8 (l := l) (key := key) (by omega)
     have h2 := hne (by omega)
     simp only [hz] at h1 h2
     exact qe4 h1 h2
    have hc : cmpB key l[0].1 < 0 := qcb.2 hs
    refine Prod.ext (decide_eq_false ?_) (decide_eq_true (.inr (.inl ⟨?_, rfl⟩)))
    ·show ¬ cmpB key (ix l ((0 : Nat) : Int)).1 = 0
     rw [ixN h0]
     omega
    ·show cmpB key (ix l ((0 : Nat) : Int)).1 < 0
     rw [ixN h0]
     exact hc
   rcases Nat.lt_or_ge (lowK l key) l.length with hp | hp
   ·have e2 : toK l key - qbz l key = 2 := by rw [e1]; unfold toK; omega
    rw [e2, e1]
    obtain ⟨s1, s2⟩ := qc5 (l := l) (i := lowK l key - 1) (by omega)
    obtain ⟨s3, s4⟩ := qc5 (l := l) (i := lowK l key) hp
    have ea : (List.range' (lowK l key - 1) 2).map (qdN l) = [qdN l (lowK l key - 1), qdN l (lowK l key)] := by
     simp only [List.range', List.map_cons, List.map_nil]
     rw [show lowK l key - 1 + 1 = lowK l key from by omega]
    rw [ea]
    refine fin _ _ ?_ (quE s1 s2 s3 s4)
    have ha : sless l[lowK l key - 1].1 key = true := qla (l := l) (by omega) (by omega)
    have hb : sless key l[lowK l key].1 = true := qe4 (qk8 hp) (hne hp)
    refine Prod.ext rfl (decide_eq_true ⟨?_, ?_, ?_, ?_, ?_⟩)
    ·show (0 : Int) ≤ ((lowK l key - 1 : Nat) : Int); omega
    ·show ((lowK l key - 1 : Nat) : Int) < (lowK l key : Int); omega
    ·show (lowK l key : Int) - ((lowK l key - 1 : Nat) : Int) = 1; omega
    ·show cmpB (ix l ((lowK l key - 1 : Nat) : Int)).1 key < 0
     rw [ixN (by omega)]
     exact qcb.2 ha
    ·show cmpB key (ix l (lowK l key : Int)).1 < 0
     rw [ixN hp]
     exact qcb.2 hb
   ·have ep : lowK l key = l.length := by omega
    have e2 : toK l key - qbz l key = 1 := by rw [e1]; unfold toK; omega
    rw [e2, e1, ep]
    obtain ⟨s1, s2⟩ := qc5 (l := l) (i := l.length - 1) (by omega)
    refine fin _ _ ?_ (qkY s1 s2)
    have ha : sless l[l.length - 1].1 key = true := qla (l := l) (by omega) (by omega)
    have hc : 0 < cmpB key l[l.length - 1].1 := qkO.2 ha
    refine Prod.ext (decide_eq_false ?_) (decide_eq_true (.inr (.inr ⟨?_, ?_⟩)))
    ·show ¬ cmpB key (ix l ((l.length - 1 : Nat) : Int)).1 = 0
     rw [ixN (by omega)]
     omega
    ·show 0 < cmpB key (ix l ((l.length - 1 : Nat) : Int)).1
     rw [ixN (by omega)]
     exact hc
    ·show ((l.length - 1 : Nat) : Int) = (l.length : Int) - 1; omega
def qaS (b : qaj) (l : List Pk) : qaj := l.foldl (fun b p => qaB b 4 [p.1, p.2]) b
def qhe (b : qaj) (l : List Pk) : qaj := qaB (qaX (qaS b l) (qam l)) 5 [numB l.length, qaD (qam l)]
theorem qcq : ∀ {l : List Pk} {b : qaj}, b.isSome = true → (qaS b l).isSome = true
 | [], b, h => h
 | p :: l, b, h => qcq (l := l) (qaL h)
theorem bkIn.leaves : ∀ {l : List Pk} {N : List Nt} {b : qaj}, bkIn N (qaS b l) → bkIn N b
 | [], N, b, h => h
 | p :: l, N, b, h => (bkIn.leaves (l := l) h).of
theorem bkIn.leaf : ∀ {l : List Pk} {N : List Nt} {b : qaj}, b.isSome = true → bkIn N (qaS b l) → ∀ p ∈ l, (qaK p, preimage 4 [p.1, p.2]) ∈ N
 | [], N, b, hb, h, p, hp => by cases hp
 | q :: l, N, b, hb, h, p, hp => by
   rcases List.mem_cons.1 hp with rfl | hp
   ·exact (bkIn.leaves (l := l) h).node hb
   ·exact bkIn.leaf (l := l) (qaL hb) h p hp
theorem qcG.parts {N : List Nt} (hN : qcG N) {k : Int} {a b : List By} (h1 : (qal k a, preimage k a) ∈ N) (h2 : (qal k b, preimage k b) ∈ N) (he : qal k a = qal k b) (ha : ∀ x ∈ a, x.length < 2 ^ 64) (hb : ∀ x ∈ b, x.length < 2 ^ 64) : a = b := by
 rw [he] at h1
 exact ((qga ha hb).1 (hN _ _ _ h1 h2)).2
theorem bkIn.foldK : ∀ {A : List Int} {P : List Sm} {s : Sm} {x : qaj} {N : List Nt}, bkIn N (foldK A P s x) → bkIn N x
 | [], P, s, x, N, h => by simpa [Go.Inc.foldK] using h
 | _ :: _, [], s, x, N, h => by simpa [Go.Inc.foldK] using h
 | a :: A, p :: P, s, x, N, h => by
   simp only [Go.Inc.foldK] at h
   have := bkIn.foldK h
   split at this
   ·exact this.of
   ·exact this.of
theorem bkIn.leadK {n a : Int} {P : List Sm} {s : Sm} {x : qaj} {N : List Nt} (h : bkIn N (leadK x n a s P)) : bkIn N x := by
 unfold Go.Inc.leadK at h
 split at h
 ·exact h.foldK
 ·exact h
theorem qdG {n a : Int} {P : List Sm} {s : Sm} {x : qaj} (hx : x.isSome = true) : (leadK x n a s P).isSome = true := by
 unfold leadK
 split
 ·exact qcA hx
 ·exact hx
theorem bkIn.go : ∀ {l : List Sp} {n : Int} {f : Bool} {t : Sm} {b : qaj} {N : List Nt}, bkIn N (goBk n f l t b) → bkIn N b
 | [], n, f, t, b, N, h => by simpa [goBk] using h
 | x :: l, n, f, t, b, N, h => by
   simp only [goBk] at h
   split at h
   ·exact (bkIn.leadK (bkIn.go (l := l) h)).of
   ·exact (bkIn.leadK h).of
theorem qgX : ∀ {l : List Sp} {n : Int} {f : Bool} {t : Sm} {b : qaj}, b.isSome = true → (goBk n f l t b).isSome = true
 | [], n, f, t, b, h => by simpa [goBk] using h
 | x :: l, n, f, t, b, h => by
   simp only [goBk]
   split
   ·exact qgX (l := l) (qdG (qaL h))
   ·exact qdG (qaL h)
theorem qmk : ∀ {l : List Sp} {n : Int} {f : Bool} {t r : Sm} {b : qaj} {N : List Nt}, b.isSome = true → goK n f l t = some r → bkIn N (goBk n f l t b) → (f = true ∨ t = r ∨ l ≠ []) ∧ ∀ x ∈ l, qaM n x.1 x.2.2 = true ∧ qaG n x.1 (qaK x.2.1) x.2.2 = r ∧ (qaK x.2.1, preimage 4 [x.2.1.1, x.2.1.2]) ∈ N ∧ ∃ y : qaj, y.isSome = true ∧ bkIn N (foldK (qaA n.toNat x.1.toNat).reverse x.2.2 (qaK x.2.1) y)
 | [], n, f, t, r, b, N, hb, hg, h => by
   simp only [goK, Option.some.injEq] at hg
   exact ⟨.inr (.inl hg), fun x hx => by cases hx⟩
 | x :: l, n, f, t, r, b, N, hb, hg, h => by
   refine ⟨.inr (.inr (by simp)), ?_⟩
   simp only [goK, goBk] at hg h
   split at hg
   ·rename_i hc
    rw [if_pos hc] at h
    have hlb : (leadK (qaB b 4 [x.2.1.1, x.2.1.2]) n x.1 (qaK x.2.1) x.2.2).isSome = true := qdG (qaL hb)
    obtain ⟨h1, h2⟩ := qmk (l := l) hlb hg h
    have hin := bkIn.go (l := l) h
    have hr : qaG n x.1 (qaK x.2.1) x.2.2 = r := by
     rcases h1 with h1 | h1 | h1
     ·cases h1
     ·exact h1
     ·cases l with
      | nil => exact absurd rfl h1
      | cons z l =>
        obtain ⟨k1, k2, _⟩ := h2 z List.mem_cons_self
        simp only [goK] at hg
        split at hg
        ·rename_i hc2
         rcases hc2.2 with h3 | h3
         ·cases h3
         ·rw [← h3, k2]
        ·cases hg
    intro z hz
    rcases List.mem_cons.1 hz with rfl | hz
    ·refine ⟨hc.1, hr, (bkIn.leadK hin).node hb, qaB b 4 [z.2.1.1, z.2.1.2], qaL hb, ?_⟩
     unfold leadK at hin
     rw [if_pos hc.1] at hin
     exact hin
    ·exact h2 z hz
   ·cases hg
theorem qph : ∀ {l : List Sp} {n : Int} {f : Bool} {t r : Sm}, goK n f l t = some r → t.length = 32 → (∀ x ∈ l, (qaG n x.1 (qaK x.2.1) x.2.2).length = 32) → r.length = 32
 | [], n, f, t, r, h, ht, _ => by
   simp only [goK, Option.some.injEq] at h
   rw [← h]; exact ht
 | x :: l, n, f, t, r, h, ht, hl => by
   simp only [goK] at h
   split at h
   ·exact qph (l := l) h (hl x List.mem_cons_self) (fun z hz => hl z (List.mem_cons_of_mem _ hz))
   ·cases h
theorem qpF {n a : Int} {s : Sm} {P : List Sm} (h : s.length = 32) : (qaG n a s P).length = 32 := by
 unfold qaG
 split
 ·exact qeS _ _ _ h
 ·rfl
theorem qrC (n : Int) : (begK n).length = 32 := by
 unfold begK
 split
 ·exact qbA (by simp)
 ·rfl
theorem qjO {l : List Pk} {key : By} (hm : mayK l = true) (h : ∀ (i : Nat) (h : i < l.length), l[i].1 ≠ key) : isK l key = false := by
 cases hi : isK l key with
 | false => rfl
 | true =>
   obtain ⟨i, hi1, hi2⟩ := (qk4 hm).1 hi
   exact absurd hi2 (h i hi1)
theorem qtc {l : List Pk} {key : By} (hm : mayK l = true) {i : Nat} (h : i < l.length) (he : l[i].1 = key) : isK l key = true ∧ lowK l key = i :=
 ⟨(qk4 hm).2 ⟨i, h, he⟩, qiY (Nat.le_of_lt h) (fun t ht hti => by rw [← he]; exact qcr ht h hm hti) (fun _ => by rw [he]; exact qaY key)⟩
theorem qnj {N : List Nt} (hN : qcG N) {l : List Pk} {key : By} {s : Sn} {x y : qaj} {b : Bool} (hm : mayK l = true) (hx : x.isSome = true) (hy : y.isSome = true) (hR : bkIn N (qhe x l)) (hF : bkIn N (qpH y key s)) (ll : l.length < 2 ^ 64) (ls : s.1.toNat < 2 ^ 64)
 (wl : ∀ p ∈ l, p.1.length < 2 ^ 64 ∧ p.2.length < 2 ^ 64) (ws : ∀ p ∈ s.2, (p.2.1.1.length < 2 ^ 64 ∧ p.2.1.2.length < 2 ^ 64) ∧ ∀ z ∈ p.2.2, z.length = 32) (h : qdn (qa4 l) key s = some b) : b = isK l key ∧ (b = true → (ix s.2 0).2.1.2 = (ix l (lowK l key : Int)).2) := by
 unfold qdn at h
 split at h
 ·rename_i hs
  unfold qpH at hF
  rw [if_pos hs] at hF
  split at h
  ·rename_i t ht
   rw [ht] at hF
   simp only at hF
   split at h
   ·rename_i hroot
    cases h
    have hyb : (qrB s.1 y).isSome = true := by
     unfold qrB
     split
     ·exact qaL hy
     ·exact hy
    have hgs := qgX (l := s.2) (n := s.1) (f := true) (t := begK s.1) hyb
    obtain ⟨h1, h2⟩ := qmk hyb ht hF.of
    have ht32 : t.length = 32 := qph ht (qrC _) (fun z hz => qpF (qaT _ _))
    have hxr := qbQ (qam l).length (l := qam l) (x := qaS x l) (Nat.le_refl _) (qcq hx)
    have hw := hN.parts (hF.node hgs) (hR.node hxr) hroot (by
     intro z hz
     rcases List.mem_cons.1 hz with rfl | hz
     ·exact Nat.lt_of_le_of_lt (qbp ls) (by decide)
     ·rcases List.mem_cons.1 hz with rfl | hz
      ·rw [ht32]; decide
      ·cases hz) (by
     intro z hz
     rcases List.mem_cons.1 hz with rfl | hz
     ·exact Nat.lt_of_le_of_lt (qbp ll) (by decide)
     ·rcases List.mem_cons.1 hz with rfl | hz
      ·rw [qbA (qhX l)]; decide
      ·cases hz)
    simp only [List.cons.injEq, and_true] at hw
    have hn : s.1.toNat = l.length := (qmw ls ll (x := []) (y := []) (by rw [hw.1])).1
    have hs1 : s.1 = (l.length : Int) := by omega
    have hall : ∀ p ∈ s.2, ∃ (i : Nat) (h : i < l.length), p.1 = (i : Int) ∧ p.2.1 = l[i] := fun p hp => by
     obtain ⟨k1, k2, k3, z, k4, k5⟩ := h2 p hp
     have k1' := of_decide_eq_true k1
     have hi : p.1.toNat < l.length := by omega
     have hlp : p.2.2.length = (qaA (qam l).length p.1.toNat).length := by rw [qaP, ← hn]; exact k1'.2
     have hfl : qcX (qaA (qam l).length p.1.toNat).reverse p.2.2 (qaK p.2.1) = qaD (qam l) := by
      unfold qaG at k2
      rw [if_pos k1] at k2
      rw [qaP, ← hn, k2, hw.2]
     have hb := qfN hN _ (l := qam l) (a := p.1.toNat) (s := qaK p.2.1) (P := p.2.2) (x := qaS x l) (y := z) (Nat.le_refl _) (by rw [qaP]; exact hi) hlp (qhX l) (ws p hp).2 (qaT _ _) (qcq hx) k4 hR.of (by rw [qaP, ← hn]; exact k5) hfl
     rw [qpp hi] at hb
     have hlf := bkIn.leaf hx (bkIn.root _ (Nat.le_refl _) hR.of) l[p.1.toNat] (List.getElem_mem hi)
     have he := hN.parts k3 hlf hb.1 (by
      intro z hz
      rcases List.mem_cons.1 hz with rfl | hz
      ·exact (ws p hp).1.1
      ·rcases List.mem_cons.1 hz with rfl | hz
       ·exact (ws p hp).1.2
       ·cases hz) (by
      intro z hz
      rcases List.mem_cons.1 hz with rfl | hz
      ·exact (wl _ (List.getElem_mem hi)).1
      ·rcases List.mem_cons.1 hz with rfl | hz
       ·exact (wl _ (List.getElem_mem hi)).2
       ·cases hz)
     simp only [List.cons.injEq, and_true] at he
     exact ⟨p.1.toNat, hi, by omega, Prod.ext he.1 he.2⟩
    obtain ⟨cnt, L⟩ := s
    simp only at hs1 hall hs ⊢
    subst hs1
    match L, hall, hs with
    | [], _, hs =>
      have h0 : (l.length : Int) = 0 := of_decide_eq_true hs.1
      exact ⟨(qjO hm fun i hi => by omega).symm, fun hb => by cases hb⟩
    | [a], hall, hs =>
      obtain ⟨i, hi, e1, e2⟩ := hall a List.mem_cons_self
      have hd := of_decide_eq_true hs.1
      rw [e1, e2] at hd
      show decide (cmpB key a.2.1.1 = 0) = _ ∧ (decide (cmpB key a.2.1.1 = 0) = true → a.2.1.2 = _)
      rw [e2]
      rcases hd with hd | ⟨hd, h0⟩ | ⟨hd, h0⟩
      ·have hk := qfv.1 hd
       obtain ⟨q1, q2⟩ := qtc hm hi hk.symm
       rw [q1, q2, decide_eq_true hd, ixN hi]
       exact ⟨rfl, fun _ => rfl⟩
      ·have hk := qcb.1 hd
       have i0 : i = 0 := by omega
       subst i0
       have hno := qjO (key := key) hm fun j hj he => by
        rcases Nat.eq_zero_or_pos j with rfl | hj0
        ·rw [he, qaY] at hk; cases hk
        ·have := qbf hk (qcr hi hj hm hj0)
         rw [he, qaY] at this; cases this
       rw [hno, decide_eq_false (by omega)]
       exact ⟨rfl, fun h => by cases h⟩
      ·have hk := qkO.1 hd
       have hno := qjO (key := key) hm fun j hj he => by
        rcases Nat.lt_or_ge j i with hji | hji
        ·have := qbf (qcr hj hi hm hji) hk
         rw [he, qaY] at this; cases this
        ·have : j = i := by omega
         subst this
         rw [he, qaY] at hk; cases hk
       rw [hno, decide_eq_false (by omega)]
       exact ⟨rfl, fun h => by cases h⟩
    | [a, c], hall, hs =>
      obtain ⟨i, hi, e1, e2⟩ := hall a List.mem_cons_self
      obtain ⟨j, hj, e3, e4⟩ := hall c (by simp)
      have hd := of_decide_eq_true hs.1
      rw [e1, e2, e3, e4] at hd
      obtain ⟨d1, d2, d3, d4, d5⟩ := hd
      have k1 := qcb.1 d4
      have k2 := qcb.1 d5
      have hno := qjO (key := key) hm fun q hq he => by
       rcases Nat.lt_or_ge q i with hqi | hqi
       ·have := qbf (qcr hq hi hm hqi) k1
        rw [he, qaY] at this; cases this
       ·rcases Nat.lt_or_ge i q with hiq | hiq
        ·rcases Nat.lt_or_ge j q with hjq | hjq
         ·have := qbf k2 (qcr hj hq hm hjq)
          rw [he, qaY] at this; cases this
         ·have : q = j := by omega
          subst this
          rw [he, qaY] at k2; cases k2
        ·have : q = i := by omega
         subst this
         rw [he, qaY] at k1; cases k1
      exact ⟨hno.symm, fun h => by cases h⟩
    | a :: c :: d :: L, _, hs => exact absurd hs.1 (by simp [qbH])
   ·cases h
  ·cases h
 ·cases h
end Go.Inc

set_option linter.unusedVariables false
namespace Go.Inc
open Go
def szW (x : Sp) : Int := min (x.2.1.1.length : Int) 200000 + min (x.2.1.2.length : Int) 200000 + 1000 * min (x.2.2.length : Int) 200
theorem qln (p : Sp) : 0 ≤ szW p := by unfold szW; omega
def totI (l : List Int) : Int := l.foldl (· + ·) 0
theorem qjd : ∀ (l : List Int) (a : Int), l.foldl (· + ·) a = a + totI l
 | [], a => by simp [totI]
 | x :: l, a => by
   rw [List.foldl_cons, qjd l (a + x)]
   show a + x + totI l = a + (x :: l).foldl (· + ·) 0
   rw [List.foldl_cons, qjd l (0 + x)]
   omega
theorem qc7 (x : Int) (l : List Int) : totI (x :: l) = x + totI l := by
 show (x :: l).foldl (· + ·) 0 = _
 rw [List.foldl_cons, qjd]
 omega
theorem qkd : ∀ {l : List Int} {i : Nat} (h : i < l.length), totI (l.take (i + 1)) = totI (l.take i) + l[i]
 | x :: l, 0, h => by simp [totI]
 | x :: l, i + 1, h => by
   rw [List.take_succ_cons, List.take_succ_cons, qc7, qc7, qkd (l := l) (by simpa using h), List.getElem_cons_succ]
   omega
theorem qje : ∀ {l : List Int}, (∀ x ∈ l, 0 ≤ x) → 0 ≤ totI l
 | [], h => by simp [totI]
 | x :: l, h => by
   rw [qc7]
   have := h x (by simp)
   have := qje (l := l) (fun y hy => h y (by simp [hy]))
   omega
theorem qgb : ∀ {l : List Int} (i : Nat), (∀ x ∈ l, 0 ≤ x) → totI (l.take i) ≤ totI l
 | [], i, h => by simp
 | x :: l, 0, h => by
   have := qje h
   simpa [totI] using this
 | x :: l, i + 1, h => by
   rw [List.take_succ_cons, qc7, qc7]
   have := qgb (l := l) i (fun y hy => h y (by simp [hy]))
   omega
theorem qmP : ∀ {l : List Int} {x : Int}, (∀ x ∈ l, 0 ≤ x) → x ∈ l → x ≤ totI l
 | y :: l, x, h, hx => by
   rw [qc7]
   have h1 := h y (by simp)
   have h2 := qje (l := l) (fun y hy => h y (by simp [hy]))
   rcases List.mem_cons.1 hx with rfl | hx
   ·omega
   ·have := qmP (l := l) (fun y hy => h y (by simp [hy])) hx
    omega
def qnB (s : Sn) : Bool := decide (10 < s.2.length ∨ 100000 < totI (s.2.map szW))
theorem qsP {s : Sn} (h : qnB s = false) : s.2.length ≤ 10 ∧ ∀ x ∈ s.2, x.2.1.1.length + x.2.1.2.length ≤ 100000 ∧ x.2.2.length ≤ 100 := by
 have h := of_decide_eq_false h
 refine ⟨by omega, fun p hp => ?_⟩
 have h1 : szW p ≤ totI (s.2.map szW) := qmP (fun x hx => by obtain ⟨q, _, rfl⟩ := List.mem_map.1 hx; exact qln q) (List.mem_map_of_mem hp)
 have h2 : szW p = min (p.2.1.1.length : Int) 200000 + min (p.2.1.2.length : Int) 200000 + 1000 * min (p.2.2.length : Int) 200 := rfl
 omega
def qcx : List Pk → By → By × Bool
 | [], _ => ([], false)
 | p :: l, key => if p.1 = key then (p.2, true) else qcx l key
theorem qdO : ∀ {l : List Pk} {key : By} (i : Nat), (∀ (t : Nat) (h : t < l.length), t < i → l[t].1 ≠ key) → qcx (l.drop i) key = qcx l key
 | l, key, 0, h => by simp
 | [], key, i + 1, h => by simp
 | p :: l, key, i + 1, h => by
   have h0 : p.1 ≠ key := h 0 (by simp) (by omega)
   rw [List.drop_succ_cons, qdO i (fun t ht hti => h (t + 1) (by simpa using ht) (by omega))]
   show _ = if p.1 = key then _ else _
   rw [if_neg h0]
theorem qh6 {l : List Pk} {key : By} (hm : mayK l = true) : qcx l key = (if isK l key then (ix l (lowK l key : Int)).2 else [], isK l key) := by
 by_cases h : ∃ (i : Nat) (h : i < l.length), l[i].1 = key
 ·obtain ⟨i, hi, he⟩ := h
  obtain ⟨h1, h2⟩ := qtc hm hi he
  rw [h1, h2, if_pos rfl, ixN hi]
  rw [← qdO i (fun t ht hti e => by
   have := qcr ht hi hm hti
   rw [he, e, qaY] at this
   cases this), List.drop_eq_getElem_cons hi]
  show (if l[i].1 = key then _ else _) = _
  rw [if_pos he]
 ·have h1 : isK l key = false := qjO hm fun i hi he => h ⟨i, hi, he⟩
  rw [h1, if_neg (by simp)]
  have := qdO (l := l) (key := key) l.length (fun t ht _ e => h ⟨t, ht, e⟩)
  rw [← this]
  simp [qcx]
theorem qaf.leaves : ∀ {l : List Pk} {x : qaj} {n : Nat}, qaf x (n + l.length) → qaf (qaS x l) n
 | [], x, n, h => h
 | p :: l, x, n, h => by
   refine qaf.leaves (l := l) ?_
   exact qaf.of (h.le (by simp only [List.length_cons]; omega)) _ _
def qds (key : By) (s : Sn) : Bool × Bool := match s.2 with
 | [a] => (decide (cmpB key a.2.1.1 = 0), decide (cmpB key a.2.1.1 = 0 ∨ cmpB key a.2.1.1 < 0 ∧ a.1 = 0 ∨ 0 < cmpB key a.2.1.1 ∧ a.1 = IntKind.i64.wrap (s.1 - 1)))
 | _ => qbH key s
theorem qmF {key : By} {s : Sn} (h : 0 ≤ s.1) (hw : (Kd.int .i64).wf s.1) : qds key s = qbH key s := by
 obtain ⟨n, l⟩ := s
 have e : IntKind.i64.wrap (n - 1) = n - 1 := qak (wf64 (by have h : 0 ≤ n := h; omega) (by have h2 : n ≤ 9223372036854775807 := hw.2; omega))
 unfold qds qbH
 simp only
 match l with
 | [] => rfl
 | [a] => simp only [e]
 | a :: b :: l => rfl
def qac : List Pk := [([98], [49]), ([100], [50]), ([102], [51])]
end Go.Inc

set_option linter.unusedVariables false
namespace Go.Inc
open Go
def qbl (x : qaj) : Prop := ∀ y, x = some y → ∀ z ∈ y.1, z.2.length ≤ 1048576
theorem qbl.of {x : qaj} {k : Int} {p : List (List UInt8)} (h : qbl x) (hp : qah p ≤ 1048575) : qbl (qaB x k p) := fun y hy z hz => by
 cases x with
 | none => cases hy
 | some u =>
   cases hy
   rcases qlZ hz with hz | hz
   ·exact h u rfl z hz
   ·rw [hz]
    have := qb8 k (l := p) (by omega)
    exact Nat.le_trans this (by omega)
theorem qbl.of2 {x : qaj} {k : Int} {a b : List UInt8} (h : qbl x) (hp : a.length + b.length ≤ 1000000) : qbl (qaB x k [a, b]) := h.of (by simp [qah]; omega)
theorem qbl.root : ∀ (k : Nat) {l : List Sm} {x : qaj}, l.length ≤ k → (∀ z ∈ l, z.length = 32) → qbl x → qbl (qaX x l)
 | 0, l, x, hk, hl, h => by
   obtain rfl : l = [] := List.length_eq_zero_iff.1 (by omega)
   rw [qbi]; exact h.of (by simp [qah])
 | k + 1, l, x, hk, hl, h => by
   rcases Nat.lt_or_ge l.length 2 with h2 | h2
   ·match l, h2 with
    | [], _ => rw [qbi]; exact h.of (by simp [qah])
    | [a], _ => rw [qbY]; exact h
   ·have a1 := qaR h2
    have a2 := qa1 h2
    have w1 : ∀ z ∈ l.take (half l.length), z.length = 32 := fun z hz => hl z (List.mem_of_mem_take hz)
    have w2 : ∀ z ∈ l.drop (half l.length), z.length = 32 := fun z hz => hl z (List.mem_of_mem_drop hz)
    rw [qbG x h2]
    exact (qbl.root k (by simp only [List.length_drop]; omega) w2 (qbl.root k (by simp only [List.length_take]; omega) w1 h)).of2 (by rw [qbA w1, qbA w2]; omega)
theorem qbl.foldK : ∀ {A : List Int} {P : List Sm} {s : Sm} {x : qaj}, s.length = 32 → (∀ z ∈ P, z.length = 32) → qbl x → qbl (foldK A P s x)
 | [], P, s, x, hs, hp, h => by simpa [Go.Inc.foldK] using h
 | _ :: _, [], s, x, hs, hp, h => by simpa [Go.Inc.foldK] using h
 | a :: A, p :: P, s, x, hs, hp, h => by
   have hp1 := hp p List.mem_cons_self
   have hp2 : ∀ z ∈ P, z.length = 32 := fun z hz => hp z (List.mem_cons_of_mem _ hz)
   simp only [Go.Inc.foldK]
   split
   ·exact qbl.foldK (qaT _ _) hp2 (h.of2 (by omega))
   ·exact qbl.foldK (qaT _ _) hp2 (h.of2 (by omega))
theorem qbl.leaves : ∀ {l : List Pk} {x : qaj}, (∀ p ∈ l, p.1.length + p.2.length ≤ 1000000) → qbl x → qbl (qaS x l)
 | [], x, hl, h => h
 | p :: l, x, hl, h => qbl.leaves (l := l) (fun q hq => hl q (List.mem_cons_of_mem _ hq)) (h.of2 (hl p List.mem_cons_self))
theorem qbl.leadK {n a : Int} {P : List Sm} {s : Sm} {x : qaj} (hs : s.length = 32) (hp : ∀ z ∈ P, z.length = 32) (h : qbl x) : qbl (leadK x n a s P) := by
 unfold Go.Inc.leadK
 split
 ·exact qbl.foldK hs hp h
 ·exact h
theorem qaf.leadK {n a : Int} {P : List Sm} {s : Sm} {x : qaj} {m : Nat} (h : qaf x (m + P.length)) : qaf (leadK x n a s P) m := by
 unfold Go.Inc.leadK
 split
 ·exact qaf.foldK h
 ·exact h.le (by omega)
def okSp (x : Sp) : Prop := x.2.1.1.length + x.2.1.2.length ≤ 100000 ∧ x.2.2.length ≤ 100 ∧ ∀ z ∈ x.2.2, z.length = 32
theorem qnr {l : List Pk} {key : By} {m : Nat} (hl : l.length ≤ 65536) (hs : ∀ p ∈ l, p.1.length + p.2.length ≤ m) : ∀ x ∈ (qaI l key).2, x.2.1.1.length + x.2.1.2.length ≤ m ∧ x.2.2.length ≤ 65536 := fun x hx => by
 unfold qaI at hx
 split at hx
 ·obtain ⟨i, hi, rfl⟩ := List.mem_map.1 hx
  have hi := List.mem_range'_1.1 hi
  have ht : toK l key ≤ l.length := by unfold toK; omega
  have hlt : i < l.length := by omega
  have hp := qpT (l := qam l) (a := (i : Int)) (by rw [qaP]; omega)
  refine ⟨?_, by show (qbR _ _).length ≤ _; omega⟩
  show (ix l (i : Int)).1.length + (ix l (i : Int)).2.length ≤ m
  rw [ixN hlt]
  exact hs _ (List.getElem_mem hlt)
 ·cases hx
theorem tells {l : List Pk} {key : By} (hm : mayK l = true) : qaN (qa4 l) key (qaI l key) = 0 ∧ qa5 (qa4 l) key (qaI l key) = (qcx l key).2 ∧ qaZ (qa4 l) key (qaI l key) = (qcx l key).1 := by
 obtain ⟨h1, h2⟩ := qns (key := key) hm
 rw [qh6 hm]
 unfold qaN qa5 qaZ
 rw [h1]
 cases hi : isK l key with
 | false => exact ⟨rfl, rfl, rfl⟩
 | true =>
   rw [h2 hi]
   exact ⟨rfl, rfl, rfl⟩
theorem binds {l : List Pk} {key : By} {s : Sn} {A B : List Nt × Int} (hm : mayK l = true) (hN : qcG (A.1 ++ B.1)) (hA : qhe (some ([], 0)) l = some A) (hB : qpH (some ([], 0)) key s = some B) (hl : l.length ≤ 100) (hs : ∀ p ∈ l, p.1.length + p.2.length ≤ 100000) (ho : ∀ x ∈ s.2, okSp x) (hw : (Kd.int .i64).wf s.1) (he : qaN (qa4 l) key s = 0) :
 qa5 (qa4 l) key s = (qcx l key).2 ∧ qaZ (qa4 l) key s = (qcx l key).1 := by
 have hO : ∃ b, qdn (qa4 l) key s = some b := by
  cases h : qdn (qa4 l) key s with
  | some b => exact ⟨b, rfl⟩
  | none => unfold qaN at he; rw [h] at he; cases he
 obtain ⟨b, hb⟩ := hO
 obtain ⟨h1, h2⟩ := qnj hN hm (x := some ([], 0)) (y := some ([], 0)) rfl rfl (by
  rw [hA]; intro y hy z hz; cases hy; exact List.mem_append.2 (.inl hz)) (by
  rw [hB]; intro y hy z hz; cases hy; exact List.mem_append.2 (.inr hz)) (by omega) (by have h3 : s.1 ≤ 9223372036854775807 := hw.2; omega)
  (fun p hp => by have := hs p hp; omega) (fun p hp => by obtain ⟨o1, o2, o3⟩ := ho p hp; exact ⟨by omega, o3⟩) hb
 rw [qh6 hm]
 unfold qa5 qaZ
 rw [hb]
 cases hbb : b with
 | false =>
   rw [hbb] at h1
   rw [← h1]
   exact ⟨rfl, rfl⟩
 | true =>
   rw [hbb] at h1
   rw [← h1]
   exact ⟨rfl, (h2 hbb)⟩
theorem qc6 : mayK qac = true := by decide +kernel
theorem qlr : qac.length ≤ 65536 ∧ ∀ x ∈ qac, x.1.length + x.2.length ≤ 70368744177664 := by
 refine ⟨by decide, fun x hx => ?_⟩
 have : ∀ x ∈ qac, x.1.length + x.2.length ≤ 2 := by decide
 have := this x hx
 omega
theorem qlq : qaI qac [100] = (3, [qdN qac 1]) := by
 have h1 : qbz qac [100] = 1 := by decide +kernel
 have h2 : toK qac [100] = 2 := by decide +kernel
 unfold qaI
 rw [if_pos qc6, h1, h2]
 rfl
theorem qu7 : qaI qac [99] = (3, [qdN qac 0, qdN qac 1]) := by
 have h1 : qbz qac [99] = 0 := by decide +kernel
 have h2 : toK qac [99] = 2 := by decide +kernel
 unfold qaI
 rw [if_pos qc6, h1, h2]
 rfl
theorem qu6 : qaI qac [97] = (3, [qdN qac 0]) := by
 have h1 : qbz qac [97] = 0 := by decide +kernel
 have h2 : toK qac [97] = 1 := by decide +kernel
 unfold qaI
 rw [if_pos qc6, h1, h2]
 rfl
theorem qsB : qaN (qa4 qac) [99] (qaI qac [100]) = 10 := by
 have h : (qbH [99] (qaI qac [100])).2 = false := by rw [qlq]; decide +kernel
 have e : qdn (qa4 qac) [99] (qaI qac [100]) = none := if_neg (by rw [h]; simp)
 unfold qaN
 rw [e]
 rfl
theorem qsE : qaN (qa4 qac) [120] (qaI qac [97]) = 10 := by
 have h : (qbH [120] (qaI qac [97])).2 = false := by rw [qu6]; decide +kernel
 have e : qdn (qa4 qac) [120] (qaI qac [97]) = none := if_neg (by rw [h]; simp)
 unfold qaN
 rw [e]
 rfl
end Go.Inc

set_option linter.unusedVariables false
namespace Go.Inc
open Go
theorem qp6 {a b : List Sm} {j : Nat} (h : j < a.length) (h' : j < b.length) (ht : a.take j = b.take j) (he : ix a (j : Int) = ix b (j : Int)) : a.take (j + 1) = b.take (j + 1) := by
 rw [ixN h, ixN h'] at he
 rw [List.take_succ_eq_append_getElem h, List.take_succ_eq_append_getElem h', ht, he]
end Go.Inc

set_option linter.unusedVariables false
set_option maxRecDepth 100000
set_option maxHeartbeats 2000000
namespace Go.Proofs.Ytmjjkpiglbpkhaa
open Go Go.RowKit Go.Inc
abbrev qaC : Kd (List UInt8) := (Kd.sl Kd.byte)
theorem ty5b : TyOk Try.prog 5 Kd.byte 1 := ⟨⟨Try.t5, _, Try.type5, rfl, rfl, rfl, rfl, rfl⟩, ⟨_, Try.underlying5, rfl⟩⟩
def qas : List UInt8 := [0, 1, 2, 2, 3, 3, 3, 3, 4, 4, 4, 4, 4, 4, 4, 4, 5, 5, 5, 5, 5, 5, 5, 5, 5, 5, 5, 5, 5, 5, 5, 5, 6, 6, 6, 6, 6, 6, 6, 6, 6, 6, 6, 6, 6, 6, 6, 6, 6, 6, 6, 6, 6, 6, 6, 6, 6, 6, 6, 6, 6, 6, 6, 6, 7, 7, 7, 7, 7, 7, 7, 7, 7, 7, 7, 7, 7, 7, 7, 7, 7, 7, 7, 7, 7, 7, 7, 7, 7, 7, 7, 7, 7, 7, 7, 7, 7, 7, 7, 7, 7, 7, 7, 7, 7, 7, 7, 7, 7, 7, 7, 7, 7, 7, 7, 7, 7, 7, 7, 7, 7, 7, 7, 7, 7, 7, 7, 7, 8, 8, 8, 8, 8, 8, 8, 8, 8, 8, 8, 8, 8, 8, 8, 8, 8, 8, 8, 8, 8, 8, 8, 8, 8, 8, 8, 8, 8, 8, 8, 8, 8, 8, 8, 8, 8, 8, 8, 8, 8, 8, 8, 8, 8, 8, 8, 8, 8, 8, 8, 8, 8, 8, 8, 8, 8, 8, 8, 8, 8, 8, 8, 8, 8, 8, 8, 8, 8, 8, 8, 8, 8, 8, 8, 8, 8, 8, 8, 8, 8, 8, 8, 8, 8, 8, 8, 8, 8, 8, 8, 8, 8, 8, 8, 8, 8, 8, 8, 8, 8, 8, 8, 8, 8, 8, 8, 8, 8, 8, 8, 8, 8, 8, 8, 8, 8, 8, 8, 8, 8, 8, 8, 8, 8, 8, 8, 8]
abbrev qbg : Kd (List (List UInt8)) := (Kd.sl qaC)
theorem ty32 : TyOk Try.prog 32 qaC 24 := ⟨⟨Try.t32, _, Try.type32, rfl, rfl, rfl, rfl, rfl⟩, ⟨_, Try.underlying32, rfl⟩⟩
def qie (a1_n : Int) (Q : (List UInt8) → Prop) : Prop :=
 ((a1_n < 0) → False) ∧ ((¬ (a1_n < 0)) → ((0 < (IntKind.i64.wrap (a1_n - (IntKind.i64.wrap (0 - (([] : List UInt8).length : Int)))))) → (0 < (IntKind.i64.wrap (a1_n - (IntKind.i64.wrap (0 - (([] : List UInt8).length : Int))))) ∧ (IntKind.i64.wrap (a1_n - (IntKind.i64.wrap (0 - (([] : List UInt8).length : Int))))) * 1 ≤ 140737488355328) ∧ (Q ([] : List UInt8))) ∧ ((¬ (0 < (IntKind.i64.wrap (a1_n - (IntKind.i64.wrap (0 - (([] : List UInt8).length : Int))))))) → Q ([] : List UInt8)))
theorem qtH {a1_n : Int} (w_0 : (Kd.int .i64).wf a1_n) (hp : 0 ≤ a1_n ∧ a1_n ≤ 140737488355328) : qie a1_n (fun o0 => o0 = ([] : List UInt8)) := by
 have e1 : IntKind.i64.wrap (0 - (([] : List UInt8).length : Int)) = 0 := by decide
 have e2 : IntKind.i64.wrap (a1_n - 0) = a1_n := by rw [Int.sub_zero]; exact qak w_0
 unfold qie
 rw [e1, e2]
 exact ⟨fun h => by omega, fun _ => ⟨fun h => ⟨⟨h, by omega⟩, rfl⟩, fun _ => rfl⟩⟩
theorem qnO {w0 : World} {K0 : Ghost} {a1_n_v : Value} {a1_n : Int} {Q : (List UInt8) → Prop} (hM0 : Models w0 K0) (h_a1_n : (Kd.int .i64).V K0 a1_n a1_n_v) (h : qie a1_n Q) : Calls Try.prog 145 #[(.slice none 0 0), a1_n_v] w0 (fun e w' => ∃ (K' : Ghost) (r0 : Value) (o0 : (List UInt8)), e = .returned r0 ∧ Q o0 ∧ Ext NX w0 K0 w' K' ∧ Models w' K' ∧ Own Kd.byte 5 w' K' o0 r0 ∧ (∀ g, ob r0 = some g → w0.heap.size ≤ g)) := by
 unfold qie at h
 have hR1 : Own Kd.byte 5 w0 K0 ([] : List UInt8) (.slice none 0 0) := Own.nil
 obtain rfl := qb2 h_a1_n
 have hE0 : Ext NX w0 K0 w0 K0 := Ext.refl _ _ _
 refine qby fun R hR => ?_
 refine qa7 (args := [(.slice none 0 0), (.int .i64 a1_n)]) Try.func145 rfl (Nat.le_of_ble_eq_true rfl) ?_
 refine qan ?_
 refine qae ?_
 have hR2 : Own Kd.byte 5 w0 K0 ([] : List UInt8) (.slice none 0 0) := Own.nil
 refine qaa (.slice none 0 0) (R_as rfl) rfl rfl ?_
 refine qax ?_
 refine qan ?_
 refine qan ?_
 refine qae ?_
 refine qaa (.int .i64 a1_n) (R_mv rfl) rfl rfl ?_
 refine qaa (.bool (decide (a1_n < 0))) (qm1 rfl rfl) rfl rfl ?_
 refine qax ?_
 refine qbd (decide (a1_n < 0)) rfl (fun hc3 => ?_) (fun hc3 => ?_)
 ·have hd3 : a1_n < 0 := qjD hc3
  have h := h.1 hd3
  refine qae ?_
  exact h.elim
 ·have hd3 : ¬ (a1_n < 0) := qjC hc3
  have h := h.2 hd3
  refine qbV ?_
  refine qan ?_
  refine qan ?_
  refine qae ?_
  refine qaa (.int .i64 a1_n) (R_mv rfl) rfl rfl ?_
  refine qaa (.slice none 0 0) (R_mv rfl) rfl rfl ?_
  refine qaa (.int .i64 0) (qvN rfl Try.underlying32) rfl rfl ?_
  refine qaa (.slice none 0 0) (R_mv rfl) rfl rfl ?_
  refine qaa (.int .i64 (([] : List UInt8).length : Int)) (qgG rfl hR1.V Try.underlying32) rfl rfl ?_
  refine qaa (.int .i64 (IntKind.i64.wrap (0 - (([] : List UInt8).length : Int)))) (qub rfl rfl) rfl rfl ?_
  refine qaa (.int .i64 (IntKind.i64.wrap (a1_n - (IntKind.i64.wrap (0 - (([] : List UInt8).length : Int)))))) (qub rfl rfl) rfl rfl ?_
  refine qaa (.int .i64 (IntKind.i64.wrap (a1_n - (IntKind.i64.wrap (0 - (([] : List UInt8).length : Int)))))) (R_as rfl) rfl rfl ?_
  refine qax ?_
  refine qan ?_
  refine qae ?_
  refine qaa (.int .i64 (IntKind.i64.wrap (a1_n - (IntKind.i64.wrap (0 - (([] : List UInt8).length : Int)))))) (R_mv rfl) rfl rfl ?_
  refine qaa (.bool (decide (0 < (IntKind.i64.wrap (a1_n - (IntKind.i64.wrap (0 - (([] : List UInt8).length : Int)))))))) (qvT rfl rfl) rfl rfl ?_
  refine qax ?_
  refine qbd (decide (0 < (IntKind.i64.wrap (a1_n - (IntKind.i64.wrap (0 - (([] : List UInt8).length : Int))))))) rfl (fun hc4 => ?_) (fun hc4 => ?_)
  ·have hd4 : 0 < (IntKind.i64.wrap (a1_n - (IntKind.i64.wrap (0 - (([] : List UInt8).length : Int))))) := qjD hc4
   have h := h.1 hd4
   refine qae ?_
   refine qaa (.slice none 0 0) (R_mv rfl) rfl rfl ?_
   refine qaa (.slice none 0 0) (R_mv rfl) rfl rfl ?_
   refine qaa (.int .i64 0) (qvN rfl Try.underlying32) rfl rfl ?_
   refine qaa (.slice none 0 0) (qrm rfl rfl Try.underlying32 ty5b) rfl rfl ?_
   refine qaa (.int .i64 (IntKind.i64.wrap (a1_n - (IntKind.i64.wrap (0 - (([] : List UInt8).length : Int)))))) (R_mv rfl) rfl rfl ?_
   obtain ⟨hp7, h⟩ := h
   refine qa2 rfl rfl (qxx (qwb hM0 rfl rfl Try.underlying32 Try.underlying3 ty5b rfl hp7.1 hp7.2) ?_)
   rintro v6 w6 hF6 hS6 hM6 hg6
   have hE6 := hE0.andN hS6
   have hf6 : ∀ g, ob v6 = some g → w0.heap.size ≤ g := fun g hg => Nat.le_trans hE0.size (hg6 g hg)
   refine qaa (.slice none 0 0) (R_mv rfl) rfl rfl ?_
   refine qaa (.int .i64 (([] : List UInt8).length : Int)) (qgG rfl (hR1.V.mono hS6.le) Try.underlying32) rfl rfl ?_
   refine qa2 rfl rfl (qxw (qwh hM6 rfl hF6 rfl Try.underlying32 ty5b) ?_)
   rintro v8 w8 K8 (hO8 : Own Kd.byte 5 w8 K8 ([] : List UInt8) v8) hS8 hM8 hob8
   have hE8 := hE6.comp hS8 (fun c hx hlt => absurd hlt (Nat.not_lt.2 (hf6 c hx)))
   have hf8 : ∀ g, ob v8 = some g → w0.heap.size ≤ g := fun g hg => hf6 g (hob8 g hg)
   refine qaa v8 (R_as rfl) rfl rfl ?_
   refine qax ?_
   refine qan ?_
   refine qae ?_
   refine qaa v8 (R_mv rfl) rfl rfl ?_
   refine qaa v8 (R_as rfl) rfl rfl ?_
   refine qax ?_
   refine qcz ?_
   exact qbM hR (v := v8) (qel rfl rfl) ⟨K8, v8, ([] : List UInt8), rfl, h, hE8, hM8, hO8, hf8⟩
  ·have hd4 : ¬ (0 < (IntKind.i64.wrap (a1_n - (IntKind.i64.wrap (0 - (([] : List UInt8).length : Int)))))) := qjC hc4
   have h := h.2 hd4
   refine qbV ?_
   refine qan ?_
   refine qae ?_
   refine qaa (.slice none 0 0) (R_mv rfl) rfl rfl ?_
   refine qaa (.slice none 0 0) (R_as rfl) rfl rfl ?_
   refine qax ?_
   refine qcz ?_
   exact qbM hR (v := (.slice none 0 0)) (qel rfl rfl) ⟨K0, (.slice none 0 0), ([] : List UInt8), rfl, h, hE0, hM0, hR1, (fun g hg => nilS hg)⟩
theorem qvr {w0 : World} {K0 : Ghost} {a1_n_v : Value} {a1_n : Int} (hM0 : Models w0 K0) (h_a1_n : (Kd.int .i64).V K0 a1_n a1_n_v) (hp : 0 ≤ a1_n ∧ a1_n ≤ 140737488355328) : Calls Try.prog 145 #[(.slice none 0 0), a1_n_v] w0 (fun e w' => ∃ (K' : Ghost) (r0 : Value), e = .returned r0 ∧ Ext NX w0 K0 w' K' ∧ Models w' K' ∧ Own Kd.byte 5 w' K' ([] : List UInt8) r0 ∧ (∀ g, ob r0 = some g → w0.heap.size ≤ g)) := by
 refine (qnO hM0 h_a1_n (qtH h_a1_n.wf hp)).mono ?_
 rintro _ w' ⟨K', r0, o0, rfl, rfl, hF⟩
 exact ⟨K', r0, rfl, hF⟩
def qeI (a0_slices : (List (List UInt8))) (Q : (List UInt8) → Prop) : Prop :=
 ∃ (I3 : Int → Int → Prop) (μ3 : Int → Int → Nat), I3 0 0 ∧ ∀ (size3 : Int) (i3 : Int), I3 size3 i3 → ((Kd.int .i64).wf size3) → ((Kd.int .i64).wf i3) → (((i3 < (a0_slices.length : Int)) → (0 ≤ i3 ∧ i3 < (a0_slices.length : Int)) ∧ ((((IntKind.i64.wrap (size3 + ((ix a0_slices i3).length : Int))) < 0) → False) ∧ ((¬ ((IntKind.i64.wrap (size3 + ((ix a0_slices i3).length : Int))) < 0)) → I3 (IntKind.i64.wrap (size3 + ((ix a0_slices i3).length : Int))) (i3 + 1) ∧ μ3 (IntKind.i64.wrap (size3 + ((ix a0_slices i3).length : Int))) (i3 + 1) < μ3 size3 i3))) ∧ ((¬ (i3 < (a0_slices.length : Int))) → (0 ≤ size3 ∧ size3 ≤ 140737488355328) ∧ ((qaC.wf ([] : List UInt8)) → (∃ (I17 : (List UInt8) → Int → Prop) (μ17 : (List UInt8) → Int → Nat), I17 ([] : List UInt8) 0 ∧ ∀ (newslice17 : (List UInt8)) (i17 : Int), I17 newslice17 i17 → (qaC.wf newslice17) → ((Kd.int .i64).wf i17) → (((i17 < (a0_slices.length : Int)) → (0 ≤ i17 ∧ i17 < (a0_slices.length : Int)) ∧ (((newslice17.length + (ix a0_slices i17).length) * 1 ≤ 140737488355328) ∧ (I17 (newslice17 ++ (ix a0_slices i17)) (i17 + 1) ∧ μ17 (newslice17 ++ (ix a0_slices i17)) (i17 + 1) < μ17 newslice17 i17))) ∧ ((¬ (i17 < (a0_slices.length : Int))) → Q newslice17))))))
theorem qnK {a0_slices : (List (List UInt8))} (w_0 : qbg.wf a0_slices) (hp : a0_slices.flatten.length ≤ 140737488355328) : qeI a0_slices (fun o0 => o0 = a0_slices.flatten) := by
 have hst : ∀ j : Nat, (j : Int) < (a0_slices.length : Int) → (a0_slices.take j).flatten.length + (ix a0_slices (j : Int)).length ≤ 140737488355328 := fun j hj => by
  have h1 := qgV (l := a0_slices) (j + 1)
  rw [qdC hj, List.length_append] at h1
  omega
 unfold qeI
 refine ⟨fun s i => ∃ j : Nat, i = (j : Int) ∧ j ≤ a0_slices.length ∧ s = ((a0_slices.take j).flatten.length : Int), fun _ i => a0_slices.length - i.toNat, ⟨0, rfl, by omega, by simp⟩, ?_⟩
 rintro s i ⟨j, rfl, hj, rfl⟩ _ _
 refine ⟨fun hlt => ⟨⟨by omega, hlt⟩, ?_⟩, fun hge => ?_⟩
 ·have h1 := hst j hlt
  have e : IntKind.i64.wrap (((a0_slices.take j).flatten.length : Int) + ((ix a0_slices (j : Int)).length : Int)) = ((a0_slices.take (j + 1)).flatten.length : Int) := by
   rw [qak (wf64 (by omega) (by omega)), qdC hlt, List.length_append]
   omega
  rw [e]
  refine ⟨fun h => by omega, fun _ => ⟨⟨j + 1, by omega, by omega, rfl⟩, ?_⟩⟩
  show a0_slices.length - ((j : Int) + 1).toNat < a0_slices.length - (j : Int).toNat
  omega
 ·have h1 := qgV (l := a0_slices) j
  refine ⟨⟨by omega, by omega⟩, fun _ => ⟨fun out i => ∃ j : Nat, i = (j : Int) ∧ j ≤ a0_slices.length ∧ out = (a0_slices.take j).flatten, fun _ i => a0_slices.length - i.toNat, ⟨0, rfl, by omega, by simp⟩, ?_⟩⟩
  rintro out i ⟨m, rfl, hm, rfl⟩ _ _
  refine ⟨fun hlt => ⟨⟨by omega, hlt⟩, ?_, ⟨m + 1, by omega, by omega, (qdC hlt).symm⟩, ?_⟩, fun hge => ?_⟩
  ·have := hst m hlt
   omega
  ·show a0_slices.length - ((m : Int) + 1).toNat < a0_slices.length - (m : Int).toNat
   omega
  ·have : m = a0_slices.length := by omega
   subst this
   rw [List.take_length]
theorem qkn {w0 : World} {K0 : Ghost} {a0_slices_v : Value} {a0_slices : (List (List UInt8))} {Q : (List UInt8) → Prop} (hM0 : Models w0 K0) (h_a0_slices : qbg.V K0 a0_slices a0_slices_v) (h : qeI a0_slices Q) : Calls Try.prog 134 #[a0_slices_v] w0 (fun e w' => ∃ (K' : Ghost) (r0 : Value) (o0 : (List UInt8)), e = .returned r0 ∧ Q o0 ∧ Ext NX w0 K0 w' K' ∧ Models w' K' ∧ Own Kd.byte 5 w' K' o0 r0 ∧ (∀ g, ob r0 = some g → w0.heap.size ≤ g)) := by
 unfold qeI at h
 have hE0 : Ext NX w0 K0 w0 K0 := Ext.refl _ _ _
 refine qby fun R hR => ?_
 refine qa7 (args := [a0_slices_v]) Try.func134 rfl (Nat.le_of_ble_eq_true rfl) ?_
 refine qan ?_
 refine qae ?_
 have hR2 : Own Kd.byte 5 w0 K0 ([] : List UInt8) (.slice none 0 0) := Own.nil
 refine qaa (.slice none 0 0) (R_as rfl) rfl rfl ?_
 refine qax ?_
 refine qan ?_
 refine qae ?_
 refine qaa (.int .i64 0) (R_as rfl) rfl rfl ?_
 refine qax ?_
 refine qan ?_
 refine qan ?_
 refine qae ?_
 refine qaa a0_slices_v (R_mv rfl) rfl rfl ?_
 refine qaa (.int .i64 (a0_slices.length : Int)) (qgG rfl h_a0_slices Try.underlying96) rfl rfl ?_
 refine qaa (.int .i64 0) (R_mv rfl) rfl rfl ?_
 refine qax ?_
 refine qcd ?_
 obtain ⟨I3, μ3, h0, h⟩ := h
 refine qiz (ι := Int × Int) [3, 5, 11, 12, 13, 14, 15, 16, 17, 18, 19, 20, 21, 22] (fun s l w => ∃ K, I3 s.1 s.2 ∧ l = [(3, (.int .i64 s.1)), (11, (.int .i64 s.2))] ∧ Ext NX w0 K0 w K ∧ Models w K ∧ (Kd.int .i64).wf s.1 ∧ (Kd.int .i64).wf s.2) (fun s => μ3 s.1 s.2) (0, 0) [(3, (.int .i64 0)), (11, (.int .i64 0))]
  ⟨K0, h0, rfl, Ext.refl _ _ _, hM0, (show (Kd.int .i64).wf 0 from by constructor <;> decide), (show (Kd.int .i64).wf 0 from by constructor <;> decide)⟩ (by repeat (first | exact trivial | refine ⟨rfl, ?_⟩)) ?_
 rintro ⟨size3, i3⟩ l σ3 w4 ⟨K4, hI, rfl, hX4, hM4, hw3_3, hw3_11⟩
 dsimp only at hI hw3_3 hw3_11
 have hE4 := hE0.andN hX4
 have h := h size3 i3 hI hw3_3 hw3_11
 refine qan ?_
 refine qae ?_
 refine qaa (.bool (decide (i3 < (a0_slices.length : Int)))) (qm1 rfl rfl) rfl rfl ?_
 refine qax ?_
 refine qan ?_
 refine qbd (decide (i3 < (a0_slices.length : Int))) rfl (fun hc5 => ?_) (fun hc5 => ?_)
 ·have hd5 : i3 < (a0_slices.length : Int) := qjD hc5
  have h := h.1 hd5
  refine qbV ?_
  refine qan ?_
  refine qcd ?_
  refine qan ?_
  refine qae ?_
  obtain ⟨hp7, h⟩ := h
  refine WL_P (qoz rfl (h_a0_slices.mono hX4.le) rfl Try.underlying96 ty32 hp7.1 hp7.2) rfl rfl ?_
  rintro b6 o6 hP6
  refine WL_L hM4 (S_ld rfl ty32 hP6) rfl rfl ?_
  rintro v9 (hV9 : qaC.V _ (ix a0_slices i3) _)
  refine qaa v9 (R_as rfl) rfl rfl ?_
  refine qax ?_
  refine qan ?_
  refine qae ?_
  refine qaa (.int .i64 size3) (R_mv rfl) rfl rfl ?_
  refine qaa v9 (R_mv rfl) rfl rfl ?_
  refine qaa (.int .i64 ((ix a0_slices i3).length : Int)) (qgG rfl hV9 Try.underlying32) rfl rfl ?_
  refine qaa (.int .i64 (IntKind.i64.wrap (size3 + ((ix a0_slices i3).length : Int)))) (qoq rfl rfl) rfl rfl ?_
  refine qaa (.int .i64 (IntKind.i64.wrap (size3 + ((ix a0_slices i3).length : Int)))) (R_as rfl) rfl rfl ?_
  refine qax ?_
  refine qan ?_
  refine qae ?_
  refine qaa (.int .i64 (IntKind.i64.wrap (size3 + ((ix a0_slices i3).length : Int)))) (R_mv rfl) rfl rfl ?_
  refine qaa (.bool (decide ((IntKind.i64.wrap (size3 + ((ix a0_slices i3).length : Int))) < 0))) (qm1 rfl rfl) rfl rfl ?_
  refine qax ?_
  refine qbd (decide ((IntKind.i64.wrap (size3 + ((ix a0_slices i3).length : Int))) < 0)) rfl (fun hc11 => ?_) (fun hc11 => ?_)
  ·have hd11 : (IntKind.i64.wrap (size3 + ((ix a0_slices i3).length : Int))) < 0 := qjD hc11
   have h := h.1 hd11
   refine qae ?_
   exact h.elim
  ·have hd11 : ¬ ((IntKind.i64.wrap (size3 + ((ix a0_slices i3).length : Int))) < 0) := qjC hc11
   have h := h.2 hd11
   refine qbV ?_
   refine qae ?_
   refine qaa (.int .i64 (i3 + 1)) (qt6 rfl rfl hw3_11 hd5 (qcY (h_a0_slices).wf.1)) rfl rfl ?_
   refine qaa (.int .i64 (i3 + 1)) (R_mv rfl) rfl rfl ?_
   refine qax ?_
   refine qkk.mk ((IntKind.i64.wrap (size3 + ((ix a0_slices i3).length : Int))), (i3 + 1)) [(3, (.int .i64 (IntKind.i64.wrap (size3 + ((ix a0_slices i3).length : Int))))), (11, (.int .i64 (i3 + 1)))] ?_ ?_ ?_ ?_
   rotate_left
   ·exact h.2
   ·repeat (first | exact Off.lay0 rfl | refine Off.updO ?_ rfl _ | refine Off.updN ?_ _ | refine Off.lay ?_ rfl)
   ·repeat (first | exact trivial | refine ⟨rfl, ?_⟩)
   exact ⟨K4, h.1, rfl, ((Ext.refl _ _ _).andN hX4), hM4, (qcL _ _), (qpm hw3_11 hd5 (qcY (h_a0_slices).wf.1))⟩
 ·have hd5 : ¬ (i3 < (a0_slices.length : Int)) := qjC hc5
  have h := h.2 hd5
  refine qiy ?_
  refine qan ?_
  refine qae ?_
  refine qaa (.int .i64 size3) (R_mv rfl) rfl rfl ?_
  have hR12 : Own Kd.byte 5 w4 K4 ([] : List UInt8) (.slice none 0 0) := Own.nil
  have hR13 := (hR2.extN hX4)
  obtain ⟨hp15, h⟩ := h
  refine qa2 rfl rfl (qbU (qdy Try.call145 rfl) ((qvr hM4 (qhu hw3_3) hp15).mono ?_))
  rintro _ w14 ⟨K14, v14_0, rfl, hS14, hM14, hO14_0, hg14_0⟩
  refine ⟨v14_0, rfl, ?_⟩
  have hE14 := hE4.andN hS14
  have h := h hO14_0.wf
  refine qaa v14_0 (R_as rfl) rfl rfl ?_
  refine qax ?_
  refine qan ?_
  refine qan ?_
  refine qae ?_
  refine qaa a0_slices_v (R_mv rfl) rfl rfl ?_
  refine qaa (.int .i64 (a0_slices.length : Int)) (qgG rfl (h_a0_slices.mono (hX4.le.trans hS14.le)) Try.underlying96) rfl rfl ?_
  refine qaa (.int .i64 0) (R_mv rfl) rfl rfl ?_
  refine qax ?_
  refine qcd ?_
  obtain ⟨I17, μ17, h0, h⟩ := h
  refine qiz (ι := (List UInt8) × Int) [6, 8, 27, 28, 29, 30, 31, 32, 33, 34] (fun s l w => ∃ K u6, I17 s.1 s.2 ∧ l = [(6, u6), (27, (.int .i64 s.2))] ∧ Ext (fun c => ob v14_0 = some c) w14 K14 w K ∧ Models w K ∧ (Kd.int .i64).wf s.2 ∧ Own Kd.byte 5 w K s.1 u6 ∧ (∀ g, ob u6 = some g → ob v14_0 = some g ∨ w14.heap.size ≤ g)) (fun s => μ17 s.1 s.2) (([] : List UInt8), 0) [(6, v14_0), (27, (.int .i64 0))]
   ⟨K14, v14_0, h0, rfl, Ext.refl _ _ _, hM14, (show (Kd.int .i64).wf 0 from by constructor <;> decide), hO14_0, (fun g hg => (.inl hg))⟩ (by repeat (first | exact trivial | refine ⟨rfl, ?_⟩)) ?_
  rintro ⟨newslice17, i17⟩ l σ17 w18 ⟨K18, u6_17, hI, rfl, hX18, hM18, hw17_27, hL17_u6, ho17_u6⟩
  dsimp only at hI hw17_27 hL17_u6 ho17_u6
  have hE18 := hE14.comp hX18 (fun c hx hlt => (fun g hg hlt => absurd hlt (Nat.not_lt.2 ((fun g hg => Nat.le_trans hE4.size (hg14_0 g hg)) g hg))) c hx hlt)
  have hR19 := (hR13.extN hS14)
  have hR20 := (hR19.ext hX18 (fun g hg hx => (fun g hg hx => (fun g hg hx => absurd (hR13.lt _ hx) (Nat.not_lt.2 (hg14_0 g hg))) g hx hg) g hg hx))
  have hR21 := (hR12.extN hS14)
  have hR22 := (hR21.ext hX18 (fun g hg hx => (fun g hg hx => (fun g hg hx => absurd (hR12.lt _ hx) (Nat.not_lt.2 (hg14_0 g hg))) g hx hg) g hg hx))
  have hR23 := (hR13.extN hS14)
  have hR24 := (hR12.extN hS14)
  have h := h newslice17 i17 hI hL17_u6.wf hw17_27
  refine qan ?_
  refine qae ?_
  refine qaa (.bool (decide (i17 < (a0_slices.length : Int)))) (qm1 rfl rfl) rfl rfl ?_
  refine qax ?_
  refine qan ?_
  refine qbd (decide (i17 < (a0_slices.length : Int))) rfl (fun hc25 => ?_) (fun hc25 => ?_)
  ·have hd25 : i17 < (a0_slices.length : Int) := qjD hc25
   have h := h.1 hd25
   refine qbV ?_
   refine qan ?_
   refine qcd ?_
   refine qan ?_
   refine qae ?_
   obtain ⟨hp27, h⟩ := h
   refine WL_P (qoz rfl (h_a0_slices.mono (hX4.le.trans (hS14.le.trans hX18.le))) rfl Try.underlying96 ty32 hp27.1 hp27.2) rfl rfl ?_
   rintro b26 o26 hP26
   refine WL_L hM18 (S_ld rfl ty32 hP26) rfl rfl ?_
   rintro v29 (hV29 : qaC.V _ (ix a0_slices i17) _)
   refine qaa v29 (R_as rfl) rfl rfl ?_
   refine qax ?_
   refine qae ?_
   refine qaa u6_17 (R_mv rfl) rfl rfl ?_
   refine qaa v29 (R_mv rfl) rfl rfl ?_
   obtain ⟨hp32, h⟩ := h
   refine qa2 rfl rfl (St_S (qwa hM18 rfl hL17_u6 rfl hV29 Try.underlying32 ty5b rfl hp32) ?_)
   rintro v31 w31 K31 hO31 hS31 hM31 hob31
   have hE31 := hE18.comp hS31 (fun c hx hlt => (fun g hg hlt => absurd hlt (Nat.not_lt.2 ((fun g hg => (ho17_u6 g hg).elim (fun hx => (fun g hg => Nat.le_trans hE4.size (hg14_0 g hg)) g hx) (fun hx => Nat.le_trans hE14.size hx)) g hg))) c hx hlt)
   have hR33 := (hR20.ext hS31 (fun g hg hx => (fun g hg hx => (fun g hg hy => (ho17_u6 g hg).elim (fun hz => (fun g hg hx => absurd (hR13.lt _ hx) (Nat.not_lt.2 (hg14_0 g hg))) g hz hy) (fun hz => absurd (hR23.lt _ hy) (Nat.not_lt.2 hz))) g hx hg) g hg hx))
   have hR34 := (hR22.ext hS31 (fun g hg hx => (fun g hg hx => (fun g hg hy => (ho17_u6 g hg).elim (fun hz => (fun g hg hx => absurd (hR12.lt _ hx) (Nat.not_lt.2 (hg14_0 g hg))) g hz hy) (fun hz => absurd (hR24.lt _ hy) (Nat.not_lt.2 hz))) g hx hg) g hg hx))
   have hf31 : ∀ g, ob v31 = some g → w0.heap.size ≤ g := fun g hg => by rcases hob31 with hq | hq <;> rw [hq] at hg; exact (fun g hg => (ho17_u6 g hg).elim (fun hx => (fun g hg => Nat.le_trans hE4.size (hg14_0 g hg)) g hx) (fun hx => Nat.le_trans hE14.size hx)) g hg; cases hg; exact hE18.size
   refine qaa v31 (R_as rfl) rfl rfl ?_
   refine qax ?_
   refine qae ?_
   refine qaa (.int .i64 (i17 + 1)) (qt6 rfl rfl hw17_27 hd25 (qcY (h_a0_slices).wf.1)) rfl rfl ?_
   refine qaa (.int .i64 (i17 + 1)) (R_mv rfl) rfl rfl ?_
   refine qax ?_
   refine qkk.mk ((newslice17 ++ (ix a0_slices i17)), (i17 + 1)) [(6, v31), (27, (.int .i64 (i17 + 1)))] ?_ ?_ ?_ ?_
   rotate_left
   ·exact h.2
   ·repeat (first | exact Off.lay0 rfl | refine Off.updO ?_ rfl _ | refine Off.updN ?_ _ | refine Off.lay ?_ rfl)
   ·repeat (first | exact trivial | refine ⟨rfl, ?_⟩)
   exact ⟨K31, v31, h.1, rfl, (((Ext.refl _ _ _).comp hX18 (fun c hx hlt => (hx))).comp hS31 (fun c hx hlt => ((((ho17_u6 c hx).elim (fun hz => (.inl hz)) (fun hz => .inr (Nat.le_trans (Nat.le_refl _) hz))) : ob v14_0 = some c ∨ w14.heap.size ≤ c).elim (fun hx => (hx)) (fun hz => absurd hlt (Nat.not_lt.2 hz))))), hM31, (qpm hw17_27 hd25 (qcY (h_a0_slices).wf.1)), hO31, (fun g hg => (by have hg : ob v31 = some g := hg; rcases hob31 with hq | hq <;> rw [hq] at hg; exact ((ho17_u6 g hg).elim (fun hz => (.inl hz)) (fun hz => .inr (Nat.le_trans (Nat.le_refl _) hz))); cases hg; exact .inr hX18.size))⟩
  ·have hd25 : ¬ (i17 < (a0_slices.length : Int)) := qjC hc25
   have h := h.2 hd25
   refine qiy ?_
   refine qan ?_
   refine qae ?_
   refine qaa u6_17 (R_mv rfl) rfl rfl ?_
   refine qaa u6_17 (R_as rfl) rfl rfl ?_
   refine qax ?_
   refine qcz ?_
   exact qbM hR (v := u6_17) (qel rfl rfl) ⟨K18, u6_17, newslice17, rfl, h, hE18, hM18, hL17_u6, (fun g hg => (ho17_u6 g hg).elim (fun hx => (fun g hg => Nat.le_trans hE4.size (hg14_0 g hg)) g hx) (fun hx => Nat.le_trans hE14.size hx))⟩
theorem qqH {w0 : World} {K0 : Ghost} {a0_slices_v : Value} {a0_slices : (List (List UInt8))} (hM0 : Models w0 K0) (h_a0_slices : qbg.V K0 a0_slices a0_slices_v) (hp : a0_slices.flatten.length ≤ 140737488355328) : Calls Try.prog 134 #[a0_slices_v] w0 (fun e w' => ∃ (K' : Ghost) (r0 : Value), e = .returned r0 ∧ Ext NX w0 K0 w' K' ∧ Models w' K' ∧ Own Kd.byte 5 w' K' a0_slices.flatten r0 ∧ (∀ g, ob r0 = some g → w0.heap.size ≤ g)) := by
 refine (qkn hM0 h_a0_slices (qnK h_a0_slices.wf hp)).mono ?_
 rintro _ w' ⟨K', r0, o0, rfl, rfl, hF⟩
 exact ⟨K', r0, rfl, hF⟩
end Go.Proofs.Ytmjjkpiglbpkhaa

set_option linter.unusedVariables false
set_option maxRecDepth 100000
set_option maxHeartbeats 2000000
namespace Go.Proofs.Ytmjjkpiglbpkhaa
open Go Go.RowKit Go.Inc
noncomputable def qlC : Ctr := ⟨[.v (.sl (.sl .byte))], [.ow 5 .byte], some (fun a => (fun (a0_slices : List (List UInt8)) => (a0_slices.flatten.length ≤ 140737488355328 : Prop)) a.1), fun a => (fun (a0_slices : List (List UInt8)) => ((a0_slices.flatten, ()), (()))) a.1⟩
theorem qqI : qlC.valid Try.prog 134 := qxH (k := .byte) (fun _ => rfl) fun a hp θ vs w K hM hv => by
 obtain ⟨v, vs, rfl, h1, h2⟩ := hv
 have h2' : vs = [] := h2
 subst h2'
 exact qqH hM (qdr (t := .sl (.sl .byte)) h1 rfl) hp
end Go.Proofs.Ytmjjkpiglbpkhaa

set_option linter.unusedVariables false
set_option maxRecDepth 100000
set_option maxHeartbeats 20000000
namespace Go.Proofs.Ytmjjkpiglbpkhaa
open Go Go.RowKit Go.Inc
noncomputable def qc9 : Ctr := ⟨[.v (.sl .byte)], [.ow 5 .byte], some (fun a => (fun (a0_s : List UInt8) => (a0_s.length ≤ 140737488355328 : Prop)) a.1), fun a => (fun (a0_s : List UInt8) => ((a0_s, ()), (()))) a.1⟩
noncomputable def qnJ : Fx := ⟨seat, some bkT, fns, [], [], [], []⟩
def qic (a0_s : List UInt8) (Q : (List UInt8) → Prop) : Prop :=
 ∀ (x0 : Bool), (x0 = true → a0_s = ([] : List UInt8)) → (x0 = true → Q ([] : List UInt8)) ∧ (x0 = false → (([] : List UInt8).length + a0_s.length) * (1 : Nat) ≤ (140737488355328 : Nat) ∧ Q (([] : List UInt8) ++ a0_s))
theorem qqF {a0_s : List UInt8} (w_0 : (Ty.kd (.sl .byte)).wf a0_s) (hp : a0_s.length ≤ 140737488355328) : qic a0_s (fun o0 => o0 = a0_s) := by
 unfold qic
 intro r hr
 refine ⟨fun h => ?_, fun _ => ⟨?_, rfl⟩⟩
 ·rw [hr h]
 ·simpa using hp
theorem qqE : (∀ a, qc9.pre a → PM.wfP qc9.pm a (fvc qnJ 200 69 qc9 a (eqO qc9 a))) = (∀ a : (List UInt8) × Unit, ((a.1).length ≤ 140737488355328) → (Ty.kd (.sl .byte)).wf a.1 → qic a.1 (fun o0 => o0 = (a.1))) := by kernel_rfl
theorem qgw : qc9.valid Try.prog 69 := qar (X := qnJ) (qaH qai (fun b hb => by cases hb; exact qap) qaq trivial) 200 (qqE.mpr fun a hp w_0 => @qqF a.1 w_0 hp)
noncomputable def qgx : Ctr := ⟨[.v (.sl .byte), .v (.sl .byte)], [.v .bool], none, fun a => (fun (a0_a : List UInt8) (a1_b : List UInt8) => ((decide (a0_a = a1_b), ()), (()))) a.1 a.2.1⟩
noncomputable def qnN : Fx := ⟨seat, some bkT, fns, [], [], [], []⟩
def qlE (a0_a : List UInt8) (a1_b : List UInt8) (Q : Bool → Prop) : Prop :=
 Q (decide (a0_a = a1_b))
theorem qqM {a0_a : List UInt8} {a1_b : List UInt8} (w_0 : (Ty.kd (.sl .byte)).wf a0_a) (w_1 : (Ty.kd (.sl .byte)).wf a1_b) : qlE a0_a a1_b (fun o0 => o0 = decide (a0_a = a1_b)) := by
 exact rfl
theorem qqL : (∀ a, qgx.pre a → PM.wfP qgx.pm a (fvc qnN 200 85 qgx a (eqO qgx a))) = (∀ a : (List UInt8) × (List UInt8) × Unit, True → (Ty.kd (.sl .byte)).wf a.1 → (Ty.kd (.sl .byte)).wf a.2.1 → qlE a.1 a.2.1 (fun o0 => o0 = decide ((a.1) = (a.2.1)))) := by kernel_rfl
theorem qtG : qgx.valid Try.prog 85 := qar (X := qnN) (qaH qai (fun b hb => by cases hb; exact qap) qaq trivial) 200 (qqL.mpr fun a hp w_0 w_1 => @qqM a.1 a.2.1 w_0 w_1)
noncomputable def qfd : Ctr := ⟨[.v (.int .u64)], [.v (.int .i64)], none, fun a => (fun (a0_x : Int) => (((blen a0_x.toNat : Int), ()), (()))) a.1⟩
noncomputable def qnV : Fx := ⟨seat, some bkT, fns, [], [], [], []⟩
def qih (a0_x : Int) (Q : Int → Prop) : Prop :=
 ((4294967296 : Int) ≤ a0_x → ((65536 : Int) ≤ shr IntKind.u64 a0_x (32 : Int) → ((256 : Int) ≤ shr IntKind.u64 (shr IntKind.u64 a0_x (32 : Int)) (16 : Int) → ((0 : Int) ≤ IntKind.u8.wrap (shr IntKind.u64 (shr IntKind.u64 (shr IntKind.u64 a0_x (32 : Int)) (16 : Int)) (8 : Int)) ∧ IntKind.u8.wrap (shr IntKind.u64 (shr IntKind.u64 (shr IntKind.u64 a0_x (32 : Int)) (16 : Int)) (8 : Int)) < (qas.length : Int)) ∧ Q (IntKind.i64.wrap (IntKind.i64.wrap (IntKind.i64.wrap ((32 : Int) + (16 : Int)) + (8 : Int)) + bI (ix qas (IntKind.u8.wrap (shr IntKind.u64 (shr IntKind.u64 (shr IntKind.u64 a0_x (32 : Int)) (16 : Int)) (8 : Int))))))) ∧ (¬(256 : Int) ≤ shr IntKind.u64 (shr IntKind.u64 a0_x (32 : Int)) (16 : Int) → ((0 : Int) ≤ IntKind.u8.wrap (shr IntKind.u64 (shr IntKind.u64 a0_x (32 : Int)) (16 : Int)) ∧ IntKind.u8.wrap (shr IntKind.u64 (shr IntKind.u64 a0_x (32 : Int)) (16 : Int)) < (qas.length : Int)) ∧ Q (IntKind.i64.wrap (IntKind.i64.wrap ((32 : Int) + (16 : Int)) + bI (ix qas (IntKind.u8.wrap (shr IntKind.u64 (shr IntKind.u64 a0_x (32 : Int)) (16 : Int)))))))) ∧ (¬(65536 : Int) ≤ shr IntKind.u64 a0_x (32 : Int) → ((256 : Int) ≤ shr IntKind.u64 a0_x (32 : Int) → ((0 : Int) ≤ IntKind.u8.wrap (shr IntKind.u64 (shr IntKind.u64 a0_x (32 : Int)) (8 : Int)) ∧ IntKind.u8.wrap (shr IntKind.u64 (shr IntKind.u64 a0_x (32 : Int)) (8 : Int)) < (qas.length : Int)) ∧ Q (IntKind.i64.wrap (IntKind.i64.wrap ((32 : Int) + (8 : Int)) + bI (ix qas (IntKind.u8.wrap (shr IntKind.u64 (shr IntKind.u64 a0_x (32 : Int)) (8 : Int))))))) ∧ (¬(256 : Int) ≤ shr IntKind.u64 a0_x (32 : Int) → ((0 : Int) ≤ IntKind.u8.wrap (shr IntKind.u64 a0_x (32 : Int)) ∧ IntKind.u8.wrap (shr IntKind.u64 a0_x (32 : Int)) < (qas.length : Int)) ∧ Q (IntKind.i64.wrap ((32 : Int) + bI (ix qas (IntKind.u8.wrap (shr IntKind.u64 a0_x (32 : Int))))))))) ∧ (¬(4294967296 : Int) ≤ a0_x → ((65536 : Int) ≤ a0_x → ((256 : Int) ≤ shr IntKind.u64 a0_x (16 : Int) → ((0 : Int) ≤ IntKind.u8.wrap (shr IntKind.u64 (shr IntKind.u64 a0_x (16 : Int)) (8 : Int)) ∧ IntKind.u8.wrap (shr IntKind.u64 (shr IntKind.u64 a0_x (16 : Int)) (8 : Int)) < (qas.length : Int)) ∧ Q (IntKind.i64.wrap (IntKind.i64.wrap (IntKind.i64.wrap ((0 : Int) + (16 : Int)) + (8 : Int)) + bI (ix qas (IntKind.u8.wrap (shr IntKind.u64 (shr IntKind.u64 a0_x (16 : Int)) (8 : Int))))))) ∧ (¬(256 : Int) ≤ shr IntKind.u64 a0_x (16 : Int) → ((0 : Int) ≤ IntKind.u8.wrap (shr IntKind.u64 a0_x (16 : Int)) ∧ IntKind.u8.wrap (shr IntKind.u64 a0_x (16 : Int)) < (qas.length : Int)) ∧ Q (IntKind.i64.wrap (IntKind.i64.wrap ((0 : Int) + (16 : Int)) + bI (ix qas (IntKind.u8.wrap (shr IntKind.u64 a0_x (16 : Int)))))))) ∧ (¬(65536 : Int) ≤ a0_x → ((256 : Int) ≤ a0_x → ((0 : Int) ≤ IntKind.u8.wrap (shr IntKind.u64 a0_x (8 : Int)) ∧ IntKind.u8.wrap (shr IntKind.u64 a0_x (8 : Int)) < (qas.length : Int)) ∧ Q (IntKind.i64.wrap (IntKind.i64.wrap ((0 : Int) + (8 : Int)) + bI (ix qas (IntKind.u8.wrap (shr IntKind.u64 a0_x (8 : Int))))))) ∧ (¬(256 : Int) ≤ a0_x → ((0 : Int) ≤ IntKind.u8.wrap a0_x ∧ IntKind.u8.wrap a0_x < (qas.length : Int)) ∧ Q (IntKind.i64.wrap ((0 : Int) + bI (ix qas (IntKind.u8.wrap a0_x)))))))
theorem qqR {a0_x : Int} (w_0 : (Ty.kd (.int .u64)).wf a0_x) : qih a0_x (fun o0 => o0 = (blen a0_x.toNat : Int)) := by
 obtain ⟨n, rfl⟩ := Int.eq_ofNat_of_zero_le w_0.1
 have hn : n < 18446744073709551616 := by
  have h : ((n : Int)) ≤ (18446744073709551615 : Int) := w_0.2
  omega
 have ht : qas = qft := by decide +kernel
 have s32 : ∀ m : Nat, shr .u64 (m : Int) 32 = ((m / 4294967296 : Nat) : Int) := fun m => qhh (k := 32) (by decide)
 have s16 : ∀ m : Nat, shr .u64 (m : Int) 16 = ((m / 65536 : Nat) : Int) := fun m => qhh (k := 16) (by decide)
 have s8 : ∀ m : Nat, shr .u64 (m : Int) 8 = ((m / 256 : Nat) : Int) := fun m => qhh (k := 8) (by decide)
 have b32 : ∀ m : Nat, 4294967296 ≤ m → blen m = 32 + blen (m / 4294967296) := fun m h => qd5 32 h
 have b16 : ∀ m : Nat, 65536 ≤ m → blen m = 16 + blen (m / 65536) := fun m h => qd5 16 h
 have b8 : ∀ m : Nat, 256 ≤ m → blen m = 8 + blen (m / 256) := fun m h => qd5 8 h
 unfold qih
 simp only [s32, s16, s8, Int.toNat_natCast]
 refine ⟨fun h1 => ⟨fun h2 => ⟨fun h3 => ?_, fun h3 => ?_⟩, fun h2 => ⟨fun h3 => ?_, fun h3 => ?_⟩⟩, fun h1 => ⟨fun h2 => ⟨fun h3 => ?_, fun h3 => ?_⟩, fun h2 => ⟨fun h3 => ?_, fun h3 => ?_⟩⟩⟩
 ·exact qcB (k := 56) (by omega) (by omega) (by rw [b32 n (by omega), b16 _ (by omega), b8 _ (by omega)]; omega) (by decide) ht
 ·exact qcB (k := 48) (by omega) (by omega) (by rw [b32 n (by omega), b16 _ (by omega)]; omega) (by decide) ht
 ·exact qcB (k := 40) (by omega) (by omega) (by rw [b32 n (by omega), b8 _ (by omega)]; omega) (by decide) ht
 ·exact qcB (k := 32) (by omega) (by omega) (by rw [b32 n (by omega)]) (by decide) ht
 ·exact qcB (k := 24) (by omega) (by omega) (by rw [b16 n (by omega), b8 _ (by omega)]; omega) (by decide) ht
 ·exact qcB (k := 16) (by omega) (by omega) (by rw [b16 n (by omega)]) (by decide) ht
 ·exact qcB (k := 8) (by omega) (by omega) (by rw [b8 n (by omega)]) (by decide) ht
 ·exact qcB (k := 0) (by omega) (by omega) (by omega) (by decide) ht
theorem qqQ : (∀ a, qfd.pre a → PM.wfP qfd.pm a (fvc qnV 200 108 qfd a (eqO qfd a))) = (∀ a : Int × Unit, True → (Ty.kd (.int .u64)).wf a.1 → qih a.1 (fun o0 => o0 = (blen (a.1).toNat : Int))) := by kernel_rfl
theorem qtS : qfd.valid Try.prog 108 := qar (X := qnV) (qaH qai (fun b hb => by cases hb; exact qap) qaq trivial) 200 (qqQ.mpr fun a hp w_0 => @qqR a.1 w_0)
noncomputable def qku : Ctr := ⟨[.v (.sl .byte), .v (.sl (.int .u64))], [.ow 5 .byte], some (fun a => (fun (a0_b : List UInt8) (a1_l : List Int) => (a0_b.length + 9 * a1_l.length ≤ 140737488355328 : Prop)) a.1 a.2.1), fun a => (fun (a0_b : List UInt8) (a1_l : List Int) => (((a0_b ++ qbb a1_l), ()), (()))) a.1 a.2.1⟩
noncomputable def qvA : Fx := ⟨seat, some bkT, fns, [(69, qc9), (108, qfd)], [], [], []⟩
def qnX (a0_b : List UInt8) (a1_l : List Int) (Q : (List UInt8) → Prop) : Prop :=
 a0_b.length ≤ (140737488355328 : Nat) ∧ (Ty.byte.kd.sl.wf a0_b → ∃ (x0 : List UInt8 → Int → Prop), ∃ (x1 : List UInt8 → Int → Nat), x0 a0_b (0 : Int) ∧ ∀ (x2 : List UInt8) (x3 : Int), x0 x2 x3 → Ty.byte.kd.sl.wf x2 → (Kd.int IntKind.i64).wf x3 → (x3 < (a1_l.length : Int) → ((0 : Int) ≤ x3 ∧ x3 < (a1_l.length : Int)) ∧ ((Ty.int IntKind.i64).kd.wf (blen (ix a1_l x3).toNat : Int) → (x2.length + (toB (IntKind.u8.wrap (IntKind.i64.wrap ((IntKind.i64.wrap ((blen (ix a1_l x3).toNat : Int) + (7 : Int))).tdiv (8 : Int)))) :: ([] : List UInt8)).length) * (1 : Nat) ≤ (140737488355328 : Nat) ∧ ∃ (x9 : List UInt8 → Int → Prop), ∃ (x10 : List UInt8 → Int → Nat), x9 (x2 ++ toB (IntKind.u8.wrap (IntKind.i64.wrap ((IntKind.i64.wrap ((blen (ix a1_l x3).toNat : Int) + (7 : Int))).tdiv (8 : Int)))) :: ([] : List UInt8)) (IntKind.i64.wrap ((8 : Int) * IntKind.i64.wrap ((IntKind.i64.wrap ((blen (ix a1_l x3).toNat : Int) + (7 : Int))).tdiv (8 : Int)))) ∧ ∀ (x11 : List UInt8) (x12 : Int), x9 x11 x12 → Ty.byte.kd.sl.wf x11 → (Kd.int IntKind.i64).wf x12 → ((0 : Int) < x12 → (0 : Int) ≤ IntKind.i64.wrap (x12 - (8 : Int)) ∧ (x11.length + (toB (IntKind.u8.wrap (shr IntKind.u64 (ix a1_l x3) (IntKind.i64.wrap (x12 - (8 : Int))))) :: ([] : List UInt8)).length) * (1 : Nat) ≤ (140737488355328 : Nat) ∧ x9 (x11 ++ toB (IntKind.u8.wrap (shr IntKind.u64 (ix a1_l x3) (IntKind.i64.wrap (x12 - (8 : Int))))) :: ([] : List UInt8)) (IntKind.i64.wrap (x12 - (8 : Int))) ∧ x10 (x11 ++ toB (IntKind.u8.wrap (shr IntKind.u64 (ix a1_l x3) (IntKind.i64.wrap (x12 - (8 : Int))))) :: ([] : List UInt8)) (IntKind.i64.wrap (x12 - (8 : Int))) < x10 x11 x12) ∧ (¬(0 : Int) < x12 → x3 < (9223372036854775807 : Int) ∧ x0 x11 (x3 + (1 : Int)) ∧ x1 x11 (x3 + (1 : Int)) < x1 x2 x3))) ∧ (¬x3 < (a1_l.length : Int) → Q x2))
theorem qvD {a0_b : List UInt8} {a1_l : List Int} (w_0 : (Ty.kd (.sl .byte)).wf a0_b) (w_1 : (Ty.kd (.sl (.int .u64))).wf a1_l) (hp : a0_b.length + 9 * a1_l.length ≤ 140737488355328) : qnX a0_b a1_l (fun o0 => o0 = (a0_b ++ qbb a1_l)) := by
 have hw : ∀ x ∈ a1_l, ∃ n : Nat, x = (n : Int) ∧ n < 2 ^ 64 := fun x hx => by
  obtain ⟨n, rfl⟩ := Int.eq_ofNat_of_zero_le (w_1.2 x hx).1
  have h : ((n : Int)) ≤ (18446744073709551615 : Int) := (w_1.2 (n : Int) hx).2
  exact ⟨n, rfl, by omega⟩
 have hlen : ∀ j, j ≤ a1_l.length → (qbb (a1_l.take j)).length ≤ 9 * j := by
  intro j
  induction j with
  | zero => intro _; simp [qbb]
  | succ j ih =>
    intro hj
    have hlt : (j : Int) < (a1_l.length : Int) := by omega
    obtain ⟨n, hn, hb⟩ := hw _ (qeU (by omega) hlt)
    have h1 := qbp hb
    have h2 := ih (by omega)
    rw [qb9 hlt]
    unfold qbb at *
    rw [List.flatMap_append, List.length_append]
    simp only [List.flatMap_cons, List.flatMap_nil, List.append_nil, hn, Int.toNat_natCast]
    omega
 unfold qnX
 refine ⟨by omega, fun _ => ⟨fun out i => ∃ j : Nat, i = (j : Int) ∧ j ≤ a1_l.length ∧ out = a0_b ++ qbb (a1_l.take j), fun _ i => a1_l.length - i.toNat, ⟨0, rfl, by omega, by simp [qbb]⟩, ?_⟩⟩
 rintro out i ⟨j, rfl, hj, rfl⟩ _ hwi
 refine ⟨fun hlt => ⟨⟨by omega, hlt⟩, fun _ => ⟨?_, ?_⟩⟩, fun hge => ?_⟩
 ·have := hlen j hj
  simp only [List.length_append, List.length_cons, List.length_nil]
  omega
 ·obtain ⟨n, hn, hb⟩ := hw _ (qeU (by omega) hlt)
  have hbl := qes 64 hb
  have hk := qxQ hbl
  rw [hn]
  simp only [Int.toNat_natCast, hk]
  rw [qtu]
  generalize hkk : (blen n + 7) / 8 = k
  have hk8 : k ≤ 8 := by omega
  have hT : a0_b ++ qbb (a1_l.take (j + 1)) = a0_b ++ qbb (a1_l.take j) ++ [UInt8.ofNat k] ++ be n k := by
   rw [qb9 hlt]
   simp [qbb, numB, hn, hkk]
  have hTl := hlen (j + 1) (by omega)
  have hTl2 : (a0_b ++ qbb (a1_l.take (j + 1))).length ≤ 140737488355328 := by
   rw [List.length_append]
   omega
  refine ⟨fun out at_ => ∃ m : Nat, m ≤ k ∧ at_ = ((8 * m : Nat) : Int) ∧ out ++ be n m = a0_b ++ qbb (a1_l.take (j + 1)), fun _ at_ => at_.toNat, ⟨k, Nat.le_refl _, ?_, hT.symm⟩, ?_⟩
  ·rw [qak (wf64 (by omega) (by omega))]
   omega
  ·rintro out at_ ⟨m, hm, rfl, hout⟩ _ _
   refine ⟨fun hpos => ?_, fun hz => ?_⟩
   ·obtain ⟨m, rfl⟩ : ∃ m', m = m' + 1 := ⟨m - 1, by omega⟩
    have e8 : IntKind.i64.wrap (((8 * (m + 1) : Nat) : Int) - 8) = ((8 * m : Nat) : Int) := by
     rw [qak (wf64 (by omega) (by omega))]
     omega
    rw [e8, qoQ (by omega)]
    have hol := congrArg List.length hout
    simp only [List.length_append, qaQ] at hol
    simp only [List.length_append] at hTl2
    refine ⟨by omega, ?_, ⟨m, by omega, rfl, ?_⟩, ?_⟩
    ·simp only [List.length_cons, List.length_nil]
     omega
    ·rw [← hout]
     simp [be]
    ·show ((8 * m : Nat) : Int).toNat < ((8 * (m + 1) : Nat) : Int).toNat
     omega
   ·have : m = 0 := by omega
    subst this
    have h2 := w_1.1
    unfold LM at h2
    refine ⟨by omega, ⟨j + 1, rfl, by omega, by simpa [be] using hout⟩, ?_⟩
    show a1_l.length - ((j + 1 : Nat) : Int).toNat < a1_l.length - (j : Int).toNat
    omega
 ·have : j = a1_l.length := by omega
  subst this
  rw [List.take_length]
theorem qvB : (∀ a, qku.pre a → PM.wfP qku.pm a (fvc qvA 200 62 qku a (eqO qku a))) = (∀ a : (List UInt8) × (List Int) × Unit, ((a.1).length + 9 * (a.2.1).length ≤ 140737488355328) → (Ty.kd (.sl .byte)).wf a.1 → (Ty.kd (.sl (.int .u64))).wf a.2.1 → qnX a.1 a.2.1 (fun o0 => o0 = ((a.1) ++ qbb (a.2.1)))) := by kernel_rfl
theorem qvC : qku.valid Try.prog 62 := qar (X := qvA) (qaH qai (fun b hb => by cases hb; exact qap) qaq ⟨qgw, qtS, trivial⟩) 200 (qvB.mpr fun a hp w_0 w_1 => @qvD a.1 a.2.1 w_0 w_1 hp)
noncomputable def qhC : Ctr := ⟨[.v (.sl .byte), .v (.sl (.sl .byte))], [.ow 5 .byte], some (fun a => (fun (a0_b : List UInt8) (a1_l : List (List UInt8)) => (a0_b.length + qah a1_l ≤ 140737488355328 : Prop)) a.1 a.2.1), fun a => (fun (a0_b : List UInt8) (a1_l : List (List UInt8)) => (((a0_b ++ qaF a1_l), ()), (()))) a.1 a.2.1⟩
noncomputable def qsR : Fx := ⟨seat, some bkT, fns, [(69, qc9), (62, qku)], [], [], []⟩
def qkm (a0_b : List UInt8) (a1_l : List (List UInt8)) (Q : (List UInt8) → Prop) : Prop :=
 a0_b.length ≤ (140737488355328 : Nat) ∧ (Ty.byte.kd.sl.wf a0_b → ∃ (x0 : List UInt8 → Int → Prop), ∃ (x1 : List UInt8 → Int → Nat), x0 a0_b (0 : Int) ∧ ∀ (x2 : List UInt8) (x3 : Int), x0 x2 x3 → Ty.byte.kd.sl.wf x2 → (Kd.int IntKind.i64).wf x3 → (x3 < (a1_l.length : Int) → ((0 : Int) ≤ x3 ∧ x3 < (a1_l.length : Int)) ∧ x2.length + (9 : Nat) * (IntKind.u64.wrap ((ix a1_l x3).length : Int) :: ([] : List Int)).length ≤ (140737488355328 : Nat) ∧ (Ty.byte.kd.sl.wf (x2 ++ qbb (IntKind.u64.wrap ((ix a1_l x3).length : Int) :: ([] : List Int))) → ((x2 ++ qbb (IntKind.u64.wrap ((ix a1_l x3).length : Int) :: ([] : List Int))).length + (ix a1_l x3).length) * (1 : Nat) ≤ (140737488355328 : Nat) ∧ x3 < (9223372036854775807 : Int) ∧ x0 (x2 ++ qbb (IntKind.u64.wrap ((ix a1_l x3).length : Int) :: ([] : List Int)) ++ ix a1_l x3) (x3 + (1 : Int)) ∧ x1 (x2 ++ qbb (IntKind.u64.wrap ((ix a1_l x3).length : Int) :: ([] : List Int)) ++ ix a1_l x3) (x3 + (1 : Int)) < x1 x2 x3)) ∧ (¬x3 < (a1_l.length : Int) → Q x2))
theorem qtA {a0_b : List UInt8} {a1_l : List (List UInt8)} (w_0 : (Ty.kd (.sl .byte)).wf a0_b) (w_1 : (Ty.kd (.sl (.sl .byte))).wf a1_l) (hp : a0_b.length + qah a1_l ≤ 140737488355328) : qkm a0_b a1_l (fun o0 => o0 = (a0_b ++ qaF a1_l)) := by
 have hw : ∀ x ∈ a1_l, x.length ≤ LM := fun x hx => (w_1.2 x hx).1
 unfold qkm
 refine ⟨by omega, fun _ => ⟨fun out i => ∃ j : Nat, i = (j : Int) ∧ j ≤ a1_l.length ∧ out = a0_b ++ qaF (a1_l.take j), fun _ i => a1_l.length - i.toNat, ⟨0, rfl, by omega, by simp [qaF]⟩, ?_⟩⟩
 rintro out i ⟨j, rfl, hj, rfl⟩ _ _
 refine ⟨fun hlt => ⟨⟨by omega, hlt⟩, ?_, fun _ => ⟨?_, by have := w_1.1; unfold LM at this; omega, ?_, ?_⟩⟩, fun hge => ?_⟩
 ·have h1 := qbx (a1_l.take j) (fun y hy => by have := hw y (List.mem_of_mem_take hy); unfold LM at this; omega)
  have h2 := qdd hlt
  simp only [List.length_append, List.length_cons, List.length_nil]
  omega
 ·have h1 := qbx (a1_l.take j) (fun y hy => by have := hw y (List.mem_of_mem_take hy); unfold LM at this; omega)
  have h2 := qdd hlt
  have h3 := hw _ (qeU (by omega) hlt)
  have h4 : IntKind.u64.wrap ((ix a1_l (j : Int)).length : Int) = ((ix a1_l (j : Int)).length : Int) := qak ⟨by show (0 : Int) ≤ _; omega, by unfold LM at h3; show _ ≤ (18446744073709551615 : Int); omega⟩
  have h5 := qbp (n := (ix a1_l (j : Int)).length) (by unfold LM at h3; omega)
  rw [h4]
  simp only [List.length_append, qbb, List.flatMap_cons, List.flatMap_nil, List.append_nil, Int.toNat_natCast]
  omega
 ·have h3 := hw _ (qeU (by omega) hlt)
  have h4 : IntKind.u64.wrap ((ix a1_l (j : Int)).length : Int) = ((ix a1_l (j : Int)).length : Int) := qak ⟨by show (0 : Int) ≤ _; omega, by unfold LM at h3; show _ ≤ (18446744073709551615 : Int); omega⟩
  refine ⟨j + 1, by omega, by omega, ?_⟩
  rw [h4, qb9 hlt]
  simp [qaF, qbb]
 ·show a1_l.length - ((j : Int) + 1).toNat < a1_l.length - (j : Int).toNat
  omega
 ·have : j = a1_l.length := by omega
  subst this
  rw [List.take_length]
theorem qtz : (∀ a, qhC.pre a → PM.wfP qhC.pm a (fvc qsR 200 95 qhC a (eqO qhC a))) = (∀ a : (List UInt8) × (List (List UInt8)) × Unit, ((a.1).length + qah (a.2.1) ≤ 140737488355328) → (Ty.kd (.sl .byte)).wf a.1 → (Ty.kd (.sl (.sl .byte))).wf a.2.1 → qkm a.1 a.2.1 (fun o0 => o0 = ((a.1) ++ qaF (a.2.1)))) := by kernel_rfl
theorem qvp : qhC.valid Try.prog 95 := qar (X := qsR) (qaH qai (fun b hb => by cases hb; exact qap) qaq ⟨qgw, qvC, trivial⟩) 200 (qtz.mpr fun a hp w_0 w_1 => @qtA a.1 a.2.1 w_0 w_1 hp)
noncomputable def qcN : Ctr := ⟨[.v (.int .i64), .v (.sl (.sl .byte))], [.ow 5 .byte], some (fun a => (fun (a0_kind : Int) (a1_parts : List (List UInt8)) => (1 + qah a1_parts ≤ 140737488355328 : Prop)) a.1 a.2.1), fun a => (fun (a0_kind : Int) (a1_parts : List (List UInt8)) => (((preimage a0_kind a1_parts), ()), (()))) a.1 a.2.1⟩
noncomputable def qhG : Fx := ⟨seat, some bkT, fns, [(95, qhC)], [], [], []⟩
def qeo (a0_kind : Int) (a1_parts : List (List UInt8)) (Q : (List UInt8) → Prop) : Prop :=
 (toB (IntKind.u8.wrap a0_kind) :: ([] : List UInt8)).length + qah a1_parts ≤ (140737488355328 : Nat) ∧ (Ty.byte.kd.sl.wf (toB (IntKind.u8.wrap a0_kind) :: ([] : List UInt8) ++ qaF a1_parts) → Q (toB (IntKind.u8.wrap a0_kind) :: ([] : List UInt8) ++ qaF a1_parts))
theorem qkw {a0_kind : Int} {a1_parts : List (List UInt8)} (w_0 : (Ty.kd (.int .i64)).wf a0_kind) (w_1 : (Ty.kd (.sl (.sl .byte))).wf a1_parts) (hp : 1 + qah a1_parts ≤ 140737488355328) : qeo a0_kind a1_parts (fun o0 => o0 = (preimage a0_kind a1_parts)) := by
 unfold qeo
 refine ⟨by simpa using hp, fun _ => rfl⟩
theorem qkv : (∀ a, qcN.pre a → PM.wfP qcN.pm a (fvc qhG 200 98 qcN a (eqO qcN a))) = (∀ a : Int × (List (List UInt8)) × Unit, (1 + qah (a.2.1) ≤ 140737488355328) → (Ty.kd (.int .i64)).wf a.1 → (Ty.kd (.sl (.sl .byte))).wf a.2.1 → qeo a.1 a.2.1 (fun o0 => o0 = (preimage (a.1) (a.2.1)))) := by kernel_rfl
theorem qmY : qcN.valid Try.prog 98 := qar (X := qhG) (qaH qai (fun b hb => by cases hb; exact qap) qaq ⟨qvp, trivial⟩) 200 (qkv.mpr fun a hp w_0 w_1 => @qkw a.1 a.2.1 w_0 w_1 hp)
noncomputable def qkt : Ctr := ⟨[], [.bx (.pr (.arr 8 (.int .u32)) (.pr (.int .u64) (.sl .byte)))], none, fun _ => ((((List.replicate 8 (0 : Int), (0 : Int), ([] : List UInt8)) : List Int × Int × List UInt8), ()), (()))⟩
noncomputable def qvw : Fx := ⟨seat, some bkT, fns, [], [], [], []⟩
def qsW (Q : ((List Int) × Int × List UInt8) → Prop) : Prop :=
 Q ((Ty.arr (8 : Nat) (Ty.int IntKind.u32)).pr ((Ty.int IntKind.u64).pr Ty.byte.sl)).kd.z
theorem qvz  : qsW  (fun o0 => o0 = ((List.replicate 8 (0 : Int), (0 : Int), ([] : List UInt8)) : List Int × Int × List UInt8)) := by
 exact rfl
theorem qvx : (∀ a, qkt.pre a → PM.wfP qkt.pm a (fvc qvw 200 123 qkt a (eqO qkt a))) = (∀ a : Unit, True → qsW  (fun o0 => o0 = ((List.replicate 8 (0 : Int), (0 : Int), ([] : List UInt8)) : List Int × Int × List UInt8))) := by kernel_rfl
theorem qvy : qkt.valid Try.prog 123 := qar (X := qvw) (qaH qai (fun b hb => by cases hb; exact qap) qaq trivial) 200 (qvx.mpr fun a hp  => @qvz )
noncomputable def qhV : Ctr := ⟨[.v (.int .u64)], [.ow 5 .byte], none, fun a => (fun (a0_x : Int) => (((be a0_x.toNat 8), ()), (()))) a.1⟩
noncomputable def qtb : Fx := ⟨seat, some bkT, fns, [], [], [], []⟩
def qk1 (a0_x : Int) (Q : (List UInt8) → Prop) : Prop :=
 ∃ (x0 : List UInt8 → Int → Prop), ∃ (x1 : List UInt8 → Int → Nat), x0 ([] : List UInt8) (56 : Int) ∧ ∀ (x2 : List UInt8) (x3 : Int), x0 x2 x3 → Ty.byte.kd.sl.wf x2 → (Kd.int IntKind.i64).wf x3 → ((0 : Int) ≤ x3 → (0 : Int) ≤ x3 ∧ (x2.length + (toB (IntKind.u8.wrap (shr IntKind.u64 a0_x x3)) :: ([] : List UInt8)).length) * (1 : Nat) ≤ (140737488355328 : Nat) ∧ x0 (x2 ++ toB (IntKind.u8.wrap (shr IntKind.u64 a0_x x3)) :: ([] : List UInt8)) (IntKind.i64.wrap (x3 - (8 : Int))) ∧ x1 (x2 ++ toB (IntKind.u8.wrap (shr IntKind.u64 a0_x x3)) :: ([] : List UInt8)) (IntKind.i64.wrap (x3 - (8 : Int))) < x1 x2 x3) ∧ (¬(0 : Int) ≤ x3 → Q x2)
theorem quI {a0_x : Int} (w_0 : (Ty.kd (.int .u64)).wf a0_x) : qk1 a0_x (fun o0 => o0 = (be a0_x.toNat 8)) := by
 obtain ⟨n, rfl⟩ := Int.eq_ofNat_of_zero_le w_0.1
 unfold qk1
 rw [Int.toNat_natCast]
 refine ⟨fun b i => ∃ m : Nat, m ≤ 8 ∧ i = 8 * (m : Int) - 8 ∧ b ++ be n m = be n 8, fun _ i => (i + 8).toNat, ⟨8, by omega, by omega, rfl⟩, ?_⟩
 rintro b i ⟨m, hm, rfl, hb⟩ _ _
 have hbl := congrArg List.length hb
 simp only [List.length_append, qaQ] at hbl
 refine ⟨fun h0 => ⟨h0, ?_, ?_, ?_⟩, fun h => ?_⟩
 ·simp only [List.length_cons, List.length_nil]
  omega
 ·obtain ⟨m, rfl⟩ : ∃ m', m = m' + 1 := ⟨m - 1, by omega⟩
  have e : 8 * ((m + 1 : Nat) : Int) - 8 = ((8 * m : Nat) : Int) := by omega
  rw [e, qoQ (by omega), qak (wf64 (by omega) (by omega))]
  refine ⟨m, by omega, by omega, ?_⟩
  rw [← hb]
  simp [be]
 ·rw [qak (wf64 (by omega) (by omega))]
  show (8 * (m : Int) - 8 - 8 + 8).toNat < (8 * (m : Int) - 8 + 8).toNat
  omega
 ·have : m = 0 := by omega
  subst this
  simpa [be] using hb
theorem quH : (∀ a, qhV.pre a → PM.wfP qhV.pm a (fvc qtb 200 139 qhV a (eqO qhV a))) = (∀ a : Int × Unit, True → (Ty.kd (.int .u64)).wf a.1 → qk1 a.1 (fun o0 => o0 = (be (a.1).toNat 8))) := by kernel_rfl
theorem qwB : qhV.valid Try.prog 139 := qar (X := qtb) (qaH qai (fun b hb => by cases hb; exact qap) qaq trivial) 200 (quH.mpr fun a hp w_0 => @quI a.1 w_0)
noncomputable def qfD : Ctr := ⟨[], [.v (.arr 8 (.int .u32))], none, fun _ => ((shaH, ()), (()))⟩
noncomputable def qpa : Fx := ⟨seat, some bkT, fns, [], [], [], []⟩
def qmh (Q : (List Int) → Prop) : Prop :=
 Q ((1779033703 : Int) :: (3144134277 : Int) :: (1013904242 : Int) :: (2773480762 : Int) :: (1359893119 : Int) :: (2600822924 : Int) :: (528734635 : Int) :: (1541459225 : Int) :: ([] : List Int))
theorem qrQ  : qmh  (fun o0 => o0 = shaH) := by
 exact rfl
theorem qrP : (∀ a, qfD.pre a → PM.wfP qfD.pm a (fvc qpa 200 135 qfD a (eqO qfD a))) = (∀ a : Unit, True → qmh  (fun o0 => o0 = shaH)) := by kernel_rfl
theorem quD : qfD.valid Try.prog 135 := qar (X := qpa) (qaH qai (fun b hb => by cases hb; exact qap) qaq trivial) 200 (qrP.mpr fun a hp  => @qrQ )
noncomputable def qed : Ctr := ⟨[], [.v (.arr 64 (.int .u32))], none, fun _ => ((shaK, ()), (()))⟩
noncomputable def qmD : Fx := ⟨seat, some bkT, fns, [], [], [], []⟩
def qj7 (Q : (List Int) → Prop) : Prop :=
 Q ((1116352408 : Int) :: (1899447441 : Int) :: (3049323471 : Int) :: (3921009573 : Int) :: (961987163 : Int) :: (1508970993 : Int) :: (2453635748 : Int) :: (2870763221 : Int) :: (3624381080 : Int) :: (310598401 : Int) :: (607225278 : Int) :: (1426881987 : Int) :: (1925078388 : Int) :: (2162078206 : Int) :: (2614888103 : Int) :: (3248222580 : Int) :: (3835390401 : Int) :: (4022224774 : Int) :: (264347078 : Int) :: (604807628 : Int) :: (770255983 : Int) :: (1249150122 : Int) :: (1555081692 : Int) :: (1996064986 : Int) :: (2554220882 : Int) :: (2821834349 : Int) :: (2952996808 : Int) :: (3210313671 : Int) :: (3336571891 : Int) :: (3584528711 : Int) :: (113926993 : Int) :: (338241895 : Int) :: (666307205 : Int) :: (773529912 : Int) :: (1294757372 : Int) :: (1396182291 : Int) :: (1695183700 : Int) :: (1986661051 : Int) :: (2177026350 : Int) :: (2456956037 : Int) :: (2730485921 : Int) :: (2820302411 : Int) :: (3259730800 : Int) :: (3345764771 : Int) :: (3516065817 : Int) :: (3600352804 : Int) :: (4094571909 : Int) :: (275423344 : Int) :: (430227734 : Int) :: (506948616 : Int) :: (659060556 : Int) :: (883997877 : Int) :: (958139571 : Int) :: (1322822218 : Int) :: (1537002063 : Int) :: (1747873779 : Int) :: (1955562222 : Int) :: (2024104815 : Int) :: (2227730452 : Int) :: (2361852424 : Int) :: (2428436474 : Int) :: (2756734187 : Int) :: (3204031479 : Int) :: (3329325298 : Int) :: ([] : List Int))
theorem qp4  : qj7  (fun o0 => o0 = shaK) := by
 exact rfl
theorem qp3 : (∀ a, qed.pre a → PM.wfP qed.pm a (fvc qmD 200 147 qed a (eqO qed a))) = (∀ a : Unit, True → qj7  (fun o0 => o0 = shaK)) := by kernel_rfl
theorem qsp : qed.valid Try.prog 147 := qar (X := qmD) (qaH qai (fun b hb => by cases hb; exact qap) qaq trivial) 200 (qp3.mpr fun a hp  => @qp4 )
noncomputable def qhK : Ctr := ⟨[.v (.int .u32), .v (.int .i64)], [.v (.int .u32)], none, fun a => (fun (a0_x : Int) (a1_k : Int) => (((rotl a0_x a1_k), ()), (()))) a.1 a.2.1⟩
noncomputable def qs0 : Fx := ⟨seat, some bkT, fns, [], [], [], []⟩
def qow (a0_x : Int) (a1_k : Int) (Q : Int → Prop) : Prop :=
 Q (bor IntKind.u32 (shl IntKind.u32 a0_x (band IntKind.u64 (IntKind.u64.wrap a1_k) (31 : Int))) (shr IntKind.u32 a0_x (IntKind.u64.wrap ((32 : Int) - band IntKind.u64 (IntKind.u64.wrap a1_k) (31 : Int)))))
theorem qug {a0_x : Int} {a1_k : Int} (w_0 : (Ty.kd (.int .u32)).wf a0_x) (w_1 : (Ty.kd (.int .i64)).wf a1_k) : qow a0_x a1_k (fun o0 => o0 = (rotl a0_x a1_k)) := by
 exact rfl
theorem quf : (∀ a, qhK.pre a → PM.wfP qhK.pm a (fvc qs0 200 148 qhK a (eqO qhK a))) = (∀ a : Int × Int × Unit, True → (Ty.kd (.int .u32)).wf a.1 → (Ty.kd (.int .i64)).wf a.2.1 → qow a.1 a.2.1 (fun o0 => o0 = (rotl (a.1) (a.2.1)))) := by kernel_rfl
theorem qv9 : qhK.valid Try.prog 148 := qar (X := qs0) (qaH qai (fun b hb => by cases hb; exact qap) qaq trivial) 200 (quf.mpr fun a hp w_0 w_1 => @qug a.1 a.2.1 w_0 w_1)
noncomputable def qfZ : Ctr := ⟨[.v (.int .u32), .v (.sl (.int .i64))], [.v (.int .u32)], none, fun a => (fun (a0_x : Int) (a1_l : List Int) => (((qau a0_x a1_l), ()), (()))) a.1 a.2.1⟩
noncomputable def qqm : Fx := ⟨seat, some bkT, fns, [(148, qhK)], [], [], []⟩
def qjf (a0_x : Int) (a1_l : List Int) (Q : Int → Prop) : Prop :=
 ∃ (x0 : Int → Int → Prop), ∃ (x1 : Int → Int → Nat), x0 (0 : Int) (0 : Int) ∧ ∀ (x2 x3 : Int), x0 x2 x3 → (Kd.int IntKind.u32).wf x2 → (Kd.int IntKind.i64).wf x3 → (x3 < (a1_l.length : Int) → ((0 : Int) ≤ x3 ∧ x3 < (a1_l.length : Int)) ∧ ((Ty.int IntKind.u32).kd.wf (rotl a0_x (IntKind.i64.wrap ((0 : Int) - ix a1_l x3))) → x3 < (9223372036854775807 : Int) ∧ x0 (bxor IntKind.u32 x2 (rotl a0_x (IntKind.i64.wrap ((0 : Int) - ix a1_l x3)))) (x3 + (1 : Int)) ∧ x1 (bxor IntKind.u32 x2 (rotl a0_x (IntKind.i64.wrap ((0 : Int) - ix a1_l x3)))) (x3 + (1 : Int)) < x1 x2 x3)) ∧ (¬x3 < (a1_l.length : Int) → Q x2)
theorem qsI {a0_x : Int} {a1_l : List Int} (w_0 : (Ty.kd (.int .u32)).wf a0_x) (w_1 : (Ty.kd (.sl (.int .i64))).wf a1_l) : qjf a0_x a1_l (fun o0 => o0 = (qau a0_x a1_l)) := by
 unfold qjf
 refine ⟨fun s i => ∃ j : Nat, i = (j : Int) ∧ j ≤ a1_l.length ∧ s = qau a0_x (a1_l.take j), fun _ i => a1_l.length - i.toNat, ⟨0, rfl, by omega, rfl⟩, ?_⟩
 rintro s i ⟨j, rfl, hj, rfl⟩ _ _
 refine ⟨fun hlt => ⟨⟨by omega, hlt⟩, fun _ => ⟨by have := w_1.1; unfold LM at this; omega, ⟨j + 1, by omega, by omega, ?_⟩, ?_⟩⟩, fun hge => ?_⟩
 ·rw [qb9 hlt]
  simp [qau]
 ·show a1_l.length - ((j : Int) + 1).toNat < a1_l.length - (j : Int).toNat
  omega
 ·have : j = a1_l.length := by omega
  subst this
  rw [List.take_length]
theorem qsH : (∀ a, qfZ.pre a → PM.wfP qfZ.pm a (fvc qqm 200 146 qfZ a (eqO qfZ a))) = (∀ a : Int × (List Int) × Unit, True → (Ty.kd (.int .u32)).wf a.1 → (Ty.kd (.sl (.int .i64))).wf a.2.1 → qjf a.1 a.2.1 (fun o0 => o0 = (qau (a.1) (a.2.1)))) := by kernel_rfl
theorem qva : qfZ.valid Try.prog 146 := qar (X := qqm) (qaH qai (fun b hb => by cases hb; exact qap) qaq ⟨qv9, trivial⟩) 200 (qsH.mpr fun a hp w_0 w_1 => @qsI a.1 a.2.1 w_0 w_1)
noncomputable def qhD : Ctr := ⟨[.bx (.pr (.arr 8 (.int .u32)) (.pr (.int .u64) (.sl .byte))) false], [.v (.int .u64)], none, fun a => (fun (a0_h : (List Int) × Int × List UInt8) => (((hLen a0_h), ()), (()))) a.1⟩
noncomputable def qsS : Fx := ⟨seat, some bkT, fns, [], [], [], [(3, [], [.o 0 2, .o 1 2, .o 2 2, .o 3 2, .o 4 2, .o 5 2, .o 6 2, .o 7 2, .o 8 2, .o 9 2, .o 10 2, .o 11 2, .o 12 2])]⟩
def qnQ (a0_h : (List Int) × Int × List UInt8) (Q : Int → Prop) : Prop :=
 Q (IntKind.u64.wrap (IntKind.u64.wrap ((64 : Int) * a0_h.snd.fst) + IntKind.u64.wrap (a0_h.snd.snd.length : Int)))
theorem qtK {a0_h : (List Int) × Int × List UInt8} (w_0 : (Ty.kd (.pr (.arr 8 (.int .u32)) (.pr (.int .u64) (.sl .byte)))).wf a0_h) : qnQ a0_h (fun o0 => o0 = (hLen a0_h)) := by
 exact rfl
theorem qtJ : (∀ a, qhD.pre a → PM.wfP qhD.pm a (fvc qsS 200 138 qhD a (eqO qhD a))) = (∀ a : ((List Int) × Int × List UInt8) × Unit, True → (Ty.kd (.pr (.arr 8 (.int .u32)) (.pr (.int .u64) (.sl .byte)))).wf a.1 → qnQ a.1 (fun o0 => o0 = (hLen (a.1)))) := by kernel_rfl
theorem qvs : qhD.valid Try.prog 138 := qar (X := qsS) (qaH qai (fun b hb => by cases hb; exact qap) qaq trivial) 200 (qtJ.mpr fun a hp w_0 => @qtK a.1 w_0)
noncomputable def qfb : Ctr := ⟨[.bx (.pr (.arr 8 (.int .u32)) (.pr (.int .u64) (.sl .byte))) false], [.bx (.pr (.arr 8 (.int .u32)) (.pr (.int .u64) (.sl .byte)))], some (fun a => (fun (a0_h : (List Int) × Int × List UInt8) => (a0_h.2.2.length ≤ 140737488355328 : Prop)) a.1), fun a => (fun (a0_h : (List Int) × Int × List UInt8) => ((a0_h, ()), (()))) a.1⟩
noncomputable def qnP : Fx := ⟨seat, some bkT, fns, [(69, qc9)], [], [], []⟩
def qlF (a0_h : (List Int) × Int × List UInt8) (Q : ((List Int) × Int × List UInt8) → Prop) : Prop :=
 a0_h.snd.snd.length ≤ (140737488355328 : Nat) ∧ (Ty.byte.kd.sl.wf a0_h.snd.snd → Q (a0_h.fst, a0_h.snd.fst, a0_h.snd.snd))
theorem qqO {a0_h : (List Int) × Int × List UInt8} (w_0 : (Ty.kd (.pr (.arr 8 (.int .u32)) (.pr (.int .u64) (.sl .byte)))).wf a0_h) (hp : a0_h.2.2.length ≤ 140737488355328) : qlF a0_h (fun o0 => o0 = a0_h) := by
 exact ⟨hp, fun _ => rfl⟩
theorem qqN : (∀ a, qfb.pre a → PM.wfP qfb.pm a (fvc qnP 200 137 qfb a (eqO qfb a))) = (∀ a : ((List Int) × Int × List UInt8) × Unit, ((a.1).2.2.length ≤ 140737488355328) → (Ty.kd (.pr (.arr 8 (.int .u32)) (.pr (.int .u64) (.sl .byte)))).wf a.1 → qlF a.1 (fun o0 => o0 = (a.1))) := by kernel_rfl
theorem qtI : qfb.valid Try.prog 137 := qar (X := qnP) (qaH qai (fun b hb => by cases hb; exact qap) qaq ⟨qgw, trivial⟩) 200 (qqN.mpr fun a hp w_0 => @qqO a.1 w_0 hp)
end Go.Proofs.Ytmjjkpiglbpkhaa

set_option linter.unusedVariables false
set_option maxRecDepth 100000
set_option maxHeartbeats 20000000
namespace Go.Proofs.Ytmjjkpiglbpkhaa
open Go Go.RowKit Go.Inc
noncomputable def qh8 : Ctr := ⟨[.bx (.arr 8 (.int .u32)) true, .v (.sl .byte)], [], some (fun a => (fun (a0_s : List Int) (a1_b : List UInt8) => (a1_b.length = 64 : Prop)) a.1 a.2.1), fun a => (fun (a0_s : List Int) (a1_b : List UInt8) => ((()), ((qbZ a0_s a1_b), ()))) a.1 a.2.1⟩
noncomputable def qto : Fx := ⟨seat, some bkT, fns, [(146, qfZ), (147, qed)], [], [(2, [1], []), (10, [2], []), (18, [0], [])], [(5, [1], [.o 0 2, .o 1 2, .o 2 2, .o 3 2, .o 4 2, .o 5 2, .o 6 2, .o 7 2, .o 8 2, .o 9 2, .o 10 2, .o 11 2, .o 12 2, .o 13 2, .o 14 2, .o 15 2, .o 16 2, .o 17 2, .o 18 2, .o 19 2, .o 20 2, .o 21 2, .o 22 2, .o 23 2, .o 24 2, .o 25 2, .o 26 2, .o 27 2, .o 28 2, .o 29 2, .o 30 2, .o 31 2, .o 32 2, .o 33 2, .o 34 2, .o 35 1]), (6, [1], [.o 0 2, .o 1 2, .o 2 2, .o 3 2, .o 4 2, .o 5 2, .o 6 2, .o 7 2, .o 8 2, .o 9 2, .o 10 2, .o 11 2, .o 12 2, .o 13 2, .o 16 2, .o 17 2, .o 18 2, .o 19 2, .o 20 2, .o 23 2, .o 24 2, .o 25 2, .o 26 2, .o 29 2, .o 30 2, .o 31 2, .o 32 2, .o 33 2, .par [14, 15, 21, 22, 27] (.alt 14 0 (.alt 15 0 (.one 21 2 (.one 22 2 (.one 27 0 .fin))) (.alt 27 0 (.one 15 0 (.one 21 2 (.one 22 2 .fin))) .fin)) (.alt 27 0 (.one 14 0 (.one 15 0 (.one 21 2 (.one 22 2 .fin)))) .fin)), .o 28 0, .o 34 2, .o 35 2, .o 36 2, .o 37 1]), (12, [], [.o 0 2, .o 1 2, .o 2 2, .o 3 2, .o 4 2, .o 5 2]), (13, [], [.o 0 2, .o 1 2, .o 2 2, .o 6 2, .o 7 2, .o 8 2, .o 9 2, .o 10 2, .o 11 2, .o 12 2, .o 13 2, .o 14 2, .o 15 2, .o 17 2, .o 19 2, .o 20 2, .o 21 2, .o 3 0, .o 4 0, .o 5 2, .o 16 2, .o 18 2, .o 22 2, .o 23 2]), (14, [], [.o 0 2, .o 3 2, .o 4 2, .o 5 2, .o 6 2, .o 7 2, .o 8 2, .o 9 2, .o 10 2, .o 11 2, .o 12 2, .o 13 2, .o 14 2, .o 15 2, .o 16 2, .o 17 2, .o 1 0, .o 2 0, .o 18 2, .o 19 2]), (20, [0], [.o 0 2, .o 1 2, .o 2 2, .o 3 2, .o 4 2, .o 5 2, .o 6 2, .o 7 2, .o 8 2, .o 9 2, .o 10 2, .o 11 1])]⟩
def qlo (a0_s : List Int) (a1_b : List UInt8) (Q : (List Int) → Prop) : Prop :=
 ∃ (x0 : Int → List Int → Prop), ∃ (x1 : Int → List Int → Nat), x0 (0 : Int) (Ty.arr (64 : Nat) (Ty.int IntKind.u32)).kd.z ∧ ∀ (x2 : Int) (x3 : List Int), x0 x2 x3 → (Kd.int IntKind.i64).wf x2 → (Ty.arr (64 : Nat) (Ty.int IntKind.u32)).kd.wf x3 → (x2 < (64 : Int) → (x2 < (16 : Int) → ((0 : Int) ≤ IntKind.i64.wrap ((4 : Int) * x2) ∧ IntKind.i64.wrap ((4 : Int) * x2) < (a1_b.length : Int)) ∧ ((0 : Int) ≤ IntKind.i64.wrap (IntKind.i64.wrap ((4 : Int) * x2) + (1 : Int)) ∧ IntKind.i64.wrap (IntKind.i64.wrap ((4 : Int) * x2) + (1 : Int)) < (a1_b.length : Int)) ∧ ((0 : Int) ≤ IntKind.i64.wrap (IntKind.i64.wrap ((4 : Int) * x2) + (2 : Int)) ∧ IntKind.i64.wrap (IntKind.i64.wrap ((4 : Int) * x2) + (2 : Int)) < (a1_b.length : Int)) ∧ ((0 : Int) ≤ IntKind.i64.wrap (IntKind.i64.wrap ((4 : Int) * x2) + (3 : Int)) ∧ IntKind.i64.wrap (IntKind.i64.wrap ((4 : Int) * x2) + (3 : Int)) < (a1_b.length : Int)) ∧ ((0 : Int) ≤ x2 ∧ x2 < ((64 : Nat) : Int)) ∧ x2 < (9223372036854775807 : Int) ∧ x0 (x2 + (1 : Int)) (x3.set x2.toNat (bor IntKind.u32 (bor IntKind.u32 (bor IntKind.u32 (shl IntKind.u32 (bI (ix a1_b (IntKind.i64.wrap ((4 : Int) * x2)))) (24 : Int)) (shl IntKind.u32 (bI (ix a1_b (IntKind.i64.wrap (IntKind.i64.wrap ((4 : Int) * x2) + (1 : Int))))) (16 : Int))) (shl IntKind.u32 (bI (ix a1_b (IntKind.i64.wrap (IntKind.i64.wrap ((4 : Int) * x2) + (2 : Int))))) (8 : Int))) (bI (ix a1_b (IntKind.i64.wrap (IntKind.i64.wrap ((4 : Int) * x2) + (3 : Int))))))) ∧ x1 (x2 + (1 : Int)) (x3.set x2.toNat (bor IntKind.u32 (bor IntKind.u32 (bor IntKind.u32 (shl IntKind.u32 (bI (ix a1_b (IntKind.i64.wrap ((4 : Int) * x2)))) (24 : Int)) (shl IntKind.u32 (bI (ix a1_b (IntKind.i64.wrap (IntKind.i64.wrap ((4 : Int) * x2) + (1 : Int))))) (16 : Int))) (shl IntKind.u32 (bI (ix a1_b (IntKind.i64.wrap (IntKind.i64.wrap ((4 : Int) * x2) + (2 : Int))))) (8 : Int))) (bI (ix a1_b (IntKind.i64.wrap (IntKind.i64.wrap ((4 : Int) * x2) + (3 : Int))))))) < x1 x2 x3) ∧ (¬x2 < (16 : Int) → ((0 : Int) ≤ IntKind.i64.wrap (x2 - (16 : Int)) ∧ IntKind.i64.wrap (x2 - (16 : Int)) < ((64 : Nat) : Int)) ∧ ((0 : Int) ≤ IntKind.i64.wrap (x2 - (7 : Int)) ∧ IntKind.i64.wrap (x2 - (7 : Int)) < ((64 : Nat) : Int)) ∧ ((0 : Int) ≤ IntKind.i64.wrap (x2 - (15 : Int)) ∧ IntKind.i64.wrap (x2 - (15 : Int)) < ((64 : Nat) : Int)) ∧ ((0 : Int) ≤ IntKind.i64.wrap (x2 - (15 : Int)) ∧ IntKind.i64.wrap (x2 - (15 : Int)) < ((64 : Nat) : Int)) ∧ ((0 : Int) ≤ IntKind.i64.wrap (x2 - (2 : Int)) ∧ IntKind.i64.wrap (x2 - (2 : Int)) < ((64 : Nat) : Int)) ∧ ((0 : Int) ≤ IntKind.i64.wrap (x2 - (2 : Int)) ∧ IntKind.i64.wrap (x2 - (2 : Int)) < ((64 : Nat) : Int)) ∧ (((Ty.int IntKind.u32).kd.wf (qau (ix x3 (IntKind.i64.wrap (x2 - (15 : Int)))) ((7 : Int) :: (18 : Int) :: ([] : List Int))) → (Ty.int IntKind.u32).kd.wf (qau (ix x3 (IntKind.i64.wrap (x2 - (2 : Int)))) ((17 : Int) :: (19 : Int) :: ([] : List Int))) → ((0 : Int) ≤ x2 ∧ x2 < ((64 : Nat) : Int)) ∧ x2 < (9223372036854775807 : Int) ∧ x0 (x2 + (1 : Int)) (x3.set x2.toNat (IntKind.u32.wrap (IntKind.u32.wrap (IntKind.u32.wrap (ix x3 (IntKind.i64.wrap (x2 - (16 : Int))) + ix x3 (IntKind.i64.wrap (x2 - (7 : Int)))) + bxor IntKind.u32 (qau (ix x3 (IntKind.i64.wrap (x2 - (15 : Int)))) ((7 : Int) :: (18 : Int) :: ([] : List Int))) (shr IntKind.u32 (ix x3 (IntKind.i64.wrap (x2 - (15 : Int)))) (3 : Int))) + bxor IntKind.u32 (qau (ix x3 (IntKind.i64.wrap (x2 - (2 : Int)))) ((17 : Int) :: (19 : Int) :: ([] : List Int))) (shr IntKind.u32 (ix x3 (IntKind.i64.wrap (x2 - (2 : Int)))) (10 : Int))))) ∧ x1 (x2 + (1 : Int)) (x3.set x2.toNat (IntKind.u32.wrap (IntKind.u32.wrap (IntKind.u32.wrap (ix x3 (IntKind.i64.wrap (x2 - (16 : Int))) + ix x3 (IntKind.i64.wrap (x2 - (7 : Int)))) + bxor IntKind.u32 (qau (ix x3 (IntKind.i64.wrap (x2 - (15 : Int)))) ((7 : Int) :: (18 : Int) :: ([] : List Int))) (shr IntKind.u32 (ix x3 (IntKind.i64.wrap (x2 - (15 : Int)))) (3 : Int))) + bxor IntKind.u32 (qau (ix x3 (IntKind.i64.wrap (x2 - (2 : Int)))) ((17 : Int) :: (19 : Int) :: ([] : List Int))) (shr IntKind.u32 (ix x3 (IntKind.i64.wrap (x2 - (2 : Int)))) (10 : Int))))) < x1 x2 x3) ∧ ((Ty.int IntKind.u32).kd.wf (qau (ix x3 (IntKind.i64.wrap (x2 - (15 : Int)))) ((7 : Int) :: (18 : Int) :: ([] : List Int))) → (Ty.int IntKind.u32).kd.wf (qau (ix x3 (IntKind.i64.wrap (x2 - (2 : Int)))) ((17 : Int) :: (19 : Int) :: ([] : List Int))) → ((0 : Int) ≤ x2 ∧ x2 < ((64 : Nat) : Int)) ∧ x2 < (9223372036854775807 : Int) ∧ x0 (x2 + (1 : Int)) (x3.set x2.toNat (IntKind.u32.wrap (IntKind.u32.wrap (IntKind.u32.wrap (ix x3 (IntKind.i64.wrap (x2 - (16 : Int))) + ix x3 (IntKind.i64.wrap (x2 - (7 : Int)))) + bxor IntKind.u32 (qau (ix x3 (IntKind.i64.wrap (x2 - (15 : Int)))) ((7 : Int) :: (18 : Int) :: ([] : List Int))) (shr IntKind.u32 (ix x3 (IntKind.i64.wrap (x2 - (15 : Int)))) (3 : Int))) + bxor IntKind.u32 (qau (ix x3 (IntKind.i64.wrap (x2 - (2 : Int)))) ((17 : Int) :: (19 : Int) :: ([] : List Int))) (shr IntKind.u32 (ix x3 (IntKind.i64.wrap (x2 - (2 : Int)))) (10 : Int))))) ∧ x1 (x2 + (1 : Int)) (x3.set x2.toNat (IntKind.u32.wrap (IntKind.u32.wrap (IntKind.u32.wrap (ix x3 (IntKind.i64.wrap (x2 - (16 : Int))) + ix x3 (IntKind.i64.wrap (x2 - (7 : Int)))) + bxor IntKind.u32 (qau (ix x3 (IntKind.i64.wrap (x2 - (15 : Int)))) ((7 : Int) :: (18 : Int) :: ([] : List Int))) (shr IntKind.u32 (ix x3 (IntKind.i64.wrap (x2 - (15 : Int)))) (3 : Int))) + bxor IntKind.u32 (qau (ix x3 (IntKind.i64.wrap (x2 - (2 : Int)))) ((17 : Int) :: (19 : Int) :: ([] : List Int))) (shr IntKind.u32 (ix x3 (IntKind.i64.wrap (x2 - (2 : Int)))) (10 : Int))))) < x1 x2 x3) ∧ True) ∧ ((Ty.int IntKind.u32).kd.wf (qau (ix x3 (IntKind.i64.wrap (x2 - (15 : Int)))) ((7 : Int) :: (18 : Int) :: ([] : List Int))) → (Ty.int IntKind.u32).kd.wf (qau (ix x3 (IntKind.i64.wrap (x2 - (2 : Int)))) ((17 : Int) :: (19 : Int) :: ([] : List Int))) → ((0 : Int) ≤ x2 ∧ x2 < ((64 : Nat) : Int)) ∧ x2 < (9223372036854775807 : Int) ∧ x0 (x2 + (1 : Int)) (x3.set x2.toNat (IntKind.u32.wrap (IntKind.u32.wrap (IntKind.u32.wrap (ix x3 (IntKind.i64.wrap (x2 - (16 : Int))) + ix x3 (IntKind.i64.wrap (x2 - (7 : Int)))) + bxor IntKind.u32 (qau (ix x3 (IntKind.i64.wrap (x2 - (15 : Int)))) ((7 : Int) :: (18 : Int) :: ([] : List Int))) (shr IntKind.u32 (ix x3 (IntKind.i64.wrap (x2 - (15 : Int)))) (3 : Int))) + bxor IntKind.u32 (qau (ix x3 (IntKind.i64.wrap (x2 - (2 : Int)))) ((17 : Int) :: (19 : Int) :: ([] : List Int))) (shr IntKind.u32 (ix x3 (IntKind.i64.wrap (x2 - (2 : Int)))) (10 : Int))))) ∧ x1 (x2 + (1 : Int)) (x3.set x2.toNat (IntKind.u32.wrap (IntKind.u32.wrap (IntKind.u32.wrap (ix x3 (IntKind.i64.wrap (x2 - (16 : Int))) + ix x3 (IntKind.i64.wrap (x2 - (7 : Int)))) + bxor IntKind.u32 (qau (ix x3 (IntKind.i64.wrap (x2 - (15 : Int)))) ((7 : Int) :: (18 : Int) :: ([] : List Int))) (shr IntKind.u32 (ix x3 (IntKind.i64.wrap (x2 - (15 : Int)))) (3 : Int))) + bxor IntKind.u32 (qau (ix x3 (IntKind.i64.wrap (x2 - (2 : Int)))) ((17 : Int) :: (19 : Int) :: ([] : List Int))) (shr IntKind.u32 (ix x3 (IntKind.i64.wrap (x2 - (2 : Int)))) (10 : Int))))) < x1 x2 x3) ∧ True)) ∧ (¬x2 < (64 : Int) → (Ty.arr (64 : Nat) (Ty.int IntKind.u32)).kd.wf shaK → ∃ (x9 : Int → List Int → Prop), ∃ (x10 : Int → List Int → Nat), x9 (0 : Int) a0_s ∧ ∀ (x11 : Int) (x12 : List Int), x9 x11 x12 → (Kd.int IntKind.i64).wf x11 → (Ty.arr (8 : Nat) (Ty.int IntKind.u32)).kd.wf x12 → (x11 < (64 : Int) → ((0 : Int) ≤ x11 ∧ x11 < ((64 : Nat) : Int)) ∧ ((0 : Int) ≤ x11 ∧ x11 < ((64 : Nat) : Int)) ∧ ((Ty.int IntKind.u32).kd.wf (qau (ix x12 (4 : Int)) ((6 : Int) :: (11 : Int) :: (25 : Int) :: ([] : List Int))) → (Ty.int IntKind.u32).kd.wf (qau (ix x12 (0 : Int)) ((2 : Int) :: (13 : Int) :: (22 : Int) :: ([] : List Int))) → x11 < (9223372036854775807 : Int) ∧ x9 (x11 + (1 : Int)) (IntKind.u32.wrap (IntKind.u32.wrap (IntKind.u32.wrap (IntKind.u32.wrap (IntKind.u32.wrap (ix x12 (7 : Int) + qau (ix x12 (4 : Int)) ((6 : Int) :: (11 : Int) :: (25 : Int) :: ([] : List Int))) + bxor IntKind.u32 (band IntKind.u32 (ix x12 (4 : Int)) (ix x12 (5 : Int))) (band IntKind.u32 (bxor IntKind.u32 (if IntKind.u32.signed = true then (-1 : Int) else IntKind.u32.max) (ix x12 (4 : Int))) (ix x12 (6 : Int)))) + ix shaK x11) + ix x3 x11) + IntKind.u32.wrap (qau (ix x12 (0 : Int)) ((2 : Int) :: (13 : Int) :: (22 : Int) :: ([] : List Int)) + bxor IntKind.u32 (bxor IntKind.u32 (band IntKind.u32 (ix x12 (0 : Int)) (ix x12 (1 : Int))) (band IntKind.u32 (ix x12 (0 : Int)) (ix x12 (2 : Int)))) (band IntKind.u32 (ix x12 (1 : Int)) (ix x12 (2 : Int))))) :: ix x12 (0 : Int) :: ix x12 (1 : Int) :: ix x12 (2 : Int) :: IntKind.u32.wrap (ix x12 (3 : Int) + IntKind.u32.wrap (IntKind.u32.wrap (IntKind.u32.wrap (IntKind.u32.wrap (ix x12 (7 : Int) + qau (ix x12 (4 : Int)) ((6 : Int) :: (11 : Int) :: (25 : Int) :: ([] : List Int))) + bxor IntKind.u32 (band IntKind.u32 (ix x12 (4 : Int)) (ix x12 (5 : Int))) (band IntKind.u32 (bxor IntKind.u32 (if IntKind.u32.signed = true then (-1 : Int) else IntKind.u32.max) (ix x12 (4 : Int))) (ix x12 (6 : Int)))) + ix shaK x11) + ix x3 x11)) :: ix x12 (4 : Int) :: ix x12 (5 : Int) :: ix x12 (6 : Int) :: ([] : List Int)) ∧ x10 (x11 + (1 : Int)) (IntKind.u32.wrap (IntKind.u32.wrap (IntKind.u32.wrap (IntKind.u32.wrap (IntKind.u32.wrap (ix x12 (7 : Int) + qau (ix x12 (4 : Int)) ((6 : Int) :: (11 : Int) :: (25 : Int) :: ([] : List Int))) + bxor IntKind.u32 (band IntKind.u32 (ix x12 (4 : Int)) (ix x12 (5 : Int))) (band IntKind.u32 (bxor IntKind.u32 (if IntKind.u32.signed = true then (-1 : Int) else IntKind.u32.max) (ix x12 (4 : Int))) (ix x12 (6 : Int)))) + ix shaK x11) + ix x3 x11) + IntKind.u32.wrap (qau (ix x12 (0 : Int)) ((2 : Int) :: (13 : Int) :: (22 : Int) :: ([] : List Int)) + bxor IntKind.u32 (bxor IntKind.u32 (band IntKind.u32 (ix x12 (0 : Int)) (ix x12 (1 : Int))) (band IntKind.u32 (ix x12 (0 : Int)) (ix x12 (2 : Int)))) (band IntKind.u32 (ix x12 (1 : Int)) (ix x12 (2 : Int))))) :: ix x12 (0 : Int) :: ix x12 (1 : Int) :: ix x12 (2 : Int) :: IntKind.u32.wrap (ix x12 (3 : Int) + IntKind.u32.wrap (IntKind.u32.wrap (IntKind.u32.wrap (IntKind.u32.wrap (ix x12 (7 : Int) + qau (ix x12 (4 : Int)) ((6 : Int) :: (11 : Int) :: (25 : Int) :: ([] : List Int))) + bxor IntKind.u32 (band IntKind.u32 (ix x12 (4 : Int)) (ix x12 (5 : Int))) (band IntKind.u32 (bxor IntKind.u32 (if IntKind.u32.signed = true then (-1 : Int) else IntKind.u32.max) (ix x12 (4 : Int))) (ix x12 (6 : Int)))) + ix shaK x11) + ix x3 x11)) :: ix x12 (4 : Int) :: ix x12 (5 : Int) :: ix x12 (6 : Int) :: ([] : List Int)) < x10 x11 x12)) ∧ (¬x11 < (64 : Int) → ∃ (x17 : Int → List Int → Prop), ∃ (x18 : Int → List Int → Nat), x17 (0 : Int) a0_s ∧ ∀ (x19 : Int) (x20 : List Int), x17 x19 x20 → (Kd.int IntKind.i64).wf x19 → (Ty.arr (8 : Nat) (Ty.int IntKind.u32)).kd.wf x20 → (x19 < (8 : Int) → ((0 : Int) ≤ x19 ∧ x19 < ((8 : Nat) : Int)) ∧ ((0 : Int) ≤ x19 ∧ x19 < ((8 : Nat) : Int)) ∧ ((0 : Int) ≤ x19 ∧ x19 < ((8 : Nat) : Int)) ∧ x19 < (9223372036854775807 : Int) ∧ x17 (x19 + (1 : Int)) (x20.set x19.toNat (IntKind.u32.wrap (ix x20 x19 + ix x12 x19))) ∧ x18 (x19 + (1 : Int)) (x20.set x19.toNat (IntKind.u32.wrap (ix x20 x19 + ix x12 x19))) < x18 x19 x20) ∧ (¬x19 < (8 : Int) → Q x20)))
theorem qu5 {a0_s : List Int} {a1_b : List UInt8} (w_0 : (Ty.kd (.arr 8 (.int .u32))).wf a0_s) (w_1 : (Ty.kd (.sl .byte)).wf a1_b) (hp : a1_b.length = 64) : qlo a0_s a1_b (fun o0 => o0 = (qbZ a0_s a1_b)) := by
 have wr : ∀ a : Int, -1000 ≤ a → a ≤ 1000 → IntKind.i64.wrap a = a := fun a h1 h2 => qak (wf64 (by omega) (by omega))
 unfold qlo
 refine ⟨fun i w => ∃ n : Nat, i = (n : Int) ∧ n ≤ 64 ∧ w = qaE a1_b n, fun i _ => 64 - i.toNat, ⟨0, rfl, by omega, rfl⟩, ?_⟩
 rintro i w ⟨n, rfl, hn, rfl⟩ _ _
 refine ⟨fun hlt => ⟨fun h16 => ?_, fun h16 => ?_⟩, fun hge _ => ?_⟩
 ·rw [wr (4 * (n : Int)) (by omega) (by omega), wr (4 * (n : Int) + 1) (by omega) (by omega), wr (4 * (n : Int) + 2) (by omega) (by omega), wr (4 * (n : Int) + 3) (by omega) (by omega)]
  refine ⟨by omega, by omega, by omega, by omega, by omega, by omega, ⟨n + 1, by omega, by omega, ?_⟩, ?_⟩
  ·simp only [qaE, Int.toNat_natCast]
   rw [if_pos (by omega)]
   rfl
  ·show 64 - ((n : Int) + 1).toNat < 64 - (n : Int).toNat
   omega
 ·rw [wr ((n : Int) - 16) (by omega) (by omega), wr ((n : Int) - 7) (by omega) (by omega), wr ((n : Int) - 15) (by omega) (by omega), wr ((n : Int) - 2) (by omega) (by omega)]
  iterate 14 (all_goals (try intros); all_goals (try omega); all_goals (try (refine And.intro ?_ ?_)))
  all_goals first | trivial | omega | exact ⟨n + 1, by omega, by omega, by simp only [qaE, Int.toNat_natCast]; rw [if_neg (by omega)]; rfl⟩ | (show 64 - ((n : Int) + 1).toNat < 64 - (n : Int).toNat; omega)
 ·have : n = 64 := by omega
  subst this
  refine ⟨fun i x => ∃ n : Nat, i = (n : Int) ∧ n ≤ 64 ∧ x = qbE (qaE a1_b 64) a0_s n, fun i _ => 64 - i.toNat, ⟨0, rfl, by omega, rfl⟩, ?_⟩
  rintro i x ⟨n, rfl, hn, rfl⟩ _ _
  refine ⟨fun hlt => ?_, fun hge => ?_⟩
  ·iterate 14 (all_goals (try intros); all_goals (try omega); all_goals (try (refine And.intro ?_ ?_)))
   all_goals first | trivial | omega | exact ⟨n + 1, by omega, by omega, rfl⟩ | (show 64 - ((n : Int) + 1).toNat < 64 - (n : Int).toNat; omega)
  ·have : n = 64 := by omega
   subst this
   refine ⟨fun i s => ∃ n : Nat, i = (n : Int) ∧ n ≤ 8 ∧ s = addN a0_s (qbE (qaE a1_b 64) a0_s 64) n, fun i _ => 8 - i.toNat, ⟨0, rfl, by omega, rfl⟩, ?_⟩
   rintro i s ⟨n, rfl, hn, rfl⟩ _ _
   refine ⟨fun hlt => ?_, fun hge => ?_⟩
   ·iterate 14 (all_goals (try intros); all_goals (try omega); all_goals (try (refine And.intro ?_ ?_)))
    all_goals first | trivial | omega | exact ⟨n + 1, by omega, by omega, by simp [addN]⟩ | (show 8 - ((n : Int) + 1).toNat < 8 - (n : Int).toNat; omega)
   ·have : n = 8 := by omega
    subst this
    rfl
theorem qu4 : (∀ a, qh8.pre a → PM.wfP qh8.pm a (fvc qto 200 136 qh8 a (eqO qh8 a))) = (∀ a : (List Int) × (List UInt8) × Unit, ((a.2.1).length = 64) → (Ty.kd (.arr 8 (.int .u32))).wf a.1 → (Ty.kd (.sl .byte)).wf a.2.1 → qlo a.1 a.2.1 (fun o0 => o0 = (qbZ (a.1) (a.2.1)))) := by kernel_rfl
theorem qwP : qh8.valid Try.prog 136 := qar (X := qto) (qaH qai (fun b hb => by cases hb; exact qap) qaq ⟨qva, qsp, trivial⟩) 200 (qu4.mpr fun a hp w_0 w_1 => @qu5 a.1 a.2.1 w_0 w_1 hp)
end Go.Proofs.Ytmjjkpiglbpkhaa

set_option linter.unusedVariables false
set_option maxRecDepth 100000
set_option maxHeartbeats 20000000
namespace Go.Proofs.Ytmjjkpiglbpkhaa
open Go Go.RowKit Go.Inc
noncomputable def qda : Ctr := ⟨[.bx (.pr (.arr 8 (.int .u32)) (.pr (.int .u64) (.sl .byte))) true, .v (.sl (.sl .byte))], [], some (fun a => (fun (a0_h : (List Int) × Int × List UInt8) (a1_parts : List (List UInt8)) => ((1 + a1_parts.length) * 24 ≤ 140737488355328 ∧ (a0_h.2.2 ++ a1_parts.flatten).length ≤ 140737488355328 : Prop)) a.1 a.2.1), fun a => (fun (a0_h : (List Int) × Int × List UInt8) (a1_parts : List (List UInt8)) => ((()), ((qaz a0_h a1_parts), ()))) a.1 a.2.1⟩
noncomputable def qlG : Fx := ⟨seat, some bkT, fns, [(134, qlC), (135, qfD), (136, qh8)], [], [(2, [0], [])], [(6, [0, 1, 2, 3, 4, 5, 6, 7, 8, 9, 10, 11, 12], [.o 0 2, .o 1 2, .o 2 2, .o 3 2, .o 4 2, .o 5 2, .o 6 2, .o 7 2, .o 8 1])]⟩
def qgy (a0_h : (List Int) × Int × List UInt8) (a1_parts : List (List UInt8)) (Q : ((List Int) × Int × List UInt8) → Prop) : Prop :=
 ((a0_h.snd.snd :: ([] : List (List UInt8))).length + a1_parts.length) * (24 : Nat) ≤ (140737488355328 : Nat) ∧ (a0_h.snd.snd :: ([] : List (List UInt8)) ++ a1_parts).flatten.length ≤ (140737488355328 : Nat) ∧ (Ty.byte.kd.sl.wf (a0_h.snd.snd :: ([] : List (List UInt8)) ++ a1_parts).flatten → ∃ (x0 : List Int × Int × List UInt8 → Prop), ∃ (x1 : List Int × Int × List UInt8 → Nat), x0 (a0_h.fst, a0_h.snd.fst, (a0_h.snd.snd :: ([] : List (List UInt8)) ++ a1_parts).flatten) ∧ ∀ (x2 : List Int × Int × List UInt8), x0 x2 → ((Ty.arr (8 : Nat) (Ty.int IntKind.u32)).pr ((Ty.int IntKind.u64).pr Ty.byte.sl)).kd.wf x2 → ((64 : Int) ≤ (x2.snd.snd.length : Int) → (x2.snd.fst = (0 : Int) → (Ty.arr (8 : Nat) (Ty.int IntKind.u32)).kd.wf shaH → ((0 : Int) ≤ (64 : Int) ∧ (64 : Int) ≤ (x2.snd.snd.length : Int)) ∧ (List.take (Int.toNat (64 : Int)) x2.snd.snd).length = (64 : Nat) ∧ ((0 : Int) ≤ (64 : Int) ∧ (64 : Int) ≤ (x2.snd.snd.length : Int)) ∧ x0 (qbZ shaH (List.take (Int.toNat (64 : Int)) x2.snd.snd), IntKind.u64.wrap (x2.snd.fst + (1 : Int)), List.drop (Int.toNat (64 : Int)) x2.snd.snd) ∧ x1 (qbZ shaH (List.take (Int.toNat (64 : Int)) x2.snd.snd), IntKind.u64.wrap (x2.snd.fst + (1 : Int)), List.drop (Int.toNat (64 : Int)) x2.snd.snd) < x1 x2) ∧ (¬x2.snd.fst = (0 : Int) → ((0 : Int) ≤ (64 : Int) ∧ (64 : Int) ≤ (x2.snd.snd.length : Int)) ∧ (List.take (Int.toNat (64 : Int)) x2.snd.snd).length = (64 : Nat) ∧ ((0 : Int) ≤ (64 : Int) ∧ (64 : Int) ≤ (x2.snd.snd.length : Int)) ∧ x0 (qbZ x2.fst (List.take (Int.toNat (64 : Int)) x2.snd.snd), IntKind.u64.wrap (x2.snd.fst + (1 : Int)), List.drop (Int.toNat (64 : Int)) x2.snd.snd) ∧ x1 (qbZ x2.fst (List.take (Int.toNat (64 : Int)) x2.snd.snd), IntKind.u64.wrap (x2.snd.fst + (1 : Int)), List.drop (Int.toNat (64 : Int)) x2.snd.snd) < x1 x2)) ∧ (¬(64 : Int) ≤ (x2.snd.snd.length : Int) → Q x2))
theorem qnS {a0_h : (List Int) × Int × List UInt8} {a1_parts : List (List UInt8)} (w_0 : (Ty.kd (.pr (.arr 8 (.int .u32)) (.pr (.int .u64) (.sl .byte)))).wf a0_h) (w_1 : (Ty.kd (.sl (.sl .byte))).wf a1_parts) (hp : (1 + a1_parts.length) * 24 ≤ 140737488355328 ∧ (a0_h.2.2 ++ a1_parts.flatten).length ≤ 140737488355328) : qgy a0_h a1_parts (fun o0 => o0 = (qaz a0_h a1_parts)) := by
 obtain ⟨h1, h2⟩ := hp
 unfold qgy
 refine ⟨by simp only [List.length_cons, List.length_nil]; omega, by simpa using h2, fun _ => ⟨fun b => eat b.1 b.2.1 b.2.2 = qaz a0_h a1_parts, fun b => b.2.2.length, by simp [qaz], ?_⟩⟩
 rintro ⟨s, n, r⟩ hI hwf
 refine ⟨fun h64 => ?_, fun h64 => ?_⟩
 ·have hl : 64 ≤ r.length := by
   have h : (64 : Int) ≤ (r.length : Int) := h64
   omega
  have ht : (r.take 64).length = 64 := by rw [List.length_take]; omega
  have hd : (r.drop 64).length < r.length := by rw [List.length_drop]; omega
  dsimp only at hI ⊢
  rw [eat, if_pos hl] at hI
  refine ⟨fun h0 _ => ⟨⟨by omega, by omega⟩, ht, ⟨by omega, by omega⟩, ?_, hd⟩, fun h0 => ⟨⟨by omega, by omega⟩, ht, ⟨by omega, by omega⟩, ?_, hd⟩⟩
  ·rw [if_pos h0] at hI
   exact hI
  ·rw [if_neg h0] at hI
   exact hI
 ·have hl : ¬ (64 ≤ r.length) := fun h => h64 (by show (64 : Int) ≤ (r.length : Int); omega)
  dsimp only at hI ⊢
  rw [eat, if_neg hl] at hI
  exact hI
theorem qnR : (∀ a, qda.pre a → PM.wfP qda.pm a (fvc qlG 200 124 qda a (eqO qda a))) = (∀ a : ((List Int) × Int × List UInt8) × (List (List UInt8)) × Unit, ((1 + (a.2.1).length) * 24 ≤ 140737488355328 ∧ ((a.1).2.2 ++ (a.2.1).flatten).length ≤ 140737488355328) → (Ty.kd (.pr (.arr 8 (.int .u32)) (.pr (.int .u64) (.sl .byte)))).wf a.1 → (Ty.kd (.sl (.sl .byte))).wf a.2.1 → qgy a.1 a.2.1 (fun o0 => o0 = (qaz (a.1) (a.2.1)))) := by kernel_rfl
theorem qlH : qda.valid Try.prog 124 := qar (X := qlG) (qaH qai (fun b hb => by cases hb; exact qap) qaq ⟨qqI, quD, qwP, trivial⟩) 200 (qnR.mpr fun a hp w_0 w_1 => @qnS a.1 a.2.1 w_0 w_1 hp)
noncomputable def qhE : Ctr := ⟨[.bx (.pr (.arr 8 (.int .u32)) (.pr (.int .u64) (.sl .byte))) false], [.v (.arr 32 .byte)], some (fun a => (fun (a0_h : (List Int) × Int × List UInt8) => (a0_h.2.2.length < 64 : Prop)) a.1), fun a => (fun (a0_h : (List Int) × Int × List UInt8) => (((hSum a0_h), ()), (()))) a.1⟩
noncomputable def qsT : Fx := ⟨seat, some bkT, fns, [(123, qkt), (137, qfb), (138, qhD), (139, qhV), (124, qda)], [], [(8, [8], [])], [(5, [0, 1, 2, 3, 4, 5, 6, 7, 8, 9, 10, 11, 12], [.o 0 2, .o 2 2, .o 3 2, .o 4 2, .o 5 2, .o 6 2, .o 7 2, .o 8 2, .o 10 2, .o 11 2, .par [1, 9, 12] (.alt 1 0 (.alt 9 0 (.one 12 0 .fin) (.alt 12 0 (.one 9 0 .fin) .fin)) (.alt 9 0 (.alt 1 0 (.one 12 0 .fin) (.alt 12 0 (.one 1 0 .fin) .fin)) (.alt 12 0 (.alt 1 0 (.one 9 0 .fin) (.alt 9 0 (.one 1 0 .fin) .fin)) .fin))), .o 13 0, .o 14 1]), (10, [0, 1, 2, 3, 4, 5, 6, 7, 8, 9, 10, 11, 12], [.o 0 2, .o 1 2, .o 2 2, .o 3 2, .o 4 2, .o 5 0, .o 6 2, .o 7 1])]⟩
def qko (a0_h : (List Int) × Int × List UInt8) (Q : (List UInt8) → Prop) : Prop :=
 ((Ty.arr (8 : Nat) (Ty.int IntKind.u32)).pr ((Ty.int IntKind.u64).pr Ty.byte.sl)).kd.wf (List.replicate (8 : Nat) (0 : Int), (0 : Int), ([] : List UInt8)) → a0_h.snd.snd.length ≤ (140737488355328 : Nat) ∧ (((Ty.arr (8 : Nat) (Ty.int IntKind.u32)).pr ((Ty.int IntKind.u64).pr Ty.byte.sl)).kd.wf a0_h → (Ty.int IntKind.u64).kd.wf (hLen a0_h) → ((((0 : Int) ≤ (IntKind.i64.wrap ((119 : Int) - (a0_h.snd.snd.length : Int))).tmod (64 : Int) ∧ (IntKind.i64.wrap ((119 : Int) - (a0_h.snd.snd.length : Int))).tmod (64 : Int) ≤ (IntKind.i64.wrap ((119 : Int) - (a0_h.snd.snd.length : Int))).tmod (64 : Int) ∧ ((1 : Nat) : Int) * (IntKind.i64.wrap ((119 : Int) - (a0_h.snd.snd.length : Int))).tmod (64 : Int) ≤ (281474976710656 : Int) ∧ (IntKind.i64.wrap ((119 : Int) - (a0_h.snd.snd.length : Int))).tmod (64 : Int) ≤ (281474976710656 : Int)) ∧ (Ty.byte.kd.sl.wf (be (IntKind.u64.wrap ((8 : Int) * hLen a0_h)).toNat (8 : Nat)) → (((1 : Nat) + ((toB (128 : Int) :: ([] : List UInt8)) :: List.replicate ((IntKind.i64.wrap ((119 : Int) - (a0_h.snd.snd.length : Int))).tmod (64 : Int)).toNat Ty.byte.kd.z :: be (IntKind.u64.wrap ((8 : Int) * hLen a0_h)).toNat (8 : Nat) :: ([] : List (List UInt8))).length) * (24 : Nat) ≤ (140737488355328 : Nat) ∧ (a0_h.snd.snd ++ ((toB (128 : Int) :: ([] : List UInt8)) :: List.replicate ((IntKind.i64.wrap ((119 : Int) - (a0_h.snd.snd.length : Int))).tmod (64 : Int)).toNat Ty.byte.kd.z :: be (IntKind.u64.wrap ((8 : Int) * hLen a0_h)).toNat (8 : Nat) :: ([] : List (List UInt8))).flatten).length ≤ (140737488355328 : Nat)) ∧ ∃ (x0 : Int → List UInt8 → Prop), ∃ (x1 : Int → List UInt8 → Nat), x0 (0 : Int) (Ty.arr (32 : Nat) Ty.byte).kd.z ∧ ∀ (x2 : Int) (x3 : List UInt8), x0 x2 x3 → (Kd.int IntKind.i64).wf x2 → (Ty.arr (32 : Nat) Ty.byte).kd.wf x3 → (x2 < (8 : Int) → ((0 : Int) ≤ x2 ∧ x2 < ((8 : Nat) : Int)) ∧ ((0 : Int) ≤ IntKind.i64.wrap ((4 : Int) * x2) ∧ IntKind.i64.wrap ((4 : Int) * x2) ≤ ((32 : Nat) : Int) ∧ ((32 : Nat) : Int) ≤ ((32 : Nat) : Int) ∧ IntKind.i64.wrap ((4 : Int) * x2) < ((32 : Nat) : Int)) ∧ (Ty.byte.kd.sl.wf (be (ix (qaz a0_h ((toB (128 : Int) :: ([] : List UInt8)) :: List.replicate ((IntKind.i64.wrap ((119 : Int) - (a0_h.snd.snd.length : Int))).tmod (64 : Int)).toNat Ty.byte.kd.z :: be (IntKind.u64.wrap ((8 : Int) * hLen a0_h)).toNat (8 : Nat) :: ([] : List (List UInt8)))).fst x2).toNat (8 : Nat)) → ((0 : Int) ≤ (4 : Int) ∧ (4 : Int) ≤ ((be (ix (qaz a0_h ((toB (128 : Int) :: ([] : List UInt8)) :: List.replicate ((IntKind.i64.wrap ((119 : Int) - (a0_h.snd.snd.length : Int))).tmod (64 : Int)).toNat Ty.byte.kd.z :: be (IntKind.u64.wrap ((8 : Int) * hLen a0_h)).toNat (8 : Nat) :: ([] : List (List UInt8)))).fst x2).toNat (8 : Nat)).length : Int)) ∧ x2 < (9223372036854775807 : Int) ∧ x0 (x2 + (1 : Int)) (List.take (IntKind.i64.wrap ((4 : Int) * x2)).toNat x3 ++ List.take (((32 : Nat) : Int).toNat - (IntKind.i64.wrap ((4 : Int) * x2)).toNat) (List.drop (Int.toNat (4 : Int)) (be (ix (qaz a0_h ((toB (128 : Int) :: ([] : List UInt8)) :: List.replicate ((IntKind.i64.wrap ((119 : Int) - (a0_h.snd.snd.length : Int))).tmod (64 : Int)).toNat Ty.byte.kd.z :: be (IntKind.u64.wrap ((8 : Int) * hLen a0_h)).toNat (8 : Nat) :: ([] : List (List UInt8)))).fst x2).toNat (8 : Nat))) ++ List.drop ((IntKind.i64.wrap ((4 : Int) * x2)).toNat + min (List.drop (Int.toNat (4 : Int)) (be (ix (qaz a0_h ((toB (128 : Int) :: ([] : List UInt8)) :: List.replicate ((IntKind.i64.wrap ((119 : Int) - (a0_h.snd.snd.length : Int))).tmod (64 : Int)).toNat Ty.byte.kd.z :: be (IntKind.u64.wrap ((8 : Int) * hLen a0_h)).toNat (8 : Nat) :: ([] : List (List UInt8)))).fst x2).toNat (8 : Nat))).length (((32 : Nat) : Int).toNat - (IntKind.i64.wrap ((4 : Int) * x2)).toNat)) x3) ∧ x1 (x2 + (1 : Int)) (List.take (IntKind.i64.wrap ((4 : Int) * x2)).toNat x3 ++ List.take (((32 : Nat) : Int).toNat - (IntKind.i64.wrap ((4 : Int) * x2)).toNat) (List.drop (Int.toNat (4 : Int)) (be (ix (qaz a0_h ((toB (128 : Int) :: ([] : List UInt8)) :: List.replicate ((IntKind.i64.wrap ((119 : Int) - (a0_h.snd.snd.length : Int))).tmod (64 : Int)).toNat Ty.byte.kd.z :: be (IntKind.u64.wrap ((8 : Int) * hLen a0_h)).toNat (8 : Nat) :: ([] : List (List UInt8)))).fst x2).toNat (8 : Nat))) ++ List.drop ((IntKind.i64.wrap ((4 : Int) * x2)).toNat + min (List.drop (Int.toNat (4 : Int)) (be (ix (qaz a0_h ((toB (128 : Int) :: ([] : List UInt8)) :: List.replicate ((IntKind.i64.wrap ((119 : Int) - (a0_h.snd.snd.length : Int))).tmod (64 : Int)).toNat Ty.byte.kd.z :: be (IntKind.u64.wrap ((8 : Int) * hLen a0_h)).toNat (8 : Nat) :: ([] : List (List UInt8)))).fst x2).toNat (8 : Nat))).length (((32 : Nat) : Int).toNat - (IntKind.i64.wrap ((4 : Int) * x2)).toNat)) x3) < x1 x2 x3)) ∧ (¬x2 < (8 : Int) → Q x3))) ∧ (Ty.byte.kd.sl.wf (be (IntKind.u64.wrap ((8 : Int) * hLen a0_h)).toNat (8 : Nat)) → ((0 : Int) ≤ (IntKind.i64.wrap ((119 : Int) - (a0_h.snd.snd.length : Int))).tmod (64 : Int) ∧ (IntKind.i64.wrap ((119 : Int) - (a0_h.snd.snd.length : Int))).tmod (64 : Int) ≤ (IntKind.i64.wrap ((119 : Int) - (a0_h.snd.snd.length : Int))).tmod (64 : Int) ∧ ((1 : Nat) : Int) * (IntKind.i64.wrap ((119 : Int) - (a0_h.snd.snd.length : Int))).tmod (64 : Int) ≤ (281474976710656 : Int) ∧ (IntKind.i64.wrap ((119 : Int) - (a0_h.snd.snd.length : Int))).tmod (64 : Int) ≤ (281474976710656 : Int)) ∧ (((1 : Nat) + ((toB (128 : Int) :: ([] : List UInt8)) :: List.replicate ((IntKind.i64.wrap ((119 : Int) - (a0_h.snd.snd.length : Int))).tmod (64 : Int)).toNat Ty.byte.kd.z :: be (IntKind.u64.wrap ((8 : Int) * hLen a0_h)).toNat (8 : Nat) :: ([] : List (List UInt8))).length) * (24 : Nat) ≤ (140737488355328 : Nat) ∧ (a0_h.snd.snd ++ ((toB (128 : Int) :: ([] : List UInt8)) :: List.replicate ((IntKind.i64.wrap ((119 : Int) - (a0_h.snd.snd.length : Int))).tmod (64 : Int)).toNat Ty.byte.kd.z :: be (IntKind.u64.wrap ((8 : Int) * hLen a0_h)).toNat (8 : Nat) :: ([] : List (List UInt8))).flatten).length ≤ (140737488355328 : Nat)) ∧ ∃ (x0 : Int → List UInt8 → Prop), ∃ (x1 : Int → List UInt8 → Nat), x0 (0 : Int) (Ty.arr (32 : Nat) Ty.byte).kd.z ∧ ∀ (x2 : Int) (x3 : List UInt8), x0 x2 x3 → (Kd.int IntKind.i64).wf x2 → (Ty.arr (32 : Nat) Ty.byte).kd.wf x3 → (x2 < (8 : Int) → ((0 : Int) ≤ x2 ∧ x2 < ((8 : Nat) : Int)) ∧ ((0 : Int) ≤ IntKind.i64.wrap ((4 : Int) * x2) ∧ IntKind.i64.wrap ((4 : Int) * x2) ≤ ((32 : Nat) : Int) ∧ ((32 : Nat) : Int) ≤ ((32 : Nat) : Int) ∧ IntKind.i64.wrap ((4 : Int) * x2) < ((32 : Nat) : Int)) ∧ (Ty.byte.kd.sl.wf (be (ix (qaz a0_h ((toB (128 : Int) :: ([] : List UInt8)) :: List.replicate ((IntKind.i64.wrap ((119 : Int) - (a0_h.snd.snd.length : Int))).tmod (64 : Int)).toNat Ty.byte.kd.z :: be (IntKind.u64.wrap ((8 : Int) * hLen a0_h)).toNat (8 : Nat) :: ([] : List (List UInt8)))).fst x2).toNat (8 : Nat)) → ((0 : Int) ≤ (4 : Int) ∧ (4 : Int) ≤ ((be (ix (qaz a0_h ((toB (128 : Int) :: ([] : List UInt8)) :: List.replicate ((IntKind.i64.wrap ((119 : Int) - (a0_h.snd.snd.length : Int))).tmod (64 : Int)).toNat Ty.byte.kd.z :: be (IntKind.u64.wrap ((8 : Int) * hLen a0_h)).toNat (8 : Nat) :: ([] : List (List UInt8)))).fst x2).toNat (8 : Nat)).length : Int)) ∧ x2 < (9223372036854775807 : Int) ∧ x0 (x2 + (1 : Int)) (List.take (IntKind.i64.wrap ((4 : Int) * x2)).toNat x3 ++ List.take (((32 : Nat) : Int).toNat - (IntKind.i64.wrap ((4 : Int) * x2)).toNat) (List.drop (Int.toNat (4 : Int)) (be (ix (qaz a0_h ((toB (128 : Int) :: ([] : List UInt8)) :: List.replicate ((IntKind.i64.wrap ((119 : Int) - (a0_h.snd.snd.length : Int))).tmod (64 : Int)).toNat Ty.byte.kd.z :: be (IntKind.u64.wrap ((8 : Int) * hLen a0_h)).toNat (8 : Nat) :: ([] : List (List UInt8)))).fst x2).toNat (8 : Nat))) ++ List.drop ((IntKind.i64.wrap ((4 : Int) * x2)).toNat + min (List.drop (Int.toNat (4 : Int)) (be (ix (qaz a0_h ((toB (128 : Int) :: ([] : List UInt8)) :: List.replicate ((IntKind.i64.wrap ((119 : Int) - (a0_h.snd.snd.length : Int))).tmod (64 : Int)).toNat Ty.byte.kd.z :: be (IntKind.u64.wrap ((8 : Int) * hLen a0_h)).toNat (8 : Nat) :: ([] : List (List UInt8)))).fst x2).toNat (8 : Nat))).length (((32 : Nat) : Int).toNat - (IntKind.i64.wrap ((4 : Int) * x2)).toNat)) x3) ∧ x1 (x2 + (1 : Int)) (List.take (IntKind.i64.wrap ((4 : Int) * x2)).toNat x3 ++ List.take (((32 : Nat) : Int).toNat - (IntKind.i64.wrap ((4 : Int) * x2)).toNat) (List.drop (Int.toNat (4 : Int)) (be (ix (qaz a0_h ((toB (128 : Int) :: ([] : List UInt8)) :: List.replicate ((IntKind.i64.wrap ((119 : Int) - (a0_h.snd.snd.length : Int))).tmod (64 : Int)).toNat Ty.byte.kd.z :: be (IntKind.u64.wrap ((8 : Int) * hLen a0_h)).toNat (8 : Nat) :: ([] : List (List UInt8)))).fst x2).toNat (8 : Nat))) ++ List.drop ((IntKind.i64.wrap ((4 : Int) * x2)).toNat + min (List.drop (Int.toNat (4 : Int)) (be (ix (qaz a0_h ((toB (128 : Int) :: ([] : List UInt8)) :: List.replicate ((IntKind.i64.wrap ((119 : Int) - (a0_h.snd.snd.length : Int))).tmod (64 : Int)).toNat Ty.byte.kd.z :: be (IntKind.u64.wrap ((8 : Int) * hLen a0_h)).toNat (8 : Nat) :: ([] : List (List UInt8)))).fst x2).toNat (8 : Nat))).length (((32 : Nat) : Int).toNat - (IntKind.i64.wrap ((4 : Int) * x2)).toNat)) x3) < x1 x2 x3)) ∧ (¬x2 < (8 : Int) → Q x3)) ∧ True) ∧ (((0 : Int) ≤ (IntKind.i64.wrap ((119 : Int) - (a0_h.snd.snd.length : Int))).tmod (64 : Int) ∧ (IntKind.i64.wrap ((119 : Int) - (a0_h.snd.snd.length : Int))).tmod (64 : Int) ≤ (IntKind.i64.wrap ((119 : Int) - (a0_h.snd.snd.length : Int))).tmod (64 : Int) ∧ ((1 : Nat) : Int) * (IntKind.i64.wrap ((119 : Int) - (a0_h.snd.snd.length : Int))).tmod (64 : Int) ≤ (281474976710656 : Int) ∧ (IntKind.i64.wrap ((119 : Int) - (a0_h.snd.snd.length : Int))).tmod (64 : Int) ≤ (281474976710656 : Int)) ∧ (Ty.byte.kd.sl.wf (be (IntKind.u64.wrap ((8 : Int) * hLen a0_h)).toNat (8 : Nat)) → (((1 : Nat) + ((toB (128 : Int) :: ([] : List UInt8)) :: List.replicate ((IntKind.i64.wrap ((119 : Int) - (a0_h.snd.snd.length : Int))).tmod (64 : Int)).toNat Ty.byte.kd.z :: be (IntKind.u64.wrap ((8 : Int) * hLen a0_h)).toNat (8 : Nat) :: ([] : List (List UInt8))).length) * (24 : Nat) ≤ (140737488355328 : Nat) ∧ (a0_h.snd.snd ++ ((toB (128 : Int) :: ([] : List UInt8)) :: List.replicate ((IntKind.i64.wrap ((119 : Int) - (a0_h.snd.snd.length : Int))).tmod (64 : Int)).toNat Ty.byte.kd.z :: be (IntKind.u64.wrap ((8 : Int) * hLen a0_h)).toNat (8 : Nat) :: ([] : List (List UInt8))).flatten).length ≤ (140737488355328 : Nat)) ∧ ∃ (x0 : Int → List UInt8 → Prop), ∃ (x1 : Int → List UInt8 → Nat), x0 (0 : Int) (Ty.arr (32 : Nat) Ty.byte).kd.z ∧ ∀ (x2 : Int) (x3 : List UInt8), x0 x2 x3 → (Kd.int IntKind.i64).wf x2 → (Ty.arr (32 : Nat) Ty.byte).kd.wf x3 → (x2 < (8 : Int) → ((0 : Int) ≤ x2 ∧ x2 < ((8 : Nat) : Int)) ∧ ((0 : Int) ≤ IntKind.i64.wrap ((4 : Int) * x2) ∧ IntKind.i64.wrap ((4 : Int) * x2) ≤ ((32 : Nat) : Int) ∧ ((32 : Nat) : Int) ≤ ((32 : Nat) : Int) ∧ IntKind.i64.wrap ((4 : Int) * x2) < ((32 : Nat) : Int)) ∧ (Ty.byte.kd.sl.wf (be (ix (qaz a0_h ((toB (128 : Int) :: ([] : List UInt8)) :: List.replicate ((IntKind.i64.wrap ((119 : Int) - (a0_h.snd.snd.length : Int))).tmod (64 : Int)).toNat Ty.byte.kd.z :: be (IntKind.u64.wrap ((8 : Int) * hLen a0_h)).toNat (8 : Nat) :: ([] : List (List UInt8)))).fst x2).toNat (8 : Nat)) → ((0 : Int) ≤ (4 : Int) ∧ (4 : Int) ≤ ((be (ix (qaz a0_h ((toB (128 : Int) :: ([] : List UInt8)) :: List.replicate ((IntKind.i64.wrap ((119 : Int) - (a0_h.snd.snd.length : Int))).tmod (64 : Int)).toNat Ty.byte.kd.z :: be (IntKind.u64.wrap ((8 : Int) * hLen a0_h)).toNat (8 : Nat) :: ([] : List (List UInt8)))).fst x2).toNat (8 : Nat)).length : Int)) ∧ x2 < (9223372036854775807 : Int) ∧ x0 (x2 + (1 : Int)) (List.take (IntKind.i64.wrap ((4 : Int) * x2)).toNat x3 ++ List.take (((32 : Nat) : Int).toNat - (IntKind.i64.wrap ((4 : Int) * x2)).toNat) (List.drop (Int.toNat (4 : Int)) (be (ix (qaz a0_h ((toB (128 : Int) :: ([] : List UInt8)) :: List.replicate ((IntKind.i64.wrap ((119 : Int) - (a0_h.snd.snd.length : Int))).tmod (64 : Int)).toNat Ty.byte.kd.z :: be (IntKind.u64.wrap ((8 : Int) * hLen a0_h)).toNat (8 : Nat) :: ([] : List (List UInt8)))).fst x2).toNat (8 : Nat))) ++ List.drop ((IntKind.i64.wrap ((4 : Int) * x2)).toNat + min (List.drop (Int.toNat (4 : Int)) (be (ix (qaz a0_h ((toB (128 : Int) :: ([] : List UInt8)) :: List.replicate ((IntKind.i64.wrap ((119 : Int) - (a0_h.snd.snd.length : Int))).tmod (64 : Int)).toNat Ty.byte.kd.z :: be (IntKind.u64.wrap ((8 : Int) * hLen a0_h)).toNat (8 : Nat) :: ([] : List (List UInt8)))).fst x2).toNat (8 : Nat))).length (((32 : Nat) : Int).toNat - (IntKind.i64.wrap ((4 : Int) * x2)).toNat)) x3) ∧ x1 (x2 + (1 : Int)) (List.take (IntKind.i64.wrap ((4 : Int) * x2)).toNat x3 ++ List.take (((32 : Nat) : Int).toNat - (IntKind.i64.wrap ((4 : Int) * x2)).toNat) (List.drop (Int.toNat (4 : Int)) (be (ix (qaz a0_h ((toB (128 : Int) :: ([] : List UInt8)) :: List.replicate ((IntKind.i64.wrap ((119 : Int) - (a0_h.snd.snd.length : Int))).tmod (64 : Int)).toNat Ty.byte.kd.z :: be (IntKind.u64.wrap ((8 : Int) * hLen a0_h)).toNat (8 : Nat) :: ([] : List (List UInt8)))).fst x2).toNat (8 : Nat))) ++ List.drop ((IntKind.i64.wrap ((4 : Int) * x2)).toNat + min (List.drop (Int.toNat (4 : Int)) (be (ix (qaz a0_h ((toB (128 : Int) :: ([] : List UInt8)) :: List.replicate ((IntKind.i64.wrap ((119 : Int) - (a0_h.snd.snd.length : Int))).tmod (64 : Int)).toNat Ty.byte.kd.z :: be (IntKind.u64.wrap ((8 : Int) * hLen a0_h)).toNat (8 : Nat) :: ([] : List (List UInt8)))).fst x2).toNat (8 : Nat))).length (((32 : Nat) : Int).toNat - (IntKind.i64.wrap ((4 : Int) * x2)).toNat)) x3) < x1 x2 x3)) ∧ (¬x2 < (8 : Int) → Q x3)) ∧ (Ty.byte.kd.sl.wf (be (IntKind.u64.wrap ((8 : Int) * hLen a0_h)).toNat (8 : Nat)) → (((1 : Nat) + ((toB (128 : Int) :: ([] : List UInt8)) :: List.replicate ((IntKind.i64.wrap ((119 : Int) - (a0_h.snd.snd.length : Int))).tmod (64 : Int)).toNat Ty.byte.kd.z :: be (IntKind.u64.wrap ((8 : Int) * hLen a0_h)).toNat (8 : Nat) :: ([] : List (List UInt8))).length) * (24 : Nat) ≤ (140737488355328 : Nat) ∧ (a0_h.snd.snd ++ ((toB (128 : Int) :: ([] : List UInt8)) :: List.replicate ((IntKind.i64.wrap ((119 : Int) - (a0_h.snd.snd.length : Int))).tmod (64 : Int)).toNat Ty.byte.kd.z :: be (IntKind.u64.wrap ((8 : Int) * hLen a0_h)).toNat (8 : Nat) :: ([] : List (List UInt8))).flatten).length ≤ (140737488355328 : Nat)) ∧ ∃ (x0 : Int → List UInt8 → Prop), ∃ (x1 : Int → List UInt8 → Nat), x0 (0 : Int) (Ty.arr (32 : Nat) Ty.byte).kd.z ∧ ∀ (x2 : Int) (x3 : List UInt8), x0 x2 x3 → (Kd.int IntKind.i64).wf x2 → (Ty.arr (32 : Nat) Ty.byte).kd.wf x3 → (x2 < (8 : Int) → ((0 : Int) ≤ x2 ∧ x2 < ((8 : Nat) : Int)) ∧ ((0 : Int) ≤ IntKind.i64.wrap ((4 : Int) * x2) ∧ IntKind.i64.wrap ((4 : Int) * x2) ≤ ((32 : Nat) : Int) ∧ ((32 : Nat) : Int) ≤ ((32 : Nat) : Int) ∧ IntKind.i64.wrap ((4 : Int) * x2) < ((32 : Nat) : Int)) ∧ (Ty.byte.kd.sl.wf (be (ix (qaz a0_h ((toB (128 : Int) :: ([] : List UInt8)) :: List.replicate ((IntKind.i64.wrap ((119 : Int) - (a0_h.snd.snd.length : Int))).tmod (64 : Int)).toNat Ty.byte.kd.z :: be (IntKind.u64.wrap ((8 : Int) * hLen a0_h)).toNat (8 : Nat) :: ([] : List (List UInt8)))).fst x2).toNat (8 : Nat)) → ((0 : Int) ≤ (4 : Int) ∧ (4 : Int) ≤ ((be (ix (qaz a0_h ((toB (128 : Int) :: ([] : List UInt8)) :: List.replicate ((IntKind.i64.wrap ((119 : Int) - (a0_h.snd.snd.length : Int))).tmod (64 : Int)).toNat Ty.byte.kd.z :: be (IntKind.u64.wrap ((8 : Int) * hLen a0_h)).toNat (8 : Nat) :: ([] : List (List UInt8)))).fst x2).toNat (8 : Nat)).length : Int)) ∧ x2 < (9223372036854775807 : Int) ∧ x0 (x2 + (1 : Int)) (List.take (IntKind.i64.wrap ((4 : Int) * x2)).toNat x3 ++ List.take (((32 : Nat) : Int).toNat - (IntKind.i64.wrap ((4 : Int) * x2)).toNat) (List.drop (Int.toNat (4 : Int)) (be (ix (qaz a0_h ((toB (128 : Int) :: ([] : List UInt8)) :: List.replicate ((IntKind.i64.wrap ((119 : Int) - (a0_h.snd.snd.length : Int))).tmod (64 : Int)).toNat Ty.byte.kd.z :: be (IntKind.u64.wrap ((8 : Int) * hLen a0_h)).toNat (8 : Nat) :: ([] : List (List UInt8)))).fst x2).toNat (8 : Nat))) ++ List.drop ((IntKind.i64.wrap ((4 : Int) * x2)).toNat + min (List.drop (Int.toNat (4 : Int)) (be (ix (qaz a0_h ((toB (128 : Int) :: ([] : List UInt8)) :: List.replicate ((IntKind.i64.wrap ((119 : Int) - (a0_h.snd.snd.length : Int))).tmod (64 : Int)).toNat Ty.byte.kd.z :: be (IntKind.u64.wrap ((8 : Int) * hLen a0_h)).toNat (8 : Nat) :: ([] : List (List UInt8)))).fst x2).toNat (8 : Nat))).length (((32 : Nat) : Int).toNat - (IntKind.i64.wrap ((4 : Int) * x2)).toNat)) x3) ∧ x1 (x2 + (1 : Int)) (List.take (IntKind.i64.wrap ((4 : Int) * x2)).toNat x3 ++ List.take (((32 : Nat) : Int).toNat - (IntKind.i64.wrap ((4 : Int) * x2)).toNat) (List.drop (Int.toNat (4 : Int)) (be (ix (qaz a0_h ((toB (128 : Int) :: ([] : List UInt8)) :: List.replicate ((IntKind.i64.wrap ((119 : Int) - (a0_h.snd.snd.length : Int))).tmod (64 : Int)).toNat Ty.byte.kd.z :: be (IntKind.u64.wrap ((8 : Int) * hLen a0_h)).toNat (8 : Nat) :: ([] : List (List UInt8)))).fst x2).toNat (8 : Nat))) ++ List.drop ((IntKind.i64.wrap ((4 : Int) * x2)).toNat + min (List.drop (Int.toNat (4 : Int)) (be (ix (qaz a0_h ((toB (128 : Int) :: ([] : List UInt8)) :: List.replicate ((IntKind.i64.wrap ((119 : Int) - (a0_h.snd.snd.length : Int))).tmod (64 : Int)).toNat Ty.byte.kd.z :: be (IntKind.u64.wrap ((8 : Int) * hLen a0_h)).toNat (8 : Nat) :: ([] : List (List UInt8)))).fst x2).toNat (8 : Nat))).length (((32 : Nat) : Int).toNat - (IntKind.i64.wrap ((4 : Int) * x2)).toNat)) x3) < x1 x2 x3)) ∧ (¬x2 < (8 : Int) → Q x3)) ∧ True) ∧ (Ty.byte.kd.sl.wf (be (IntKind.u64.wrap ((8 : Int) * hLen a0_h)).toNat (8 : Nat)) → (((0 : Int) ≤ (IntKind.i64.wrap ((119 : Int) - (a0_h.snd.snd.length : Int))).tmod (64 : Int) ∧ (IntKind.i64.wrap ((119 : Int) - (a0_h.snd.snd.length : Int))).tmod (64 : Int) ≤ (IntKind.i64.wrap ((119 : Int) - (a0_h.snd.snd.length : Int))).tmod (64 : Int) ∧ ((1 : Nat) : Int) * (IntKind.i64.wrap ((119 : Int) - (a0_h.snd.snd.length : Int))).tmod (64 : Int) ≤ (281474976710656 : Int) ∧ (IntKind.i64.wrap ((119 : Int) - (a0_h.snd.snd.length : Int))).tmod (64 : Int) ≤ (281474976710656 : Int)) ∧ (((1 : Nat) + ((toB (128 : Int) :: ([] : List UInt8)) :: List.replicate ((IntKind.i64.wrap ((119 : Int) - (a0_h.snd.snd.length : Int))).tmod (64 : Int)).toNat Ty.byte.kd.z :: be (IntKind.u64.wrap ((8 : Int) * hLen a0_h)).toNat (8 : Nat) :: ([] : List (List UInt8))).length) * (24 : Nat) ≤ (140737488355328 : Nat) ∧ (a0_h.snd.snd ++ ((toB (128 : Int) :: ([] : List UInt8)) :: List.replicate ((IntKind.i64.wrap ((119 : Int) - (a0_h.snd.snd.length : Int))).tmod (64 : Int)).toNat Ty.byte.kd.z :: be (IntKind.u64.wrap ((8 : Int) * hLen a0_h)).toNat (8 : Nat) :: ([] : List (List UInt8))).flatten).length ≤ (140737488355328 : Nat)) ∧ ∃ (x0 : Int → List UInt8 → Prop), ∃ (x1 : Int → List UInt8 → Nat), x0 (0 : Int) (Ty.arr (32 : Nat) Ty.byte).kd.z ∧ ∀ (x2 : Int) (x3 : List UInt8), x0 x2 x3 → (Kd.int IntKind.i64).wf x2 → (Ty.arr (32 : Nat) Ty.byte).kd.wf x3 → (x2 < (8 : Int) → ((0 : Int) ≤ x2 ∧ x2 < ((8 : Nat) : Int)) ∧ ((0 : Int) ≤ IntKind.i64.wrap ((4 : Int) * x2) ∧ IntKind.i64.wrap ((4 : Int) * x2) ≤ ((32 : Nat) : Int) ∧ ((32 : Nat) : Int) ≤ ((32 : Nat) : Int) ∧ IntKind.i64.wrap ((4 : Int) * x2) < ((32 : Nat) : Int)) ∧ (Ty.byte.kd.sl.wf (be (ix (qaz a0_h ((toB (128 : Int) :: ([] : List UInt8)) :: List.replicate ((IntKind.i64.wrap ((119 : Int) - (a0_h.snd.snd.length : Int))).tmod (64 : Int)).toNat Ty.byte.kd.z :: be (IntKind.u64.wrap ((8 : Int) * hLen a0_h)).toNat (8 : Nat) :: ([] : List (List UInt8)))).fst x2).toNat (8 : Nat)) → ((0 : Int) ≤ (4 : Int) ∧ (4 : Int) ≤ ((be (ix (qaz a0_h ((toB (128 : Int) :: ([] : List UInt8)) :: List.replicate ((IntKind.i64.wrap ((119 : Int) - (a0_h.snd.snd.length : Int))).tmod (64 : Int)).toNat Ty.byte.kd.z :: be (IntKind.u64.wrap ((8 : Int) * hLen a0_h)).toNat (8 : Nat) :: ([] : List (List UInt8)))).fst x2).toNat (8 : Nat)).length : Int)) ∧ x2 < (9223372036854775807 : Int) ∧ x0 (x2 + (1 : Int)) (List.take (IntKind.i64.wrap ((4 : Int) * x2)).toNat x3 ++ List.take (((32 : Nat) : Int).toNat - (IntKind.i64.wrap ((4 : Int) * x2)).toNat) (List.drop (Int.toNat (4 : Int)) (be (ix (qaz a0_h ((toB (128 : Int) :: ([] : List UInt8)) :: List.replicate ((IntKind.i64.wrap ((119 : Int) - (a0_h.snd.snd.length : Int))).tmod (64 : Int)).toNat Ty.byte.kd.z :: be (IntKind.u64.wrap ((8 : Int) * hLen a0_h)).toNat (8 : Nat) :: ([] : List (List UInt8)))).fst x2).toNat (8 : Nat))) ++ List.drop ((IntKind.i64.wrap ((4 : Int) * x2)).toNat + min (List.drop (Int.toNat (4 : Int)) (be (ix (qaz a0_h ((toB (128 : Int) :: ([] : List UInt8)) :: List.replicate ((IntKind.i64.wrap ((119 : Int) - (a0_h.snd.snd.length : Int))).tmod (64 : Int)).toNat Ty.byte.kd.z :: be (IntKind.u64.wrap ((8 : Int) * hLen a0_h)).toNat (8 : Nat) :: ([] : List (List UInt8)))).fst x2).toNat (8 : Nat))).length (((32 : Nat) : Int).toNat - (IntKind.i64.wrap ((4 : Int) * x2)).toNat)) x3) ∧ x1 (x2 + (1 : Int)) (List.take (IntKind.i64.wrap ((4 : Int) * x2)).toNat x3 ++ List.take (((32 : Nat) : Int).toNat - (IntKind.i64.wrap ((4 : Int) * x2)).toNat) (List.drop (Int.toNat (4 : Int)) (be (ix (qaz a0_h ((toB (128 : Int) :: ([] : List UInt8)) :: List.replicate ((IntKind.i64.wrap ((119 : Int) - (a0_h.snd.snd.length : Int))).tmod (64 : Int)).toNat Ty.byte.kd.z :: be (IntKind.u64.wrap ((8 : Int) * hLen a0_h)).toNat (8 : Nat) :: ([] : List (List UInt8)))).fst x2).toNat (8 : Nat))) ++ List.drop ((IntKind.i64.wrap ((4 : Int) * x2)).toNat + min (List.drop (Int.toNat (4 : Int)) (be (ix (qaz a0_h ((toB (128 : Int) :: ([] : List UInt8)) :: List.replicate ((IntKind.i64.wrap ((119 : Int) - (a0_h.snd.snd.length : Int))).tmod (64 : Int)).toNat Ty.byte.kd.z :: be (IntKind.u64.wrap ((8 : Int) * hLen a0_h)).toNat (8 : Nat) :: ([] : List (List UInt8)))).fst x2).toNat (8 : Nat))).length (((32 : Nat) : Int).toNat - (IntKind.i64.wrap ((4 : Int) * x2)).toNat)) x3) < x1 x2 x3)) ∧ (¬x2 < (8 : Int) → Q x3)) ∧ (((0 : Int) ≤ (IntKind.i64.wrap ((119 : Int) - (a0_h.snd.snd.length : Int))).tmod (64 : Int) ∧ (IntKind.i64.wrap ((119 : Int) - (a0_h.snd.snd.length : Int))).tmod (64 : Int) ≤ (IntKind.i64.wrap ((119 : Int) - (a0_h.snd.snd.length : Int))).tmod (64 : Int) ∧ ((1 : Nat) : Int) * (IntKind.i64.wrap ((119 : Int) - (a0_h.snd.snd.length : Int))).tmod (64 : Int) ≤ (281474976710656 : Int) ∧ (IntKind.i64.wrap ((119 : Int) - (a0_h.snd.snd.length : Int))).tmod (64 : Int) ≤ (281474976710656 : Int)) ∧ (((1 : Nat) + ((toB (128 : Int) :: ([] : List UInt8)) :: List.replicate ((IntKind.i64.wrap ((119 : Int) - (a0_h.snd.snd.length : Int))).tmod (64 : Int)).toNat Ty.byte.kd.z :: be (IntKind.u64.wrap ((8 : Int) * hLen a0_h)).toNat (8 : Nat) :: ([] : List (List UInt8))).length) * (24 : Nat) ≤ (140737488355328 : Nat) ∧ (a0_h.snd.snd ++ ((toB (128 : Int) :: ([] : List UInt8)) :: List.replicate ((IntKind.i64.wrap ((119 : Int) - (a0_h.snd.snd.length : Int))).tmod (64 : Int)).toNat Ty.byte.kd.z :: be (IntKind.u64.wrap ((8 : Int) * hLen a0_h)).toNat (8 : Nat) :: ([] : List (List UInt8))).flatten).length ≤ (140737488355328 : Nat)) ∧ ∃ (x0 : Int → List UInt8 → Prop), ∃ (x1 : Int → List UInt8 → Nat), x0 (0 : Int) (Ty.arr (32 : Nat) Ty.byte).kd.z ∧ ∀ (x2 : Int) (x3 : List UInt8), x0 x2 x3 → (Kd.int IntKind.i64).wf x2 → (Ty.arr (32 : Nat) Ty.byte).kd.wf x3 → (x2 < (8 : Int) → ((0 : Int) ≤ x2 ∧ x2 < ((8 : Nat) : Int)) ∧ ((0 : Int) ≤ IntKind.i64.wrap ((4 : Int) * x2) ∧ IntKind.i64.wrap ((4 : Int) * x2) ≤ ((32 : Nat) : Int) ∧ ((32 : Nat) : Int) ≤ ((32 : Nat) : Int) ∧ IntKind.i64.wrap ((4 : Int) * x2) < ((32 : Nat) : Int)) ∧ (Ty.byte.kd.sl.wf (be (ix (qaz a0_h ((toB (128 : Int) :: ([] : List UInt8)) :: List.replicate ((IntKind.i64.wrap ((119 : Int) - (a0_h.snd.snd.length : Int))).tmod (64 : Int)).toNat Ty.byte.kd.z :: be (IntKind.u64.wrap ((8 : Int) * hLen a0_h)).toNat (8 : Nat) :: ([] : List (List UInt8)))).fst x2).toNat (8 : Nat)) → ((0 : Int) ≤ (4 : Int) ∧ (4 : Int) ≤ ((be (ix (qaz a0_h ((toB (128 : Int) :: ([] : List UInt8)) :: List.replicate ((IntKind.i64.wrap ((119 : Int) - (a0_h.snd.snd.length : Int))).tmod (64 : Int)).toNat Ty.byte.kd.z :: be (IntKind.u64.wrap ((8 : Int) * hLen a0_h)).toNat (8 : Nat) :: ([] : List (List UInt8)))).fst x2).toNat (8 : Nat)).length : Int)) ∧ x2 < (9223372036854775807 : Int) ∧ x0 (x2 + (1 : Int)) (List.take (IntKind.i64.wrap ((4 : Int) * x2)).toNat x3 ++ List.take (((32 : Nat) : Int).toNat - (IntKind.i64.wrap ((4 : Int) * x2)).toNat) (List.drop (Int.toNat (4 : Int)) (be (ix (qaz a0_h ((toB (128 : Int) :: ([] : List UInt8)) :: List.replicate ((IntKind.i64.wrap ((119 : Int) - (a0_h.snd.snd.length : Int))).tmod (64 : Int)).toNat Ty.byte.kd.z :: be (IntKind.u64.wrap ((8 : Int) * hLen a0_h)).toNat (8 : Nat) :: ([] : List (List UInt8)))).fst x2).toNat (8 : Nat))) ++ List.drop ((IntKind.i64.wrap ((4 : Int) * x2)).toNat + min (List.drop (Int.toNat (4 : Int)) (be (ix (qaz a0_h ((toB (128 : Int) :: ([] : List UInt8)) :: List.replicate ((IntKind.i64.wrap ((119 : Int) - (a0_h.snd.snd.length : Int))).tmod (64 : Int)).toNat Ty.byte.kd.z :: be (IntKind.u64.wrap ((8 : Int) * hLen a0_h)).toNat (8 : Nat) :: ([] : List (List UInt8)))).fst x2).toNat (8 : Nat))).length (((32 : Nat) : Int).toNat - (IntKind.i64.wrap ((4 : Int) * x2)).toNat)) x3) ∧ x1 (x2 + (1 : Int)) (List.take (IntKind.i64.wrap ((4 : Int) * x2)).toNat x3 ++ List.take (((32 : Nat) : Int).toNat - (IntKind.i64.wrap ((4 : Int) * x2)).toNat) (List.drop (Int.toNat (4 : Int)) (be (ix (qaz a0_h ((toB (128 : Int) :: ([] : List UInt8)) :: List.replicate ((IntKind.i64.wrap ((119 : Int) - (a0_h.snd.snd.length : Int))).tmod (64 : Int)).toNat Ty.byte.kd.z :: be (IntKind.u64.wrap ((8 : Int) * hLen a0_h)).toNat (8 : Nat) :: ([] : List (List UInt8)))).fst x2).toNat (8 : Nat))) ++ List.drop ((IntKind.i64.wrap ((4 : Int) * x2)).toNat + min (List.drop (Int.toNat (4 : Int)) (be (ix (qaz a0_h ((toB (128 : Int) :: ([] : List UInt8)) :: List.replicate ((IntKind.i64.wrap ((119 : Int) - (a0_h.snd.snd.length : Int))).tmod (64 : Int)).toNat Ty.byte.kd.z :: be (IntKind.u64.wrap ((8 : Int) * hLen a0_h)).toNat (8 : Nat) :: ([] : List (List UInt8)))).fst x2).toNat (8 : Nat))).length (((32 : Nat) : Int).toNat - (IntKind.i64.wrap ((4 : Int) * x2)).toNat)) x3) < x1 x2 x3)) ∧ (¬x2 < (8 : Int) → Q x3)) ∧ True) ∧ True)
theorem qtM {a0_h : (List Int) × Int × List UInt8} (w_0 : (Ty.kd (.pr (.arr 8 (.int .u32)) (.pr (.int .u64) (.sl .byte)))).wf a0_h) (hp : a0_h.2.2.length < 64) : qko a0_h (fun o0 => o0 = (hSum a0_h)) := by
 have wr : ∀ a : Int, -1000 ≤ a → a ≤ 1000 → IntKind.i64.wrap a = a := fun a h1 h2 => qak (wf64 (by omega) (by omega))
 have hk : Int.tmod (IntKind.i64.wrap (119 - (a0_h.2.2.length : Int))) 64 = ((119 - (a0_h.2.2.length : Int)) % 64) := by
  rw [wr _ (by omega) (by omega), Int.tmod_eq_emod_of_nonneg (by omega)]
 have hsum : ∀ n, (sumN (qaz a0_h (qi4 a0_h)).1 n).length = 32 := by
  intro n
  induction n with
  | zero => simp [sumN]
  | succ n ih =>
    simp only [sumN, List.length_append, List.length_take, List.length_drop, ih, qaQ]
    omega
 have hp' : [[toB 128], List.replicate ((119 - (a0_h.2.2.length : Int)) % 64).toNat Ty.byte.kd.z, be (IntKind.u64.wrap (8 * hLen a0_h)).toNat 8] = qi4 a0_h := by unfold qi4; rw [hk]; rfl
 unfold qko
 rw [hk, hp']
 intro _
 refine ⟨by omega, fun _ _ => ?_⟩
 repeat' (first | apply And.intro | intro _)
 all_goals first | trivial | omega | (simp only [← hp', List.length_cons, List.length_nil, List.length_append, List.flatten_cons, List.flatten_nil, List.length_replicate, qaQ]; omega) | skip
 all_goals
  refine ⟨fun i b => ∃ n : Nat, i = (n : Int) ∧ n ≤ 8 ∧ b = sumN (qaz a0_h (qi4 a0_h)).1 n, fun i _ => 8 - i.toNat, ⟨0, rfl, by omega, rfl⟩, ?_⟩
  rintro i b ⟨n, rfl, hn, rfl⟩ _ _
  refine ⟨fun hlt => ?_, fun hge => ?_⟩
  ·rw [wr (4 * (n : Int)) (by omega) (by omega)]
   have e4 : (4 * (n : Int)).toNat = 4 * n := by omega
   rw [e4]
   refine ⟨⟨by omega, hlt⟩, ⟨by omega, by omega, by omega, by omega⟩, fun _ => ⟨⟨by omega, by rw [qaQ]; omega⟩, by omega, ⟨n + 1, by omega, by omega, rfl⟩, ?_⟩⟩
   show 8 - ((n : Int) + 1).toNat < 8 - (n : Int).toNat
   omega
  ·have : n = 8 := by omega
   subst this
   rfl
theorem qtL : (∀ a, qhE.pre a → PM.wfP qhE.pm a (fvc qsT 200 125 qhE a (eqO qhE a))) = (∀ a : ((List Int) × Int × List UInt8) × Unit, ((a.1).2.2.length < 64) → (Ty.kd (.pr (.arr 8 (.int .u32)) (.pr (.int .u64) (.sl .byte)))).wf a.1 → qko a.1 (fun o0 => o0 = (hSum (a.1)))) := by kernel_rfl
theorem qvt : qhE.valid Try.prog 125 := qar (X := qsT) (qaH qai (fun b hb => by cases hb; exact qap) qaq ⟨qvy, qtI, qvs, qwB, qlH, trivial⟩) 200 (qtL.mpr fun a hp w_0 => @qtM a.1 w_0 hp)
noncomputable def qeM : Ctr := ⟨[.v (.sl (.sl .byte))], [.v (.arr 32 .byte)], some (fun a => (fun (a0_parts : List (List UInt8)) => ((1 + a0_parts.length) * 24 ≤ 140737488355328 ∧ a0_parts.flatten.length ≤ 140737488355328 : Prop)) a.1), fun a => (fun (a0_parts : List (List UInt8)) => (((qa0 a0_parts), ()), (()))) a.1⟩
noncomputable def qlU : Fx := ⟨seat, some bkT, fns, [(123, qkt), (124, qda), (125, qhE)], [], [], []⟩
def qgI (a0_parts : List (List UInt8)) (Q : (List UInt8) → Prop) : Prop :=
 ((Ty.arr (8 : Nat) (Ty.int IntKind.u32)).pr ((Ty.int IntKind.u64).pr Ty.byte.sl)).kd.wf (List.replicate (8 : Nat) (0 : Int), (0 : Int), ([] : List UInt8)) → (((1 : Nat) + a0_parts.length) * (24 : Nat) ≤ (140737488355328 : Nat) ∧ (([] : List UInt8) ++ a0_parts.flatten).length ≤ (140737488355328 : Nat)) ∧ (qaz (List.replicate (8 : Nat) (0 : Int), (0 : Int), ([] : List UInt8)) a0_parts).snd.snd.length < (64 : Nat) ∧ ((Ty.arr (32 : Nat) Ty.byte).kd.wf (hSum (qaz (List.replicate (8 : Nat) (0 : Int), (0 : Int), ([] : List UInt8)) a0_parts)) → Q (hSum (qaz (List.replicate (8 : Nat) (0 : Int), (0 : Int), ([] : List UInt8)) a0_parts)))
theorem qoB {a0_parts : List (List UInt8)} (w_0 : (Ty.kd (.sl (.sl .byte))).wf a0_parts) (hp : (1 + a0_parts.length) * 24 ≤ 140737488355328 ∧ a0_parts.flatten.length ≤ 140737488355328) : qgI a0_parts (fun o0 => o0 = (qa0 a0_parts)) := by
 unfold qgI
 exact fun _ => ⟨⟨hp.1, hp.2⟩, qrM _ _ _, fun _ => rfl⟩
theorem qoA : (∀ a, qeM.pre a → PM.wfP qeM.pm a (fvc qlU 200 110 qeM a (eqO qeM a))) = (∀ a : (List (List UInt8)) × Unit, ((1 + (a.1).length) * 24 ≤ 140737488355328 ∧ (a.1).flatten.length ≤ 140737488355328) → (Ty.kd (.sl (.sl .byte))).wf a.1 → qgI a.1 (fun o0 => o0 = (qa0 (a.1)))) := by kernel_rfl
theorem qrr : qeM.valid Try.prog 110 := qar (X := qlU) (qaH qai (fun b hb => by cases hb; exact qap) qaq ⟨qvy, qlH, qvt, trivial⟩) 200 (qoA.mpr fun a hp w_0 => @qoB a.1 w_0 hp)
end Go.Proofs.Ytmjjkpiglbpkhaa

set_option linter.unusedVariables false
set_option maxRecDepth 100000
set_option maxHeartbeats 2000000
namespace Go.Proofs.Ytmjjkpiglbpkhaa
open Go Go.RowKit Go.Inc
theorem qsn {θ : Th} {n : Nat} {K : Ghost} {s : SVal} {v : Value} (h : s.rel θ n K v) : SVal.relL θ n K [s] [v] := ⟨v, [], rfl, h, rfl⟩
theorem qwL {θ : Th} {n : Nat} {K : Ghost} {s s' : SVal} {v v' : Value} (h : s.rel θ n K v) (h' : s'.rel θ n K v') : SVal.relL θ n K [s, s'] [v, v'] := ⟨v, [v'], rfl, h, qsn h'⟩
theorem qtC {w0 : World} {K0 : Ghost} {a0_s_v : Value} {a0_s : (List UInt8)} (hM0 : Models w0 K0) (h_a0_s : qaC.V K0 a0_s a0_s_v) (hp : a0_s.length ≤ 140737488355328) : Calls Try.prog 69 #[a0_s_v] w0 (fun e w' => ∃ (K' : Ghost) (r0 : Value), e = .returned r0 ∧ Ext NX w0 K0 w' K' ∧ Models w' K' ∧ Own Kd.byte 5 w' K' a0_s r0 ∧ (∀ g, ob r0 = some g → w0.heap.size ≤ g)) :=
 qw2 (k := .byte) qgw (fun _ => rfl) (a := (a0_s, ())) (vs := [a0_s_v]) hp hM0 fun θ => qsn (SVal.of_rel (t := .sl .byte) h_a0_s)
theorem qtF {w0 : World} {K0 : Ghost} {a0_a_v : Value} {a0_a : (List UInt8)} {a1_b_v : Value} {a1_b : (List UInt8)} (hM0 : Models w0 K0) (h_a0_a : qaC.V K0 a0_a a0_a_v) (h_a1_b : qaC.V K0 a1_b a1_b_v) : Calls Try.prog 85 #[a0_a_v, a1_b_v] w0 (fun e w' => ∃ (K' : Ghost) (r0 : Value), e = .returned r0 ∧ Ext NX w0 K0 w' K' ∧ Models w' K' ∧ Kd.bool.V K' (decide (a0_a = a1_b)) r0) :=
 un_v (t := .bool) qtG (fun _ => rfl) (fun _ => rfl) (a := (a0_a, a1_b, ())) (vs := [a0_a_v, a1_b_v]) trivial hM0 fun θ => qwL (SVal.of_rel (t := .sl .byte) h_a0_a) (SVal.of_rel (t := .sl .byte) h_a1_b)
theorem qhH {w0 : World} {K0 : Ghost} {a0_kind_v : Value} {a0_kind : Int} {a1_parts_v : Value} {a1_parts : (List (List UInt8))} (hM0 : Models w0 K0) (h_a0_kind : (Kd.int .i64).V K0 a0_kind a0_kind_v) (h_a1_parts : qbg.V K0 a1_parts a1_parts_v) (hp : 1 + qah a1_parts ≤ 140737488355328) : Calls Try.prog 98 #[a0_kind_v, a1_parts_v] w0 (fun e w' => ∃ (K' : Ghost) (r0 : Value), e = .returned r0 ∧ Ext NX w0 K0 w' K' ∧ Models w' K' ∧ Own Kd.byte 5 w' K' (preimage a0_kind a1_parts) r0 ∧ (∀ g, ob r0 = some g → w0.heap.size ≤ g)) :=
 qw2 (k := .byte) qmY (fun _ => rfl) (a := (a0_kind, a1_parts, ())) (vs := [a0_kind_v, a1_parts_v]) hp hM0 fun θ => qwL (SVal.of_rel (t := .int .i64) h_a0_kind) (SVal.of_rel (t := .sl (.sl .byte)) h_a1_parts)
theorem qlV {w0 : World} {K0 : Ghost} {a0_parts_v : Value} {a0_parts : (List (List UInt8))} (hM0 : Models w0 K0) (h_a0_parts : qbg.V K0 a0_parts a0_parts_v) (hp : (1 + a0_parts.length) * 24 ≤ 140737488355328 ∧ a0_parts.flatten.length ≤ 140737488355328) : Calls Try.prog 110 #[a0_parts_v] w0 (fun e w' => ∃ (K' : Ghost) (r0 : Value), e = .returned r0 ∧ Ext NX w0 K0 w' K' ∧ Models w' K' ∧ (Kd.arr 32 Kd.byte).V K' (qa0 a0_parts) r0) :=
 un_v (t := .arr 32 .byte) qrr (fun _ => rfl) (fun _ => rfl) (a := (a0_parts, ())) (vs := [a0_parts_v]) hp hM0 fun θ => qsn (SVal.of_rel (t := .sl (.sl .byte)) h_a0_parts)
end Go.Proofs.Ytmjjkpiglbpkhaa

set_option linter.unusedVariables false
set_option maxRecDepth 100000
set_option maxHeartbeats 2000000
namespace Go.Proofs.Ytmjjkpiglbpkhaa
open Go Go.RowKit Go.Inc
theorem ty3 : TyOk Try.prog 3 (Kd.int .i64) 8 := ⟨⟨Try.t3, _, Try.type3, rfl, rfl, rfl, rfl, rfl⟩, ⟨_, Try.underlying3, rfl⟩⟩
abbrev qad : Kd (List UInt8) := (Kd.arr 32 Kd.byte)
abbrev qao : Kd ((List UInt8) × (List UInt8)) := (Kd.pr qad qaC)
theorem ty24 : TyOk Try.prog 24 qad 32 := ⟨⟨Try.t24, _, Try.type24, rfl, rfl, rfl, rfl, rfl⟩, ⟨_, Try.underlying24, rfl⟩⟩
def qgY (a0_x : ((List UInt8) × (List UInt8))) (a1_x : (List UInt8)) (a2_x : (List UInt8)) (Q : Bool → Prop) : Prop :=
 Q (decide ((a0_x.1 = a1_x) ∧ (a0_x.2 = a2_x)))
theorem qpi {a0_x : ((List UInt8) × (List UInt8))} {a1_x : (List UInt8)} {a2_x : (List UInt8)} (w_0 : qao.wf a0_x) (w_1 : qad.wf a1_x) (w_2 : qaC.wf a2_x) : qgY a0_x a1_x a2_x (fun o0 => o0 = decide (a0_x.1 = a1_x ∧ a0_x.2 = a2_x)) := by
 show decide _ = decide _
 simp
theorem qk0 {w0 : World} {K0 : Ghost} {a0_x_v : Value} {a0_x : ((List UInt8) × (List UInt8))} {a1_x_b : Nat} {a1_x_pre a1_x_post : List Value} {a1_x : (List UInt8)} {a2_x_b : Nat} {a2_x_pre a2_x_post : List Value} {a2_x : (List UInt8)} {Q : Bool → Prop} (hM0 : Models w0 K0) (h_a0_x : qao.V K0 a0_x a0_x_v) (h_a1_x_B : Bx qad w0 K0 a1_x_b a1_x_pre a1_x_post a1_x) (h_a2_x_B : Bx qaC w0 K0 a2_x_b a2_x_pre a2_x_post a2_x) (hsp2_3 : ¬ (a1_x_b = a2_x_b)) (h : qgY a0_x a1_x a2_x Q) : Calls Try.prog 133 #[a0_x_v, (.pointer (some ⟨a1_x_b, a1_x_pre.length, none⟩)), (.pointer (some ⟨a2_x_b, a2_x_pre.length, none⟩))] w0 (fun e w' => ∃ (K' : Ghost) (r0 : Value) (o0 : Bool), e = .returned r0 ∧ Q o0 ∧ Ext NX w0 K0 w' K' ∧ Models w' K' ∧ Kd.bool.V K' o0 r0) := by
 unfold qgY at h
 have hE0 : Ext NX w0 K0 w0 K0 := Ext.refl _ _ _
 refine qby fun R hR => ?_
 refine qa7 (args := [a0_x_v, (.pointer (some ⟨a1_x_b, a1_x_pre.length, none⟩)), (.pointer (some ⟨a2_x_b, a2_x_pre.length, none⟩))]) Try.func133 rfl (Nat.le_of_ble_eq_true rfl) ?_
 refine qan ?_
 refine qae ?_
 refine qa2 rfl rfl (St_B (qkD hM0 rfl h_a0_x) ?_)
 rintro b4 w4 (hB4 : Bx qao _ _ _ _ _ a0_x) hS4 hM4 hge4
 have hE4 := hE0.andN hS4
 refine qaa (.bool false) (R_as rfl) rfl rfl ?_
 refine qax ?_
 refine qan ?_
 refine qs5 (K := K0) NX [.o 0 2, .o 1 2, .o 2 2, .o 3 2, .o 4 2, .o 5 2, .o 6 2, .o 7 2, .o 8 0, .o 9 2, .o 10 2] (by kernel_rfl) hM4 ?_
 refine qaw (.pointer (some ⟨b4, 0 + 0, none⟩)) rfl l0 hM4 (fun _ => R_fa rfl Try.underlying146 rfl rfl ty24 rfl) rfl (gN rfl) rfl ?_
 refine qeN hM4 (qcH (Foc.fst qad qaC) rfl ty24 hB4 (by first | rfl | simp | omega) (fun h => h)) rfl (gN rfl) rfl ?_
 rintro v6 (hV6 : qad.V _ a0_x.1 _)
 have hR9 := (h_a1_x_B.extN hS4)
 refine qeN hM4 (qcH (Foc.id _) rfl ty24 hR9 (by first | rfl | simp | omega) (fun h => h)) rfl (gN rfl) rfl ?_
 rintro v8 (hV8 : qad.V _ a1_x _)
 refine qaw (.bool (decide (a0_x.1 = a1_x))) rfl l0 hM4 (fun _ => qvM rfl rfl hV6 hV8 Try.underlying24 Try.underlying5 ty5b (by kernel_rfl)) rfl (gN rfl) rfl ?_
 refine qaw (.bool (decide (a0_x.1 = a1_x))) rfl l0 hM4 (fun _ => R_mv rfl) rfl (gN rfl) rfl ?_
 refine qun (al := true) (l1 := [.o 5 2, .o 6 2, .o 7 2, .o 8 0, .o 9 2]) [10, 11, 12, 13, 14] NX (fun l w K => l = [(14, (.bool (decide ((a0_x.1 = a1_x) ∧ (a0_x.2 = a2_x)))))] ∧ Ext NX w4 K0 w K ∧ Models w K) ?_ ?_
 ·rcases Classical.em (a0_x.1 = a1_x) with hp11 | hp11
  ·skip
   refine qaw (.pointer (some ⟨b4, 0 + 32, none⟩)) rfl l0 hM4 (fun _ => R_fa rfl Try.underlying146 rfl rfl ty32 rfl) rfl (gY rfl rfl rfl (decide_eq_true hp11)) rfl ?_
   refine qeN hM4 (qcH (Foc.snd qad qaC) rfl ty32 hB4 (by first | rfl | simp | omega) (fun h => h)) rfl (gY rfl rfl rfl (decide_eq_true hp11)) rfl ?_
   rintro v12 (hV12 : qaC.V _ a0_x.2 _)
   have hR15 := (h_a2_x_B.extN hS4)
   refine qeN hM4 (qcH (Foc.id _) rfl ty32 hR15 (by first | rfl | simp | omega) (fun h => h)) rfl (gY rfl rfl rfl (decide_eq_true hp11)) rfl ?_
   rintro v14 (hV14 : qaC.V _ a2_x _)
   refine qkH rfl (gY rfl rfl rfl (decide_eq_true hp11)) rfl (qbU (qdy Try.call85 rfl) ((qtF hM4 hV12 hV14).mono ?_))
   rintro _ w17 ⟨K17, v17_0, rfl, hS17, hM17, hV17_0⟩
   refine ⟨v17_0, rfl, ?_⟩
   refine ⟨K17, hS17, hM17, ?_⟩
   have hE17 := hE4.andN hS17
   obtain rfl := qcV hV17_0
   refine qaw (.bool (decide ((a0_x.1 = a1_x) ∧ (a0_x.2 = a2_x)))) rfl l0 hM17 (fun _ => qt8 rfl (decide_eq_true hp11) rfl (qxE hp11)) rfl (gN rfl) rfl ?_
   exact qs4 [(14, (.bool (decide ((a0_x.1 = a1_x) ∧ (a0_x.2 = a2_x)))))] K17 rfl ⟨rfl, ((Ext.refl _ _ _).andN hS17), hM17⟩ (by repeat (first | exact Off.refl _ _ | refine Off.updO ?_ rfl _ | refine Off.updN ?_ _ | refine Off.lay ?_ rfl)) ⟨rfl, trivial⟩
  ·skip
   refine qgJ _ hM4 l0 rfl (gF rfl rfl rfl (decide_eq_false hp11)) rfl ?_
   refine qgJ _ hM4 l0 rfl (gF rfl rfl rfl (decide_eq_false hp11)) rfl ?_
   refine qgJ _ hM4 l0 rfl (gF rfl rfl rfl (decide_eq_false hp11)) rfl ?_
   refine qgJ _ hM4 l0 rfl (gF rfl rfl rfl (decide_eq_false hp11)) rfl ?_
   refine qaw (.bool (decide ((a0_x.1 = a1_x) ∧ (a0_x.2 = a2_x)))) rfl l0 hM4 (fun _ => qt9 rfl (decide_eq_false hp11) rfl (qxD hp11)) rfl (gN rfl) rfl ?_
   exact qs4 [(14, (.bool (decide ((a0_x.1 = a1_x) ∧ (a0_x.2 = a2_x)))))] K0 rfl ⟨rfl, (Ext.refl _ _ _), hM4⟩ (by repeat (first | exact Off.refl _ _ | refine Off.updO ?_ rfl _ | refine Off.updN ?_ _ | refine Off.lay ?_ rfl)) ⟨rfl, trivial⟩
 rintro l σ18 w18 K18 ⟨rfl, hS18, hM18⟩
 have hE18 := hE4.andN hS18
 refine qaw (.bool (decide ((a0_x.1 = a1_x) ∧ (a0_x.2 = a2_x)))) rfl l0 hM18 (fun _ => R_as rfl) rfl (gN rfl) rfl ?_
 refine qhL ?_
 refine qcz ?_
 exact qbM hR (v := (.bool (decide ((a0_x.1 = a1_x) ∧ (a0_x.2 = a2_x))))) (qel rfl rfl) ⟨K18, (.bool (decide ((a0_x.1 = a1_x) ∧ (a0_x.2 = a2_x)))), (decide ((a0_x.1 = a1_x) ∧ (a0_x.2 = a2_x))), rfl, h, hE18, hM18, qgP⟩
theorem qrV {w0 : World} {K0 : Ghost} {a0_x_v : Value} {a0_x : ((List UInt8) × (List UInt8))} {a1_x_b : Nat} {a1_x_pre a1_x_post : List Value} {a1_x : (List UInt8)} {a2_x_b : Nat} {a2_x_pre a2_x_post : List Value} {a2_x : (List UInt8)} (hM0 : Models w0 K0) (h_a0_x : qao.V K0 a0_x a0_x_v) (h_a1_x_B : Bx qad w0 K0 a1_x_b a1_x_pre a1_x_post a1_x) (h_a2_x_B : Bx qaC w0 K0 a2_x_b a2_x_pre a2_x_post a2_x) (hsp2_3 : ¬ (a1_x_b = a2_x_b)) : Calls Try.prog 133 #[a0_x_v, (.pointer (some ⟨a1_x_b, a1_x_pre.length, none⟩)), (.pointer (some ⟨a2_x_b, a2_x_pre.length, none⟩))] w0 (fun e w' => ∃ (K' : Ghost) (r0 : Value), e = .returned r0 ∧ Ext NX w0 K0 w' K' ∧ Models w' K' ∧ Kd.bool.V K' (decide (a0_x.1 = a1_x ∧ a0_x.2 = a2_x)) r0) := by
 refine (qk0 hM0 h_a0_x h_a1_x_B h_a2_x_B hsp2_3 (qpi h_a0_x.wf h_a1_x_B.wf h_a2_x_B.wf)).mono ?_
 rintro _ w' ⟨K', r0, o0, rfl, rfl, hF⟩
 exact ⟨K', r0, rfl, hF⟩
abbrev qaW : Kd (List ((List UInt8) × (List UInt8))) := (Kd.sl qao)
theorem qnw : TyOk Try.prog 146 qao 56 := ⟨⟨Try.t146, _, Try.type146, rfl, rfl, rfl, rfl, rfl⟩, ⟨_, Try.underlying146, rfl⟩⟩
def qcy (a0_s : (List ((List UInt8) × (List UInt8)))) (a1_f_0 : (List UInt8)) (a1_f_1 : (List UInt8)) (Q : Int → Prop) : Prop :=
 ∃ (I4 : Int → Int → Prop) (μ4 : Int → Int → Nat), I4 0 0 ∧ ∀ (i4 : Int) (i4' : Int), I4 i4 i4' → ((Kd.int .i64).wf i4) → ((Kd.int .i64).wf i4') → (((i4' < (a0_s.length : Int)) → (0 ≤ i4' ∧ i4' < (a0_s.length : Int)) ∧ ((((ix a0_s i4').1 = a1_f_0 ∧ (ix a0_s i4').2 = a1_f_1) → Q i4') ∧ ((¬ ((ix a0_s i4').1 = a1_f_0 ∧ (ix a0_s i4').2 = a1_f_1)) → I4 i4 (i4' + 1) ∧ μ4 i4 (i4' + 1) < μ4 i4 i4'))) ∧ ((¬ (i4' < (a0_s.length : Int))) → Q (-1)))
theorem qjl {a0_s : (List ((List UInt8) × (List UInt8)))} {a1_f_0 : (List UInt8)} {a1_f_1 : (List UInt8)} (w_0 : qaW.wf a0_s) : qcy a0_s a1_f_0 a1_f_1 (fun o0 => o0 = (qbm a1_f_0 a1_f_1 a0_s 0)) := by
 unfold qcy
 refine ⟨fun _ i => ∃ j : Nat, i = (j : Int) ∧ j ≤ a0_s.length ∧ qbm a1_f_0 a1_f_1 a0_s 0 = qbm a1_f_0 a1_f_1 (a0_s.drop j) (j : Int), fun _ i => a0_s.length - i.toNat, ⟨0, rfl, by omega, by simp⟩, ?_⟩
 rintro _ i ⟨j, rfl, hj, he⟩ _ _
 refine ⟨fun hlt => ⟨⟨by omega, hlt⟩, fun h => ?_, fun h => ⟨⟨j + 1, by omega, by omega, ?_⟩, ?_⟩⟩, fun hge => ?_⟩
 ·rw [qg7 hlt, if_pos (h)] at he
  exact he.symm
 ·rw [qg7 hlt, if_neg (h)] at he
  rw [he]
  congr 1
 ·show a0_s.length - ((j : Int) + 1).toNat < a0_s.length - (j : Int).toNat
  omega
 ·have : j = a0_s.length := by omega
  subst this
  rw [List.drop_length] at he
  exact he.symm
theorem qho {w0 : World} {K0 : Ghost} {a0_s_v : Value} {a0_s : (List ((List UInt8) × (List UInt8)))} {a1_f_0_b : Nat} {a1_f_0_pre a1_f_0_post : List Value} {a1_f_0 : (List UInt8)} {a1_f_1_b : Nat} {a1_f_1_pre a1_f_1_post : List Value} {a1_f_1 : (List UInt8)} {Q : Int → Prop} (hM0 : Models w0 K0) (h_a0_s : qaW.V K0 a0_s a0_s_v) (h_a1_f_0_B : Bx qad w0 K0 a1_f_0_b a1_f_0_pre a1_f_0_post a1_f_0) (h_a1_f_1_B : Bx qaC w0 K0 a1_f_1_b a1_f_1_pre a1_f_1_post a1_f_1) (hsp2_3 : ¬ (a1_f_0_b = a1_f_1_b)) (h : qcy a0_s a1_f_0 a1_f_1 Q) : Calls Try.prog 144 #[a0_s_v, (.func (.func 133) #[] #[(.pointer (some ⟨a1_f_0_b, a1_f_0_pre.length, none⟩)), (.pointer (some ⟨a1_f_1_b, a1_f_1_pre.length, none⟩))])] w0 (fun e w' => ∃ (K' : Ghost) (r0 : Value) (o0 : Int), e = .returned r0 ∧ Q o0 ∧ Ext NX w0 K0 w' K' ∧ Models w' K' ∧ (Kd.int .i64).V K' o0 r0) := by
 unfold qcy at h
 have hE0 : Ext NX w0 K0 w0 K0 := Ext.refl _ _ _
 refine qby fun R hR => ?_
 refine qa7 (args := [a0_s_v, (.func (.func 133) #[] #[(.pointer (some ⟨a1_f_0_b, a1_f_0_pre.length, none⟩)), (.pointer (some ⟨a1_f_1_b, a1_f_1_pre.length, none⟩))])]) Try.func144 rfl (Nat.le_of_ble_eq_true rfl) ?_
 refine qan ?_
 refine qae ?_
 refine qaa (.int .i64 0) (R_as rfl) rfl rfl ?_
 refine qax ?_
 refine qan ?_
 refine qan ?_
 refine qae ?_
 refine qaa a0_s_v (R_mv rfl) rfl rfl ?_
 refine qaa (.int .i64 (a0_s.length : Int)) (qgG rfl h_a0_s Try.underlying36) rfl rfl ?_
 refine qaa (.int .i64 0) (R_mv rfl) rfl rfl ?_
 refine qax ?_
 refine qcd ?_
 obtain ⟨I4, μ4, h0, h⟩ := h
 refine qiz (ι := Int × Int) [4, 5, 8, 9, 10, 11, 12, 13, 14, 15, 16, 17, 18] (fun s l w => ∃ K, I4 s.1 s.2 ∧ l = [(4, (.int .i64 s.1)), (8, (.int .i64 s.2))] ∧ Ext NX w0 K0 w K ∧ Models w K ∧ (Kd.int .i64).wf s.1 ∧ (Kd.int .i64).wf s.2) (fun s => μ4 s.1 s.2) (0, 0) [(4, (.int .i64 0)), (8, (.int .i64 0))]
  ⟨K0, h0, rfl, Ext.refl _ _ _, hM0, (show (Kd.int .i64).wf 0 from by constructor <;> decide), (show (Kd.int .i64).wf 0 from by constructor <;> decide)⟩ (by repeat (first | exact trivial | refine ⟨rfl, ?_⟩)) ?_
 rintro ⟨i4, i4'⟩ l σ4 w5 ⟨K5, hI, rfl, hX5, hM5, hw4_4, hw4_8⟩
 dsimp only at hI hw4_4 hw4_8
 have hE5 := hE0.andN hX5
 have h := h i4 i4' hI hw4_4 hw4_8
 refine qan ?_
 refine qae ?_
 refine qaa (.bool (decide (i4' < (a0_s.length : Int)))) (qm1 rfl rfl) rfl rfl ?_
 refine qax ?_
 refine qan ?_
 refine qbd (decide (i4' < (a0_s.length : Int))) rfl (fun hc6 => ?_) (fun hc6 => ?_)
 ·have hd6 : i4' < (a0_s.length : Int) := qjD hc6
  have h := h.1 hd6
  refine qbV ?_
  refine qan ?_
  refine qcd ?_
  refine qan ?_
  refine qae ?_
  refine qaa (.int .i64 i4') (R_mv rfl) rfl rfl ?_
  refine qaa (.int .i64 i4') (R_as rfl) rfl rfl ?_
  refine qax ?_
  refine qan ?_
  refine qae ?_
  refine qaa (.func (.func 133) #[] #[(.pointer (some ⟨a1_f_0_b, a1_f_0_pre.length, none⟩)), (.pointer (some ⟨a1_f_1_b, a1_f_1_pre.length, none⟩))]) (R_mv rfl) rfl rfl ?_
  refine qaa a0_s_v (R_mv rfl) rfl rfl ?_
  refine qaa (.int .i64 i4') (R_mv rfl) rfl rfl ?_
  obtain ⟨hp8, h⟩ := h
  refine WL_P (qoz rfl (h_a0_s.mono hX5.le) rfl Try.underlying36 qnw hp8.1 hp8.2) rfl rfl ?_
  rintro b7 o7 hP7
  refine WL_L hM5 (S_ld rfl qnw hP7) rfl rfl ?_
  rintro v10 (hV10 : qao.V _ (ix a0_s i4') _)
  have hR12 := (h_a1_f_0_B.extN hX5)
  have hR13 := (h_a1_f_1_B.extN hX5)
  refine qa2 rfl rfl (qbU (qor rfl Try.call133 rfl) ((qrV hM5 hV10 hR12 hR13 hsp2_3).mono ?_))
  rintro _ w14 ⟨K14, v14_0, rfl, hS14, hM14, hV14_0⟩
  refine ⟨v14_0, rfl, ?_⟩
  have hE14 := hE5.andN hS14
  obtain rfl := qcV hV14_0
  refine qax ?_
  refine qbd (decide ((ix a0_s i4').1 = a1_f_0 ∧ (ix a0_s i4').2 = a1_f_1)) rfl (fun hc15 => ?_) (fun hc15 => ?_)
  ·have hd15 : (ix a0_s i4').1 = a1_f_0 ∧ (ix a0_s i4').2 = a1_f_1 := qjD hc15
   have h := h.1 hd15
   refine qan ?_
   refine qae ?_
   refine qaa (.int .i64 i4') (R_mv rfl) rfl rfl ?_
   refine qaa (.int .i64 i4') (R_as rfl) rfl rfl ?_
   refine qax ?_
   refine qcz ?_
   exact qbM hR (v := (.int .i64 i4')) (qel rfl rfl) ⟨K14, (.int .i64 i4'), i4', rfl, h, hE14, hM14, (qhu hw4_8)⟩
  ·have hd15 : ¬ ((ix a0_s i4').1 = a1_f_0 ∧ (ix a0_s i4').2 = a1_f_1) := qjC hc15
   have h := h.2 hd15
   refine qbV ?_
   refine qae ?_
   refine qaa (.int .i64 (i4' + 1)) (qt6 rfl rfl hw4_8 hd6 (qcY (h_a0_s).wf.1)) rfl rfl ?_
   refine qaa (.int .i64 (i4' + 1)) (R_mv rfl) rfl rfl ?_
   refine qax ?_
   refine qkk.mk (i4, (i4' + 1)) [(4, (.int .i64 i4)), (8, (.int .i64 (i4' + 1)))] ?_ ?_ ?_ ?_
   rotate_left
   ·exact h.2
   ·repeat (first | exact Off.lay0 rfl | refine Off.updO ?_ rfl _ | refine Off.updN ?_ _ | refine Off.lay ?_ rfl)
   ·repeat (first | exact trivial | refine ⟨rfl, ?_⟩)
   exact ⟨K14, h.1, rfl, (((Ext.refl _ _ _).andN hX5).andN hS14), hM14, hw4_4, (qpm hw4_8 hd6 (qcY (h_a0_s).wf.1))⟩
 ·have hd6 : ¬ (i4' < (a0_s.length : Int)) := qjC hc6
  have h := h.2 hd6
  refine qiy ?_
  refine qan ?_
  refine qae ?_
  refine qaa (.int .i64 (-1)) (R_as rfl) rfl rfl ?_
  refine qax ?_
  refine qcz ?_
  exact qbM hR (v := (.int .i64 (-1))) (qel rfl rfl) ⟨K5, (.int .i64 (-1)), (-1), rfl, h, hE5, hM5, (qhu (show (Kd.int .i64).wf (-1) from by constructor <;> decide))⟩
theorem qkq {w0 : World} {K0 : Ghost} {a0_s_v : Value} {a0_s : (List ((List UInt8) × (List UInt8)))} {a1_f_0_b : Nat} {a1_f_0_pre a1_f_0_post : List Value} {a1_f_0 : (List UInt8)} {a1_f_1_b : Nat} {a1_f_1_pre a1_f_1_post : List Value} {a1_f_1 : (List UInt8)} (hM0 : Models w0 K0) (h_a0_s : qaW.V K0 a0_s a0_s_v) (h_a1_f_0_B : Bx qad w0 K0 a1_f_0_b a1_f_0_pre a1_f_0_post a1_f_0) (h_a1_f_1_B : Bx qaC w0 K0 a1_f_1_b a1_f_1_pre a1_f_1_post a1_f_1) (hsp2_3 : ¬ (a1_f_0_b = a1_f_1_b)) : Calls Try.prog 144 #[a0_s_v, (.func (.func 133) #[] #[(.pointer (some ⟨a1_f_0_b, a1_f_0_pre.length, none⟩)), (.pointer (some ⟨a1_f_1_b, a1_f_1_pre.length, none⟩))])] w0 (fun e w' => ∃ (K' : Ghost) (r0 : Value), e = .returned r0 ∧ Ext NX w0 K0 w' K' ∧ Models w' K' ∧ (Kd.int .i64).V K' (qbm a1_f_0 a1_f_1 a0_s 0) r0) := by
 refine (qho hM0 h_a0_s h_a1_f_0_B h_a1_f_1_B hsp2_3 (qjl h_a0_s.wf)).mono ?_
 rintro _ w' ⟨K', r0, o0, rfl, rfl, hF⟩
 exact ⟨K', r0, rfl, hF⟩
def qfc (a0_s : (List ((List UInt8) × (List UInt8)))) (a1_f_0 : (List UInt8)) (a1_f_1 : (List UInt8)) (Q : Bool → Prop) : Prop :=
 ((Kd.int .i64).wf (qbm a1_f_0 a1_f_1 a0_s 0)) → (Q (decide (0 ≤ (qbm a1_f_0 a1_f_1 a0_s 0))))
theorem qmV {a0_s : (List ((List UInt8) × (List UInt8)))} {a1_f_0 : (List UInt8)} {a1_f_1 : (List UInt8)} (w_0 : qaW.wf a0_s) : qfc a0_s a1_f_0 a1_f_1 (fun o0 => o0 = decide (0 ≤ qbm a1_f_0 a1_f_1 a0_s 0)) := by
 exact fun _ => rfl
theorem qjk {w0 : World} {K0 : Ghost} {a0_s_v : Value} {a0_s : (List ((List UInt8) × (List UInt8)))} {a1_f_0_b : Nat} {a1_f_0_pre a1_f_0_post : List Value} {a1_f_0 : (List UInt8)} {a1_f_1_b : Nat} {a1_f_1_pre a1_f_1_post : List Value} {a1_f_1 : (List UInt8)} {Q : Bool → Prop} (hM0 : Models w0 K0) (h_a0_s : qaW.V K0 a0_s a0_s_v) (h_a1_f_0_B : Bx qad w0 K0 a1_f_0_b a1_f_0_pre a1_f_0_post a1_f_0) (h_a1_f_1_B : Bx qaC w0 K0 a1_f_1_b a1_f_1_pre a1_f_1_post a1_f_1) (hsp2_3 : ¬ (a1_f_0_b = a1_f_1_b)) (h : qfc a0_s a1_f_0 a1_f_1 Q) : Calls Try.prog 132 #[a0_s_v, (.func (.func 133) #[] #[(.pointer (some ⟨a1_f_0_b, a1_f_0_pre.length, none⟩)), (.pointer (some ⟨a1_f_1_b, a1_f_1_pre.length, none⟩))])] w0 (fun e w' => ∃ (K' : Ghost) (r0 : Value) (o0 : Bool), e = .returned r0 ∧ Q o0 ∧ Ext NX w0 K0 w' K' ∧ Models w' K' ∧ Kd.bool.V K' o0 r0) := by
 unfold qfc at h
 have hE0 : Ext NX w0 K0 w0 K0 := Ext.refl _ _ _
 refine qby fun R hR => ?_
 refine qa7 (args := [a0_s_v, (.func (.func 133) #[] #[(.pointer (some ⟨a1_f_0_b, a1_f_0_pre.length, none⟩)), (.pointer (some ⟨a1_f_1_b, a1_f_1_pre.length, none⟩))])]) Try.func132 rfl (Nat.le_of_ble_eq_true rfl) ?_
 refine qan ?_
 refine qae ?_
 refine qaa (.bool false) (R_as rfl) rfl rfl ?_
 refine qax ?_
 refine qan ?_
 refine qae ?_
 refine qaa a0_s_v (R_mv rfl) rfl rfl ?_
 refine qaa (.func (.func 133) #[] #[(.pointer (some ⟨a1_f_0_b, a1_f_0_pre.length, none⟩)), (.pointer (some ⟨a1_f_1_b, a1_f_1_pre.length, none⟩))]) (R_mv rfl) rfl rfl ?_
 refine qa2 rfl rfl (qbU (qdy Try.call144 rfl) ((qkq hM0 h_a0_s h_a1_f_0_B h_a1_f_1_B hsp2_3).mono ?_))
 rintro _ w4 ⟨K4, v4_0, rfl, hS4, hM4, hV4_0⟩
 refine ⟨v4_0, rfl, ?_⟩
 have hE4 := hE0.andN hS4
 obtain rfl := qb2 hV4_0
 have h := h hV4_0.wf
 refine qaa (.bool (decide (0 ≤ (qbm a1_f_0 a1_f_1 a0_s 0)))) (qvQ rfl rfl) rfl rfl ?_
 refine qaa (.bool (decide (0 ≤ (qbm a1_f_0 a1_f_1 a0_s 0)))) (R_as rfl) rfl rfl ?_
 refine qax ?_
 refine qcz ?_
 exact qbM hR (v := (.bool (decide (0 ≤ (qbm a1_f_0 a1_f_1 a0_s 0))))) (qel rfl rfl) ⟨K4, (.bool (decide (0 ≤ (qbm a1_f_0 a1_f_1 a0_s 0)))), (decide (0 ≤ (qbm a1_f_0 a1_f_1 a0_s 0))), rfl, h, hE4, hM4, qgP⟩
theorem qnU {w0 : World} {K0 : Ghost} {a0_s_v : Value} {a0_s : (List ((List UInt8) × (List UInt8)))} {a1_f_0_b : Nat} {a1_f_0_pre a1_f_0_post : List Value} {a1_f_0 : (List UInt8)} {a1_f_1_b : Nat} {a1_f_1_pre a1_f_1_post : List Value} {a1_f_1 : (List UInt8)} (hM0 : Models w0 K0) (h_a0_s : qaW.V K0 a0_s a0_s_v) (h_a1_f_0_B : Bx qad w0 K0 a1_f_0_b a1_f_0_pre a1_f_0_post a1_f_0) (h_a1_f_1_B : Bx qaC w0 K0 a1_f_1_b a1_f_1_pre a1_f_1_post a1_f_1) (hsp2_3 : ¬ (a1_f_0_b = a1_f_1_b)) : Calls Try.prog 132 #[a0_s_v, (.func (.func 133) #[] #[(.pointer (some ⟨a1_f_0_b, a1_f_0_pre.length, none⟩)), (.pointer (some ⟨a1_f_1_b, a1_f_1_pre.length, none⟩))])] w0 (fun e w' => ∃ (K' : Ghost) (r0 : Value), e = .returned r0 ∧ Ext NX w0 K0 w' K' ∧ Models w' K' ∧ Kd.bool.V K' (decide (0 ≤ qbm a1_f_0 a1_f_1 a0_s 0)) r0) := by
 refine (qjk hM0 h_a0_s h_a1_f_0_B h_a1_f_1_B hsp2_3 (qmV h_a0_s.wf)).mono ?_
 rintro _ w' ⟨K', r0, o0, rfl, rfl, hF⟩
 exact ⟨K', r0, rfl, hF⟩
abbrev qat : Kd (Value × Value) := (Kd.pr Kd.rsl Kd.rmp)
theorem qhy : TyOk Try.prog 37 Kd.rmp 8 := ⟨⟨Try.t37, _, Try.type37, rfl, rfl, rfl, rfl, rfl⟩, ⟨_, Try.underlying37, rfl⟩⟩
theorem qkf : TyOk Try.prog 36 Kd.rsl 24 := ⟨⟨Try.t36, _, Try.type36, rfl, rfl, rfl, rfl, rfl⟩, ⟨_, Try.underlying36, rfl⟩⟩
def qml (a0_n_0 : (List ((List UInt8) × (List UInt8)))) (a0_n_1 : (List ((List UInt8) × Int))) (a1_s : (List UInt8)) (a2_b : (List UInt8)) (Q : Bool → Prop) : Prop :=
 ((¬ (((mfind a1_s a0_n_1).isSome) = true)) → Q false) ∧ ((((mfind a1_s a0_n_1).isSome) = true) → (0 ≤ ((mfind a1_s a0_n_1).getD 0) ∧ ((mfind a1_s a0_n_1).getD 0) ≤ (a0_n_0.length : Int)) ∧ (Q (decide (0 ≤ qbm a1_s a2_b (a0_n_0.drop ((mfind a1_s a0_n_1).getD 0).toNat) 0))))
theorem qwA {a0_n_0 : (List ((List UInt8) × (List UInt8)))} {a0_n_1 : (List ((List UInt8) × Int))} {a1_s : (List UInt8)} {a2_b : (List UInt8)} (w_0 : qad.wf a1_s) (w_1 : qaC.wf a2_b) (hp : qca a0_n_0 a0_n_1) : qml a0_n_0 a0_n_1 a1_s a2_b (fun o0 => o0 = decide ((a1_s, a2_b) ∈ a0_n_0)) := by
 unfold qml
 rw [hp a1_s]
 refine ⟨fun h => ?_, fun h => ?_⟩
 ·have hn : qa9 a1_s a0_n_0 0 = none := by
   cases hf : qa9 a1_s a0_n_0 0 with
   | none => rfl
   | some a => rw [hf] at h; exact absurd rfl h
  have := qf7 hn a2_b
  simp [this]
 ·cases hf : qa9 a1_s a0_n_0 0 with
  | none => rw [hf] at h; cases h
  | some a =>
    obtain ⟨j, rfl, hl, hm⟩ := qf8 hf
    simp only [Option.getD_some, Int.zero_add, Int.toNat_natCast]
    refine ⟨⟨by omega, by omega⟩, ?_⟩
    rw [decide_eq_decide, qj2 _ _ (Int.le_refl _)]
    exact (hm a2_b).symm
theorem qrW {w0 : World} {K0 : Ghost} {a0_n_b : Nat} {a0_n_pre a0_n_post : List Value} {a0_n_0v : Value} {a0_n_0 : (List ((List UInt8) × (List UInt8)))} {a0_n_1v : Value} {a0_n_1 : (List ((List UInt8) × Int))} {a1_s_v : Value} {a1_s : (List UInt8)} {a2_b_v : Value} {a2_b : (List UInt8)} {Q : Bool → Prop} (hM0 : Models w0 K0) (h_a0_n_B : Bx qat w0 K0 a0_n_b a0_n_pre a0_n_post (a0_n_0v, a0_n_1v)) (h_a0_n_0 : Own qao 146 w0 K0 a0_n_0 a0_n_0v) (h_a0_n_1 : Mp qad (Kd.int .i64) w0 K0 a0_n_1 a0_n_1v) (h_a1_s : qad.V K0 a1_s a1_s_v) (h_a2_b : qaC.V K0 a2_b a2_b_v) (h : qml a0_n_0 a0_n_1 a1_s a2_b Q) : Calls Try.prog 120 #[(.pointer (some ⟨a0_n_b, a0_n_pre.length, none⟩)), a1_s_v, a2_b_v] w0 (fun e w' => ∃ (K' : Ghost) (r0 : Value) (o0 : Bool), e = .returned r0 ∧ Q o0 ∧ Ext NX w0 K0 w' K' ∧ Models w' K' ∧ Kd.bool.V K' o0 r0) := by
 unfold qml at h
 have hE0 : Ext NX w0 K0 w0 K0 := Ext.refl _ _ _
 refine qby fun R hR => ?_
 refine qa7 (args := [(.pointer (some ⟨a0_n_b, a0_n_pre.length, none⟩)), a1_s_v, a2_b_v]) Try.func120 rfl (Nat.le_of_ble_eq_true rfl) ?_
 refine qan ?_
 refine qae ?_
 refine qa2 rfl rfl (St_B (qkD hM0 rfl h_a1_s) ?_)
 rintro b6 w6 (hB6 : Bx qad _ _ _ _ _ a1_s) hS6 hM6 hge6
 have hE6 := hE0.andN hS6
 refine qa2 rfl rfl (St_B (qkD hM6 rfl (h_a2_b.mono hS6.le)) ?_)
 rintro b8 w8 (hB8 : Bx qaC _ _ _ _ _ a2_b) hS8 hM8 hge8
 have hE8 := hE6.andN hS8
 have hR10 := (h_a0_n_B.extN hS6)
 refine qaa (.bool false) (R_as rfl) rfl rfl ?_
 refine qax ?_
 refine qan ?_
 refine qfp (K := K0) NX [.o 0 2, .o 1 2, .o 2 2, .o 3 2, .o 4 2, .o 5 2, .o 6 2, .o 7 2, .o 8 2, .o 9 2, .o 10 2] (by kernel_rfl) (by kernel_rfl) hM8 ?_
 rintro w11 hS11 hM11
 have hE11 := hE8.andN hS11
 refine qaw (.pointer (some ⟨a0_n_b, a0_n_pre.length, none⟩)) rfl l0 hM11 (fun _ => R_mv rfl) rfl (gN rfl) rfl ?_
 refine qaw (.pointer (some ⟨a0_n_b, a0_n_pre.length, none⟩)) rfl l0 hM11 (fun _ => qbB rfl) rfl (gN rfl) rfl ?_
 refine qaw (.pointer (some ⟨a0_n_b, a0_n_pre.length + 1, none⟩)) rfl l0 hM11 (fun _ => R_fa rfl Try.underlying39 rfl rfl qhy rfl) rfl (gN rfl) rfl ?_
 have hR13 := (((h_a0_n_B.extN hS6).extN hS8).extN hS11)
 refine qeN hM11 (qcH (Foc.snd Kd.rsl Kd.rmp) rfl qhy hR13 (by first | rfl | simp | omega) (fun h => h)) rfl (gN rfl) rfl ?_
 rintro v12 (hV12 : Kd.rmp.V _ a0_n_1v _)
 obtain rfl := qeC hV12
 have hR15 := ((hB6.extN hS8).extN hS11)
 refine qeN hM11 (qcH (Foc.id _) rfl ty24 hR15 (by first | rfl | simp | omega) (fun h => h)) rfl (gN rfl) rfl ?_
 rintro v14 (hV14 : qad.V _ a1_s _)
 have hR18 := (((h_a0_n_1.extN hS6).extN hS8).extN hS11)
 refine qs3 hM11 (quj (kv := (Kd.int .i64)) rfl rfl hR18 hV14 Try.underlying37 (qeY Try.underlying24 Try.underlying5 ty5b) ty3 (fun _ _ h => h)) rfl (gN rfl) rfl ?_
 rintro v17 (hV17 : (Kd.int .i64).V _ ((mfind a1_s a0_n_1).getD 0) _)
 obtain rfl := qb2 hV17
 refine qaw (.tuple #[(.int .i64 ((mfind a1_s a0_n_1).getD 0)), (.bool ((mfind a1_s a0_n_1).isSome))]) rfl l0 hM11 (fun _ => R_mv rfl) rfl (gN rfl) rfl ?_
 refine qaw (.int .i64 ((mfind a1_s a0_n_1).getD 0)) rfl l0 hM11 (fun _ => qos rfl rfl) rfl (gN rfl) rfl ?_
 refine qaw (.bool ((mfind a1_s a0_n_1).isSome)) rfl l0 hM11 (fun _ => qos rfl rfl) rfl (gN rfl) rfl ?_
 refine qaw (.int .i64 ((mfind a1_s a0_n_1).getD 0)) rfl l0 hM11 (fun _ => R_as rfl) rfl (gN rfl) rfl ?_
 refine qaw (.bool ((mfind a1_s a0_n_1).isSome)) rfl l0 hM11 (fun _ => R_as rfl) rfl (gN rfl) rfl ?_
 refine qhL ?_
 refine qan ?_
 refine qan ?_
 refine qae ?_
 refine qaa (.bool ((mfind a1_s a0_n_1).isSome)) (R_mv rfl) rfl rfl ?_
 refine qaa (.bool (!((mfind a1_s a0_n_1).isSome))) (qm2 rfl) rfl rfl ?_
 refine qax ?_
 refine qbd (!((mfind a1_s a0_n_1).isSome)) rfl (fun hc19 => ?_) (fun hc19 => ?_)
 ·have hd19 : ¬ (((mfind a1_s a0_n_1).isSome) = true) := qwG hc19
  have h := h.1 hd19
  refine qan ?_
  refine qae ?_
  refine qaa (.bool false) (R_as rfl) rfl rfl ?_
  refine qax ?_
  refine qcz ?_
  exact qbM hR (v := (.bool false)) (qel rfl rfl) ⟨K0, (.bool false), false, rfl, h, hE11, hM11, qgP⟩
 ·have hd19 : ((mfind a1_s a0_n_1).isSome) = true := qwF hc19
  have h := h.2 hd19
  refine qbV ?_
  refine qan ?_
  refine qae ?_
  refine qaa (.pointer (some ⟨a0_n_b, a0_n_pre.length, none⟩)) (R_mv rfl) rfl rfl ?_
  refine qaa (.pointer (some ⟨a0_n_b, a0_n_pre.length, none⟩)) (qbB rfl) rfl rfl ?_
  refine qaa (.pointer (some ⟨a0_n_b, a0_n_pre.length + 0, none⟩)) (R_fa rfl Try.underlying39 rfl rfl qkf rfl) rfl rfl ?_
  refine WL_L hM11 (qcH (Foc.fst Kd.rsl Kd.rmp) rfl qkf hR13 (by first | rfl | simp | omega) (fun h => h)) rfl rfl ?_
  rintro v20 (hV20 : Kd.rsl.V _ a0_n_0v _)
  obtain rfl := qeC hV20
  refine qaa (.int .i64 ((mfind a1_s a0_n_1).getD 0)) (R_mv rfl) rfl rfl ?_
  obtain ⟨hp22, h⟩ := h
  refine WL_V (qwm rfl (h_a0_n_0.V.mono (hS6.le.trans (hS8.le.trans hS11.le))) Try.underlying36 qnw rfl hp22.1 hp22.2) rfl rfl ?_
  rintro v21 (hV21 : qaW.V _ (a0_n_0.drop ((mfind a1_s a0_n_1).getD 0).toNat) _)
  refine qaa (.func (.func 133) #[] #[(.pointer (some ⟨b6, 0, none⟩)), (.pointer (some ⟨b8, 0, none⟩))]) (qvP rfl) rfl rfl ?_
  have hR25 := (hB8.extN hS11)
  refine qa2 rfl rfl (qbU (qdy Try.call132 rfl) ((qnU hM11 hV21 hR15 hR25 (fun he => (qdH hge8 hB6.lt) he.symm)).mono ?_))
  rintro _ w24 ⟨K24, v24_0, rfl, hS24, hM24, hV24_0⟩
  refine ⟨v24_0, rfl, ?_⟩
  have hE24 := hE11.andN hS24
  obtain rfl := qcV hV24_0
  refine qaa (.bool (decide (0 ≤ qbm a1_s a2_b (a0_n_0.drop ((mfind a1_s a0_n_1).getD 0).toNat) 0))) (R_as rfl) rfl rfl ?_
  refine qax ?_
  refine qcz ?_
  exact qbM hR (v := (.bool (decide (0 ≤ qbm a1_s a2_b (a0_n_0.drop ((mfind a1_s a0_n_1).getD 0).toNat) 0)))) (qel rfl rfl) ⟨K24, (.bool (decide (0 ≤ qbm a1_s a2_b (a0_n_0.drop ((mfind a1_s a0_n_1).getD 0).toNat) 0))), (decide (0 ≤ qbm a1_s a2_b (a0_n_0.drop ((mfind a1_s a0_n_1).getD 0).toNat) 0)), rfl, h, hE24, hM24, qgP⟩
theorem qxN {w0 : World} {K0 : Ghost} {a0_n_b : Nat} {a0_n_pre a0_n_post : List Value} {a0_n_0v : Value} {a0_n_0 : (List ((List UInt8) × (List UInt8)))} {a0_n_1v : Value} {a0_n_1 : (List ((List UInt8) × Int))} {a1_s_v : Value} {a1_s : (List UInt8)} {a2_b_v : Value} {a2_b : (List UInt8)} (hM0 : Models w0 K0) (h_a0_n_B : Bx qat w0 K0 a0_n_b a0_n_pre a0_n_post (a0_n_0v, a0_n_1v)) (h_a0_n_0 : Own qao 146 w0 K0 a0_n_0 a0_n_0v) (h_a0_n_1 : Mp qad (Kd.int .i64) w0 K0 a0_n_1 a0_n_1v) (h_a1_s : qad.V K0 a1_s a1_s_v) (h_a2_b : qaC.V K0 a2_b a2_b_v) (hp : qca a0_n_0 a0_n_1) : Calls Try.prog 120 #[(.pointer (some ⟨a0_n_b, a0_n_pre.length, none⟩)), a1_s_v, a2_b_v] w0 (fun e w' => ∃ (K' : Ghost) (r0 : Value), e = .returned r0 ∧ Ext NX w0 K0 w' K' ∧ Models w' K' ∧ Kd.bool.V K' (decide ((a1_s, a2_b) ∈ a0_n_0)) r0) := by
 refine (qrW hM0 h_a0_n_B h_a0_n_0 h_a0_n_1 h_a1_s h_a2_b (qwA h_a1_s.wf h_a2_b.wf hp)).mono ?_
 rintro _ w' ⟨K', r0, o0, rfl, rfl, hF⟩
 exact ⟨K', r0, rfl, hF⟩
theorem qxM {fs : Array Field} (h : Try.prog.underlying 146 = some (.struct fs)) : ∀ f ∈ fs.toList, ∃ i, Try.prog.info? f.type = some i := by
 have h2 := (Try.underlying146).symm.trans h
 cases h2
 intro f hf
 simp only [List.mem_cons, List.not_mem_nil, or_false] at hf
 rcases hf with rfl | rfl
 ·exact ⟨_, Try.type24⟩
 ·exact ⟨_, Try.type32⟩
def ql0 (a0_n_0 : (List ((List UInt8) × (List UInt8)))) (a0_n_1 : (List ((List UInt8) × Int))) (a1_s : (List UInt8)) (a2_b : (List UInt8)) (Q : (List ((List UInt8) × (List UInt8))) → (List ((List UInt8) × Int)) → Prop) : Prop :=
 (qca a0_n_0 a0_n_1) ∧ ((((a1_s, a2_b) ∈ a0_n_0) → Q a0_n_0 a0_n_1) ∧ ((¬ ((a1_s, a2_b) ∈ a0_n_0)) → ∀ (r21 : Bool), (r21 = true → a0_n_1 = []) → (∃ (J23 : (List ((List UInt8) × Int)) → Prop), (((r21 = true) → J23 ([] : List ((List UInt8) × Int))) ∧ ((r21 = false) → J23 a0_n_1)) ∧ ∀ (y23 : (List ((List UInt8) × Int))), J23 y23 → (∃ (J42 : (List ((List UInt8) × Int)) → Prop), (((¬ (((mfind a1_s y23).isSome) = true)) → J42 (mset a1_s (a0_n_0.length : Int) y23)) ∧ ((((mfind a1_s y23).isSome) = true) → J42 y23)) ∧ ∀ (y42 : (List ((List UInt8) × Int))), J42 y42 → ((a2_b.length ≤ 140737488355328) ∧ ((qaC.wf a2_b) → (((a0_n_0.length + [(a1_s, a2_b)].length) * 56 ≤ 140737488355328) ∧ (Q (a0_n_0 ++ [(a1_s, a2_b)]) y42))))))))
theorem qwt {a0_n_0 : (List ((List UInt8) × (List UInt8)))} {a0_n_1 : (List ((List UInt8) × Int))} {a1_s : (List UInt8)} {a2_b : (List UInt8)} (w_0 : qad.wf a1_s) (w_1 : qaC.wf a2_b) (hp : qca a0_n_0 a0_n_1 ∧ a2_b.length ≤ 140737488355328 ∧ (a0_n_0.length + 1) * 64 ≤ 140737488355328) : ql0 a0_n_0 a0_n_1 a1_s a2_b (fun o0 o1 => o0 = (addL a0_n_0 a1_s a2_b) ∧ o1 = (addM a0_n_0 a0_n_1 a1_s a2_b)) := by
 obtain ⟨h1, h2, h3⟩ := hp
 have hlen : (a0_n_0.length + [(a1_s, a2_b)].length) * 56 ≤ 140737488355328 := by
  simp only [List.length_cons, List.length_nil]
  omega
 unfold ql0
 refine ⟨h1, fun h => ?_, fun h r hr => ?_⟩
 ·have hm := h
  exact ⟨by simp [addL, hm], by simp [addM, hm]⟩
 ·have hm := h
  refine ⟨fun m => m = a0_n_1, ⟨fun h => (hr h).symm, fun _ => rfl⟩, ?_⟩
  rintro m rfl
  refine ⟨fun m' => m' = if (mfind a1_s m).isSome then m else mset a1_s (a0_n_0.length : Int) m, ⟨fun h => by rw [if_neg h], fun h => by rw [if_pos h]⟩, ?_⟩
  rintro m' rfl
  exact ⟨h2, fun _ => ⟨hlen, by simp [addL, hm], by simp [addM, hm]⟩⟩
theorem qrA {w0 : World} {K0 : Ghost} {a0_n_b : Nat} {a0_n_pre a0_n_post : List Value} {a0_n_0v : Value} {a0_n_0 : (List ((List UInt8) × (List UInt8)))} {a0_n_1v : Value} {a0_n_1 : (List ((List UInt8) × Int))} {a1_s_v : Value} {a1_s : (List UInt8)} {a2_b_v : Value} {a2_b : (List UInt8)} {Q : (List ((List UInt8) × (List UInt8))) → (List ((List UInt8) × Int)) → Prop} (hM0 : Models w0 K0) (h_a0_n_B : Bx qat w0 K0 a0_n_b a0_n_pre a0_n_post (a0_n_0v, a0_n_1v)) (h_a0_n_0 : Own qao 146 w0 K0 a0_n_0 a0_n_0v) (h_a0_n_1 : Mp qad (Kd.int .i64) w0 K0 a0_n_1 a0_n_1v) (h_a1_s : qad.V K0 a1_s a1_s_v) (h_a2_b : qaC.V K0 a2_b a2_b_v) (h : ql0 a0_n_0 a0_n_1 a1_s a2_b Q) : Calls Try.prog 86 #[(.pointer (some ⟨a0_n_b, a0_n_pre.length, none⟩)), a1_s_v, a2_b_v] w0 (fun e w' => ∃ (K' : Ghost) (u0_0 : Value) (u0_1 : Value) (o0 : (List ((List UInt8) × (List UInt8)))) (o1 : (List ((List UInt8) × Int))), e = .returned (.tuple #[]) ∧ Q o0 o1 ∧ Ext (fun c => c = a0_n_b ∨ ob a0_n_0v = some c ∨ mb a0_n_1v = some c) w0 K0 w' K' ∧ Models w' K' ∧ Bx qat w' K' a0_n_b a0_n_pre a0_n_post (u0_0, u0_1) ∧ Own qao 146 w' K' o0 u0_0 ∧ (∀ g, ob u0_0 = some g → ob a0_n_0v = some g ∨ w0.heap.size ≤ g) ∧ Mp qad (Kd.int .i64) w' K' o1 u0_1 ∧ (∀ g, mb u0_1 = some g → mb a0_n_1v = some g ∨ w0.heap.size ≤ g)) := by
 unfold ql0 at h
 have hE0 : Ext (fun c => c = a0_n_b ∨ ob a0_n_0v = some c ∨ mb a0_n_1v = some c) w0 K0 w0 K0 := Ext.refl _ _ _
 refine qby fun R hR => ?_
 refine qa7 (args := [(.pointer (some ⟨a0_n_b, a0_n_pre.length, none⟩)), a1_s_v, a2_b_v]) Try.func86 rfl (Nat.le_of_ble_eq_true rfl) ?_
 refine qan ?_
 refine qae ?_
 refine qa2 rfl rfl (St_B (qkD hM0 rfl h_a1_s) ?_)
 rintro b6 w6 (hB6 : Bx qad _ _ _ _ _ a1_s) hS6 hM6 hge6
 have hE6 := hE0.andN hS6
 refine qax ?_
 refine qan ?_
 refine qan ?_
 refine qae ?_
 refine qaa (.pointer (some ⟨a0_n_b, a0_n_pre.length, none⟩)) (R_mv rfl) rfl rfl ?_
 refine WL_L hM6 (qcH (Foc.id _) rfl ty24 hB6 (by first | rfl | simp | omega) (fun h => h)) rfl rfl ?_
 rintro v8 (hV8 : qad.V _ a1_s _)
 refine qaa a2_b_v (R_mv rfl) rfl rfl ?_
 have hR10 := (h_a0_n_0.extN hS6)
 have hR11 := (h_a0_n_1.extN hS6)
 have hR12 := (h_a0_n_B.extN hS6)
 obtain ⟨hp14, h⟩ := h
 refine qa2 rfl rfl (qbU (qdy Try.call120 rfl) ((qxN hM6 hR12 hR10 hR11 hV8 (h_a2_b.mono hS6.le) hp14).mono ?_))
 rintro _ w13 ⟨K13, v13_0, rfl, hS13, hM13, hV13_0⟩
 refine ⟨v13_0, rfl, ?_⟩
 have hE13 := hE6.andN hS13
 obtain rfl := qcV hV13_0
 refine qax ?_
 refine qbd (decide ((a1_s, a2_b) ∈ a0_n_0)) rfl (fun hc15 => ?_) (fun hc15 => ?_)
 ·have hd15 : (a1_s, a2_b) ∈ a0_n_0 := qjD hc15
  have h := h.1 hd15
  refine qcz ?_
  have hR16 := (hR10.extN hS13)
  have hR17 := (hR11.extN hS13)
  have hR18 := (hR12.extN hS13)
  exact qbM hR (v := (.tuple #[])) (qp0 rfl) ⟨K13, a0_n_0v, a0_n_1v, a0_n_0, a0_n_1, rfl, h, hE13, hM13, hR18, hR16, (fun g hg => (.inl hg)), hR17, (fun g hg => (.inl hg))⟩
 ·have hd15 : ¬ ((a1_s, a2_b) ∈ a0_n_0) := qjC hc15
  have h := h.2 hd15
  refine qbV ?_
  refine qan ?_
  refine qan ?_
  refine qae ?_
  refine qaa (.pointer (some ⟨a0_n_b, a0_n_pre.length, none⟩)) (R_mv rfl) rfl rfl ?_
  refine qaa (.pointer (some ⟨a0_n_b, a0_n_pre.length, none⟩)) (qbB rfl) rfl rfl ?_
  refine qaa (.pointer (some ⟨a0_n_b, a0_n_pre.length + 1, none⟩)) (R_fa rfl Try.underlying39 rfl rfl qhy rfl) rfl rfl ?_
  have hR20 := (hR12.extN hS13)
  refine WL_L hM13 (qcH (Foc.snd Kd.rsl Kd.rmp) rfl qhy hR20 (by first | rfl | simp | omega) (fun h => h)) rfl rfl ?_
  rintro v19 (hV19 : Kd.rmp.V _ a0_n_1v _)
  obtain rfl := qeC hV19
  have hR22 := (hR11.extN hS13)
  refine qxB (qs2 rfl rfl hR22 Try.underlying37) rfl rfl ?_
  rintro r21 ⟨hn21, hnn21⟩
  have h := h r21 (fun hx => (hn21 hx).2)
  refine qax ?_
  obtain ⟨J23, h, hJ23⟩ := h
  refine qoD [17, 18, 19, 20] (fun l w => ∃ y23 K z1_1, J23 y23 ∧ l = [] ∧ Ext (fun c => mb a0_n_1v = some c ∨ c = a0_n_b) w13 K13 w K ∧ Models w K ∧ Mp qad (Kd.int .i64) w K y23 (.map (some z1_1)) ∧ (∀ g, mb (.map (some z1_1)) = some g → mb a0_n_1v = some g ∨ w13.heap.size ≤ g) ∧ Bx qat w K a0_n_b a0_n_pre a0_n_post (a0_n_0v, (.map (some z1_1)))) ?_ ?_
  ·skip
   refine qbd r21 rfl (fun hc24 => ?_) (fun hc24 => ?_)
   ·have hd24 : r21 = true := hc24
    have h := h.1 hd24
    refine qae ?_
    refine qaa (.pointer (some ⟨a0_n_b, a0_n_pre.length, none⟩)) (R_mv rfl) rfl rfl ?_
    refine qa2 rfl rfl (qxy (qwj (kk := qad) (kv := (Kd.int .i64)) hM13) ?_)
    rintro b25 w25 hO25 hS25 hM25 hge25
    have hf25 : ∀ g, mb (.map (some b25)) = some g → w0.heap.size ≤ g := fun g hg => by cases hg; exact Nat.le_trans hE13.size hge25
    have hE25 := hE13.andN hS25
    have hs27 : ∀ g, mb (.map (some b25)) = some g → ¬ (mb a0_n_1v = some g) := fun g hg hx => by cases hg; exact absurd (hR22.lt _ hx) (Nat.not_lt.2 hge25)
    refine qaa (.pointer (some ⟨a0_n_b, a0_n_pre.length, none⟩)) (qbB rfl) rfl rfl ?_
    refine qaa (.pointer (some ⟨a0_n_b, a0_n_pre.length + 1, none⟩)) (R_fa rfl Try.underlying39 rfl rfl qhy rfl) rfl rfl ?_
    have hR29 := (hR20.extN hS25)
    refine qa2 rfl rfl (qkG (qkF (Foc.snd Kd.rsl Kd.rmp) hM25 rfl rfl (rw_V hO25.one) qhy hR29 (by first | rfl | simp | omega)) ?_)
    rintro w28 (hB28 : Bx qat _ _ a0_n_b a0_n_pre a0_n_post (a0_n_0v, (.map (some b25)))) hS28 hM28
    have hE28 := hE25.comp hS28 (fun c hx hlt => (by subst hx; exact (fun _ => (.inl rfl)) hlt))
    refine qax ?_
    have hR30 := (hO25.ext hS28 (fun g hg hx => (fun g hg hx => hO25.box hR29 (hg.trans (congrArg some hx))) g hg hx))
    exact qks.mk [] ⟨([] : List ((List UInt8) × Int)), K13, b25, h, rfl, (((Ext.refl _ _ _).andN hS25).comp hS28 (fun c hx hlt => (.inr (hx)))), hM28, hR30, (fun g hg => .inr ((fun g hg => by cases hg; exact hge25) g hg)), hB28⟩ (by repeat (first | exact Off.lay0 rfl | exact Off.refl _ _ | refine Off.updO ?_ rfl _ | refine Off.updN ?_ _ | refine Off.lay ?_ rfl)) (by repeat (first | exact trivial | refine ⟨rfl, ?_⟩))
   ·have hd24 : r21 = false := hc24
    have h := h.2 hd24
    obtain ⟨b24, hv24⟩ := hnn21 hd24
    subst hv24
    refine qbV ?_
    exact qks.mk [] ⟨a0_n_1, K13, b24, h, rfl, (Ext.refl _ _ _), hM13, hR22, (fun g hg => (.inl hg)), hR20⟩ (by repeat (first | exact Off.lay0 rfl | exact Off.refl _ _ | refine Off.updO ?_ rfl _ | refine Off.updN ?_ _ | refine Off.lay ?_ rfl)) (by repeat (first | exact trivial | refine ⟨rfl, ?_⟩))
  rintro l σ23 w31 ⟨y23, K31, z1_1_23, hI, rfl, hX31, hM31, hL23_z1_1, ho23_z1_1, hL23_1⟩
  have h := hJ23 y23 hI
  have hE31 := hE13.comp hX31 (fun c hx hlt => Or.elim hx (fun hx => (fun g hg _ => (.inr (.inr (hg)))) c hx hlt) (fun hx => (by subst hx; exact (fun _ => (.inl rfl)) hlt)))
  have hf32 : ∀ g, mb (.map (some z1_1_23)) = some g → g < w0.heap.size → g = a0_n_b ∨ ob a0_n_0v = some g ∨ mb a0_n_1v = some g := fun g hg hlt => (ho23_z1_1 g hg).elim (fun hx => (fun g hg _ => (.inr (.inr (hg)))) g hx hlt) (fun hx => absurd hlt (Nat.not_lt.2 (Nat.le_trans hE13.size hx)))
  refine qan ?_
  refine qan ?_
  refine qfp (K := K31) NX [.o 0 2, .o 1 2, .o 2 2, .o 3 2, .o 4 2, .o 5 2, .o 6 2, .o 7 2, .o 8 2, .o 9 2, .o 10 2] (by kernel_rfl) (by kernel_rfl) hM31 ?_
  rintro w33 hS33 hM33
  have hE33 := hE31.andN hS33
  refine qaw (.pointer (some ⟨a0_n_b, a0_n_pre.length, none⟩)) rfl l0 hM33 (fun _ => R_mv rfl) rfl (gN rfl) rfl ?_
  refine qaw (.pointer (some ⟨a0_n_b, a0_n_pre.length, none⟩)) rfl l0 hM33 (fun _ => qbB rfl) rfl (gN rfl) rfl ?_
  refine qaw (.pointer (some ⟨a0_n_b, a0_n_pre.length + 1, none⟩)) rfl l0 hM33 (fun _ => R_fa rfl Try.underlying39 rfl rfl qhy rfl) rfl (gN rfl) rfl ?_
  have hR35 := (hL23_1.extN hS33)
  refine qeN hM33 (qcH (Foc.snd Kd.rsl Kd.rmp) rfl qhy hR35 (by first | rfl | simp | omega) (fun h => h)) rfl (gN rfl) rfl ?_
  rintro v34 (hV34 : Kd.rmp.V _ (.map (some z1_1_23)) _)
  obtain rfl := qeC hV34
  have hR37 := (hB6.extN hS13)
  have hR38 := ((hR37.ext hX31 (fun hx => Or.elim hx (fun hx => (hR22.box hR37) hx) (fun hx => (qdH hge6 h_a0_n_B.lt) hx))).extN hS33)
  refine qeN hM33 (qcH (Foc.id _) rfl ty24 hR38 (by first | rfl | simp | omega) (fun h => h)) rfl (gN rfl) rfl ?_
  rintro v36 (hV36 : qad.V _ a1_s _)
  have hR41 := (hL23_z1_1.extN hS33)
  refine qs3 hM33 (quj (kv := (Kd.int .i64)) rfl rfl hR41 hV36 Try.underlying37 (qeY Try.underlying24 Try.underlying5 ty5b) ty3 (fun _ _ h => h)) rfl (gN rfl) rfl ?_
  rintro v40 (hV40 : (Kd.int .i64).V _ ((mfind a1_s y23).getD 0) _)
  obtain rfl := qb2 hV40
  refine qaw (.tuple #[(.int .i64 ((mfind a1_s y23).getD 0)), (.bool ((mfind a1_s y23).isSome))]) rfl l0 hM33 (fun _ => R_mv rfl) rfl (gN rfl) rfl ?_
  refine qaw (.int .i64 ((mfind a1_s y23).getD 0)) rfl l0 hM33 (fun _ => qos rfl rfl) rfl (gN rfl) rfl ?_
  refine qaw (.bool ((mfind a1_s y23).isSome)) rfl l0 hM33 (fun _ => qos rfl rfl) rfl (gN rfl) rfl ?_
  refine qaw (.int .i64 ((mfind a1_s y23).getD 0)) rfl l0 hM33 (fun _ => R_as rfl) rfl (gN rfl) rfl ?_
  refine qaw (.bool ((mfind a1_s y23).isSome)) rfl l0 hM33 (fun _ => R_as rfl) rfl (gN rfl) rfl ?_
  refine qhL ?_
  refine qan ?_
  refine qae ?_
  refine qaa (.bool ((mfind a1_s y23).isSome)) (R_mv rfl) rfl rfl ?_
  refine qaa (.bool (!((mfind a1_s y23).isSome))) (qm2 rfl) rfl rfl ?_
  refine qax ?_
  obtain ⟨J42, h, hJ42⟩ := h
  refine qoD [32, 33, 34, 35, 36, 37, 38, 39, 40, 41] (fun l w => ∃ y42 K z1_1, J42 y42 ∧ l = [] ∧ Ext (fun c => mb (.map (some z1_1_23)) = some c ∨ c = a0_n_b) w33 K31 w K ∧ Models w K ∧ Mp qad (Kd.int .i64) w K y42 (.map (some z1_1)) ∧ (∀ g, mb (.map (some z1_1)) = some g → mb (.map (some z1_1_23)) = some g ∨ w33.heap.size ≤ g) ∧ Bx qat w K a0_n_b a0_n_pre a0_n_post (a0_n_0v, (.map (some z1_1)))) ?_ ?_
  ·skip
   refine qbd (!((mfind a1_s y23).isSome)) rfl (fun hc43 => ?_) (fun hc43 => ?_)
   ·have hd43 : ¬ (((mfind a1_s y23).isSome) = true) := qwG hc43
    have h := h.1 hd43
    refine qfp (K := K31) (fun c => mb (.map (some z1_1_23)) = some c ∨ w33.heap.size ≤ c) [.o 0 2, .o 1 2, .o 2 2, .o 3 2, .o 4 2, .o 5 2, .o 6 2, .o 7 2, .o 8 2, .o 9 2, .o 10 1] (by kernel_rfl) (by kernel_rfl) hM33 ?_
    rintro w44 hS44 hM44
    have hE44 := hE33.andN hS44
    refine qaw (.pointer (some ⟨a0_n_b, a0_n_pre.length, none⟩)) rfl l0 hM44 (fun _ => R_mv rfl) rfl (gN rfl) rfl ?_
    refine qaw (.pointer (some ⟨a0_n_b, a0_n_pre.length, none⟩)) rfl l0 hM44 (fun _ => qbB rfl) rfl (gN rfl) rfl ?_
    refine qaw (.pointer (some ⟨a0_n_b, a0_n_pre.length + 1, none⟩)) rfl l0 hM44 (fun _ => R_fa rfl Try.underlying39 rfl rfl qhy rfl) rfl (gN rfl) rfl ?_
    have hR46 := (hR35.extN hS44)
    refine qeN hM44 (qcH (Foc.snd Kd.rsl Kd.rmp) rfl qhy hR46 (by first | rfl | simp | omega) (fun h => h)) rfl (gN rfl) rfl ?_
    rintro v45 (hV45 : Kd.rmp.V _ (.map (some z1_1_23)) _)
    obtain rfl := qeC hV45
    have hR48 := (hR38.extN hS44)
    refine qeN hM44 (qcH (Foc.id _) rfl ty24 hR48 (by first | rfl | simp | omega) (fun h => h)) rfl (gN rfl) rfl ?_
    rintro v47 (hV47 : qad.V _ a1_s _)
    refine qaw (.pointer (some ⟨a0_n_b, a0_n_pre.length, none⟩)) rfl l0 hM44 (fun _ => R_mv rfl) rfl (gN rfl) rfl ?_
    refine qaw (.pointer (some ⟨a0_n_b, a0_n_pre.length, none⟩)) rfl l0 hM44 (fun _ => qbB rfl) rfl (gN rfl) rfl ?_
    refine qaw (.pointer (some ⟨a0_n_b, a0_n_pre.length + 0, none⟩)) rfl l0 hM44 (fun _ => R_fa rfl Try.underlying39 rfl rfl qkf rfl) rfl (gN rfl) rfl ?_
    refine qeN hM44 (qcH (Foc.fst Kd.rsl Kd.rmp) rfl qkf hR46 (by first | rfl | simp | omega) (fun h => h)) rfl (gN rfl) rfl ?_
    rintro v50 (hV50 : Kd.rsl.V _ a0_n_0v _)
    obtain rfl := qeC hV50
    refine qaw (.int .i64 (a0_n_0.length : Int)) rfl l0 hM44 (fun _ => qgG rfl (hR10.V.mono (hS13.le.trans (hX31.le.trans (hS33.le.trans hS44.le)))) Try.underlying36) rfl (gN rfl) rfl ?_
    have hR52 := (hR41.extN hS44)
    refine qlX rfl (gN rfl) rfl (qxz (qwk hM44 rfl rfl rfl hR52 hV47 (qhu (qcY ((hR10).V).wf.1)) Try.underlying37 (qeY Try.underlying24 Try.underlying5 ty5b)) ?_)
    rintro w51 hO51 hS51 hM51
    have hS51 : Ext (fun c => mb (.map (some z1_1_23)) = some c) w44 K31 w51 K31 := hS51.weak (fun c _ hc => congrArg some hc.symm)
    refine ⟨K31, (hS51.weak (fun c hlt hx => (.inl (hx)))), hM51, ?_⟩
    have hE51 := hE44.comp hS51 (fun c hx hlt => hf32 c hx hlt)
    refine qhL ?_
    have hR53 := (hR46.ext hS51 (fun hx => (hR52.box hR46) hx))
    exact qks.mk [] ⟨(mset a1_s (a0_n_0.length : Int) y23), K31, z1_1_23, h, rfl, (((Ext.refl _ _ _).andN hS44).comp hS51 (fun c hx hlt => (.inl (hx)))), hM51, hO51, (fun g hg => (.inl hg)), hR53⟩ (by repeat (first | exact Off.lay0 rfl | exact Off.refl _ _ | refine Off.updO ?_ rfl _ | refine Off.updN ?_ _ | refine Off.lay ?_ rfl)) (by repeat (first | exact trivial | refine ⟨rfl, ?_⟩))
   ·have hd43 : ((mfind a1_s y23).isSome) = true := qwF hc43
    have h := h.2 hd43
    refine qbV ?_
    exact qks.mk [] ⟨y23, K31, z1_1_23, h, rfl, (Ext.refl _ _ _), hM33, hR41, (fun g hg => (.inl hg)), hR35⟩ (by repeat (first | exact Off.lay0 rfl | exact Off.refl _ _ | refine Off.updO ?_ rfl _ | refine Off.updN ?_ _ | refine Off.lay ?_ rfl)) (by repeat (first | exact trivial | refine ⟨rfl, ?_⟩))
  rintro l σ42 w54 ⟨y42, K54, z1_1_42, hI, rfl, hX54, hM54, hL42_z1_1, ho42_z1_1, hL42_1⟩
  have h := hJ42 y42 hI
  have hE54 := hE33.comp hX54 (fun c hx hlt => Or.elim hx (fun hx => hf32 c hx hlt) (fun hx => (by subst hx; exact (fun _ => (.inl rfl)) hlt)))
  have hf55 : ∀ g, mb (.map (some z1_1_42)) = some g → g < w0.heap.size → g = a0_n_b ∨ ob a0_n_0v = some g ∨ mb a0_n_1v = some g := fun g hg hlt => (ho42_z1_1 g hg).elim (fun hx => hf32 g hx hlt) (fun hx => absurd hlt (Nat.not_lt.2 (Nat.le_trans hE33.size hx)))
  have hR56 := (hR10.extN hS13)
  have hR57 := ((hR56.ext hX31 (fun g hg hx => Or.elim hx (fun hx => (fun g hg => hR22.own hR56 g hg) g hg hx) (fun hx => (fun g hg hx => hR56.box hR20 (hg.trans (congrArg some hx))) g hg hx))).extN hS33)
  have hR58 := (hR57.ext hX54 (fun g hg hx => Or.elim hx (fun hx => (fun g hg => hR41.own hR57 g hg) g hg hx) (fun hx => (fun g hg hx => hR57.box hR35 (hg.trans (congrArg some hx))) g hg hx)))
  have hR59 := (hR38.ext hX54 (fun hx => Or.elim hx (fun hx => (hR41.box hR38) hx) (fun hx => (qdH hge6 h_a0_n_B.lt) hx)))
  refine qfp (K := K54) (fun c => c = a0_n_b ∨ ob a0_n_0v = some c ∨ w54.heap.size ≤ c) [.o 0 3, .o 1 2, .o 2 2, .o 3 2, .o 4 2, .o 5 2, .o 6 2, .o 7 0, .o 8 2, .o 9 0, .o 10 1, .o 11 3, .o 12 3, .o 13 1] (by kernel_rfl) (by kernel_rfl) hM54 ?_
  rintro w60 hS60 hM60
  have hE60 := hE54.andN hS60
  refine qaw (.pointer (some ⟨a0_n_b, a0_n_pre.length, none⟩)) rfl l3 hM60 (fun _ => R_mv rfl) rfl (gN rfl) rfl ?_
  refine qaw (.pointer (some ⟨a0_n_b, a0_n_pre.length, none⟩)) rfl l0 hM60 (fun _ => R_mv rfl) rfl (gN rfl) rfl ?_
  refine qaw (.pointer (some ⟨a0_n_b, a0_n_pre.length, none⟩)) rfl l0 hM60 (fun _ => qbB rfl) rfl (gN rfl) rfl ?_
  refine qaw (.pointer (some ⟨a0_n_b, a0_n_pre.length + 0, none⟩)) rfl l0 hM60 (fun _ => R_fa rfl Try.underlying39 rfl rfl qkf rfl) rfl (gN rfl) rfl ?_
  have hR62 := (hL42_1.extN hS60)
  refine qeN hM60 (qcH (Foc.fst Kd.rsl Kd.rmp) rfl qkf hR62 (by first | rfl | simp | omega) (fun h => h)) rfl (gN rfl) rfl ?_
  rintro v61 (hV61 : Kd.rsl.V _ a0_n_0v _)
  obtain rfl := qeC hV61
  have hR64 := (hR59.extN hS60)
  refine qeN hM60 (qcH (Foc.id _) rfl ty24 hR64 (by first | rfl | simp | omega) (fun h => h)) rfl (gN rfl) rfl ?_
  rintro v63 (hV63 : qad.V _ a1_s _)
  refine qaw a2_b_v rfl l0 hM60 (fun _ => R_mv rfl) rfl (gN rfl) rfl ?_
  have hR66 := (hR58.extN hS60)
  have hR67 := (hL42_z1_1.extN hS60)
  obtain ⟨hp69, h⟩ := h
  refine qkH rfl (gN rfl) rfl (qbU (qdy Try.call69 rfl) ((qtC hM60 (h_a2_b.mono (hS6.le.trans (hS13.le.trans (hX31.le.trans (hS33.le.trans (hX54.le.trans hS60.le)))))) hp69).mono ?_))
  rintro _ w68 ⟨K68, v68_0, rfl, hS68, hM68, hO68_0, hg68_0⟩
  refine ⟨v68_0, rfl, ?_⟩
  refine ⟨K68, hS68, hM68, ?_⟩
  have hE68 := hE60.andN hS68
  have h := h hO68_0.wf
  refine WO_V rfl l0 hM68 (qwd (K := K68) (vs := [(0, v63), (1, v68_0)]) (Z := (a1_s, a2_b)) qnw rfl Try.underlying146 (qxM Try.underlying146) rfl (Parts.cons rfl rfl ty24 (Foc.fst qad qaC) (hV63.mono hS68.le) (Parts.cons rfl rfl ty32 (Foc.snd qad qaC) hO68_0.V Parts.nil))) rfl (gN rfl) rfl ?_
  rintro v71 (hV71 : qao.V _ (a1_s, a2_b) _)
  refine qkH rfl (gN rfl) rfl (quk (qrp (k := qao) (l := [((a1_s, a2_b), v71)]) hM68 rfl (by intro p hp; simp only [List.mem_cons, List.not_mem_nil, or_false] at hp; subst hp; exact hV71) rfl Try.underlying36 qnw rfl rfl) ?_)
  rintro v73 w73 K73 (hO73 : Own qao 146 w73 K73 [(a1_s, a2_b)] v73) hS73 hM73 hg73
  refine ⟨K73, hS73, hM73, ?_⟩
  have hE73 := hE68.andN hS73
  have hR75 := (hR66.extN hS68)
  have hR76 := ((hR66.extN hS68).extN hS73)
  obtain ⟨hp78, h⟩ := h
  refine qlX rfl (gN rfl) rfl (St_S (qwa hM73 rfl hR76 rfl hO73.V Try.underlying36 qnw rfl hp78) ?_)
  rintro v77 w77 K77 hO77 hS77 hM77 hob77
  refine ⟨K77, (hS77.weak (fun c hlt hx => (.inr (.inl (hx))))), hM77, ?_⟩
  have hE77 := hE73.comp hS77 (fun c hx hlt => (fun g hg _ => (.inr (.inl hg))) c hx hlt)
  have hR79 := (hO73.ext hS77 (fun g hg hx => (fun g hg hx => absurd (hR75.lt _ hx) (Nat.not_lt.2 (hg73 g hg))) g hg hx))
  have hfx77 : ∀ g, ob v77 = some g → g < w0.heap.size → g = a0_n_b ∨ ob a0_n_0v = some g ∨ mb a0_n_1v = some g := fun g hg hlt => by rcases hob77 with hq | hq <;> rw [hq] at hg; exact (fun g hg _ => (.inr (.inl hg))) g hg hlt; cases hg; exact absurd hlt (Nat.not_lt.2 hE73.size)
  have hs81 : ∀ g, ob v77 = some g → ¬ (ob v73 = some g) := fun g hg hx => by rcases hob77 with hq | hq <;> rw [hq] at hg; exact (fun g hg hx => (fun g hg hx => absurd (hR75.lt _ hx) (Nat.not_lt.2 (hg73 g hg))) g hx hg) g hg hx; cases hg; exact absurd (hO73.lt _ hx) (Nat.not_lt.2 (Nat.le_refl _))
  refine qaw (.pointer (some ⟨a0_n_b, a0_n_pre.length, none⟩)) rfl l3 hM77 (fun _ => qbB rfl) rfl (gN rfl) rfl ?_
  refine qaw (.pointer (some ⟨a0_n_b, a0_n_pre.length + 0, none⟩)) rfl l3 hM77 (fun _ => R_fa rfl Try.underlying39 rfl rfl qkf rfl) rfl (gN rfl) rfl ?_
  have hR83 := ((hR62.extN hS68).extN hS73)
  have hR84 := (hR83.ext hS77 (fun hx => (hR76.box hR83) hx))
  refine qlX rfl (gN rfl) rfl (qkG (qkF (Foc.fst Kd.rsl Kd.rmp) hM77 rfl rfl (rw_V hO77.one) qkf hR84 (by first | rfl | simp | omega)) ?_)
  rintro w82 (hB82 : Bx qat _ _ a0_n_b a0_n_pre a0_n_post (v77, (.map (some z1_1_42)))) hS82 hM82
  refine ⟨K77, (hS82.weak (fun c hlt hx => (.inl (hx)))), hM82, ?_⟩
  have hE82 := hE77.comp hS82 (fun c hx hlt => (by subst hx; exact (fun _ => (.inl rfl)) hlt))
  refine qhL ?_
  have hR85 := (hO77.ext hS82 (fun g hg hx => (fun g hg hx => hO77.box hR84 (hg.trans (congrArg some hx))) g hg hx))
  have hR86 := ((hR67.extN hS68).extN hS73)
  have hR87 := (hR86.ext hS77 (fun g hg hx => (fun g hg hx => hR86.own hR76 g hx hg) g hg hx))
  have hR88 := (hR87.ext hS82 (fun g hg hx => (fun g hg hx => hR87.box hR84 (hg.trans (congrArg some hx))) g hg hx))
  exact qrN hR (v := (.tuple #[])) (qp0 rfl) ⟨K77, v77, (.map (some z1_1_42)), (a0_n_0 ++ [(a1_s, a2_b)]), y42, rfl, h, hE82, hM82, hB82, hR85, (fun g hg => (by have hg : ob v77 = some g := hg; rcases hob77 with hq | hq <;> rw [hq] at hg; exact (.inl hg); cases hg; exact .inr hE73.size)), hR88, (fun g hg => ((ho42_z1_1 g hg).elim (fun hz => ((ho23_z1_1 g hz).elim (fun hz => (.inl hz)) (fun hz => .inr (Nat.le_trans hE13.size hz)))) (fun hz => .inr (Nat.le_trans hE33.size hz))))⟩
theorem qxC {w0 : World} {K0 : Ghost} {a0_n_b : Nat} {a0_n_pre a0_n_post : List Value} {a0_n_0v : Value} {a0_n_0 : (List ((List UInt8) × (List UInt8)))} {a0_n_1v : Value} {a0_n_1 : (List ((List UInt8) × Int))} {a1_s_v : Value} {a1_s : (List UInt8)} {a2_b_v : Value} {a2_b : (List UInt8)} (hM0 : Models w0 K0) (h_a0_n_B : Bx qat w0 K0 a0_n_b a0_n_pre a0_n_post (a0_n_0v, a0_n_1v)) (h_a0_n_0 : Own qao 146 w0 K0 a0_n_0 a0_n_0v) (h_a0_n_1 : Mp qad (Kd.int .i64) w0 K0 a0_n_1 a0_n_1v) (h_a1_s : qad.V K0 a1_s a1_s_v) (h_a2_b : qaC.V K0 a2_b a2_b_v) (hp : qca a0_n_0 a0_n_1 ∧ a2_b.length ≤ 140737488355328 ∧ (a0_n_0.length + 1) * 64 ≤ 140737488355328) : Calls Try.prog 86 #[(.pointer (some ⟨a0_n_b, a0_n_pre.length, none⟩)), a1_s_v, a2_b_v] w0 (fun e w' => ∃ (K' : Ghost) (u0_0 : Value) (u0_1 : Value), e = .returned (.tuple #[]) ∧ Ext (fun c => c = a0_n_b ∨ ob a0_n_0v = some c ∨ mb a0_n_1v = some c) w0 K0 w' K' ∧ Models w' K' ∧ Bx qat w' K' a0_n_b a0_n_pre a0_n_post (u0_0, u0_1) ∧ Own qao 146 w' K' (addL a0_n_0 a1_s a2_b) u0_0 ∧ (∀ g, ob u0_0 = some g → ob a0_n_0v = some g ∨ w0.heap.size ≤ g) ∧ Mp qad (Kd.int .i64) w' K' (addM a0_n_0 a0_n_1 a1_s a2_b) u0_1 ∧ (∀ g, mb u0_1 = some g → mb a0_n_1v = some g ∨ w0.heap.size ≤ g)) := by
 refine (qrA hM0 h_a0_n_B h_a0_n_0 h_a0_n_1 h_a1_s h_a2_b (qwt h_a1_s.wf h_a2_b.wf hp)).mono ?_
 rintro _ w' ⟨K', u0, u1, o0, o1, rfl, ⟨rfl, rfl⟩, hF⟩
 exact ⟨K', u0, u1, rfl, hF⟩
abbrev qbu : Kd ((Value × Value) × Int) := (Kd.pr qat (Kd.int .i64))
theorem ty39 : TyOk Try.prog 39 qat 32 := ⟨⟨Try.t39, _, Try.type39, rfl, rfl, rfl, rfl, rfl⟩, ⟨_, Try.underlying39, rfl⟩⟩
abbrev qvq := qbc 146
def qlI (a0_k_0_0 : (List ((List UInt8) × (List UInt8)))) (a0_k_0_1 : (List ((List UInt8) × Int))) (a0_k_1 : Int) (a1_kind : Int) (a2_parts : (List (List UInt8))) (Q : (List UInt8) → (List ((List UInt8) × (List UInt8))) → (List ((List UInt8) × Int)) → Int → Prop) : Prop :=
 (1 + qah a2_parts ≤ 140737488355328) ∧ ((qaC.wf (preimage a1_kind a2_parts)) → (((1 + [(preimage a1_kind a2_parts)].length) * 24 ≤ 140737488355328 ∧ [(preimage a1_kind a2_parts)].flatten.length ≤ 140737488355328) ∧ ((qad.wf (qa0 [(preimage a1_kind a2_parts)])) → ((qca a0_k_0_0 a0_k_0_1 ∧ (preimage a1_kind a2_parts).length ≤ 140737488355328 ∧ (a0_k_0_0.length + 1) * 64 ≤ 140737488355328) ∧ (Q (qa0 [(preimage a1_kind a2_parts)]) (addL a0_k_0_0 (qa0 [(preimage a1_kind a2_parts)]) (preimage a1_kind a2_parts)) (addM a0_k_0_0 a0_k_0_1 (qa0 [(preimage a1_kind a2_parts)]) (preimage a1_kind a2_parts)) (IntKind.i64.wrap (a0_k_1 + 1)))))))
theorem qvE {a0_k_0_0 : (List ((List UInt8) × (List UInt8)))} {a0_k_0_1 : (List ((List UInt8) × Int))} {a0_k_1 : Int} {a1_kind : Int} {a2_parts : (List (List UInt8))} (w_0 : (Kd.int .i64).wf a1_kind) (w_1 : qbg.wf a2_parts) (hp : qca a0_k_0_0 a0_k_0_1 ∧ 1 + qah a2_parts ≤ 140737488355328 ∧ (a0_k_0_0.length + 1) * 64 ≤ 140737488355328) : qlI a0_k_0_0 a0_k_0_1 a0_k_1 a1_kind a2_parts (fun o0 o1 o2 o3 => o0 = (qal a1_kind a2_parts) ∧ o1 = (addL a0_k_0_0 (qal a1_kind a2_parts) (preimage a1_kind a2_parts)) ∧ o2 = (addM a0_k_0_0 a0_k_0_1 (qal a1_kind a2_parts) (preimage a1_kind a2_parts)) ∧ o3 = (IntKind.i64.wrap (a0_k_1 + 1))) := by
 obtain ⟨h1, h2, h3⟩ := hp
 have hl := qb8 a1_kind h2
 unfold qlI
 exact ⟨h2, fun _ => ⟨⟨by simp, by simpa using by omega⟩, fun _ => ⟨⟨h1, by omega, h3⟩, rfl, rfl, rfl, rfl⟩⟩⟩
theorem qqS {w0 : World} {K0 : Ghost} {a0_k_b : Nat} {a0_k_pre a0_k_post : List Value} {a0_k_0_0v : Value} {a0_k_0_0 : (List ((List UInt8) × (List UInt8)))} {a0_k_0_1v : Value} {a0_k_0_1 : (List ((List UInt8) × Int))} {a0_k_1 : Int} {a1_kind_v : Value} {a1_kind : Int} {a2_parts_v : Value} {a2_parts : (List (List UInt8))} {Q : (List UInt8) → (List ((List UInt8) × (List UInt8))) → (List ((List UInt8) × Int)) → Int → Prop} (hM0 : Models w0 K0) (h_a0_k_B : Bx qbu w0 K0 a0_k_b a0_k_pre a0_k_post ((a0_k_0_0v, a0_k_0_1v), a0_k_1)) (h_a0_k_0_0 : Own qao 146 w0 K0 a0_k_0_0 a0_k_0_0v) (h_a0_k_0_1 : Mp qad (Kd.int .i64) w0 K0 a0_k_0_1 a0_k_0_1v) (h_a1_kind : (Kd.int .i64).V K0 a1_kind a1_kind_v) (h_a2_parts : qbg.V K0 a2_parts a2_parts_v) (h : qlI a0_k_0_0 a0_k_0_1 a0_k_1 a1_kind a2_parts Q) : Calls Try.prog 67 #[(.pointer (some ⟨a0_k_b, a0_k_pre.length, none⟩)), a1_kind_v, a2_parts_v] w0 (fun e w' => ∃ (K' : Ghost) (r0 : Value) (u0_0_0 : Value) (u0_0_1 : Value) (o0 : (List UInt8)) (o1 : (List ((List UInt8) × (List UInt8)))) (o2 : (List ((List UInt8) × Int))) (o3 : Int), e = .returned r0 ∧ Q o0 o1 o2 o3 ∧ Ext (fun c => c = a0_k_b ∨ ob a0_k_0_0v = some c ∨ mb a0_k_0_1v = some c) w0 K0 w' K' ∧ Models w' K' ∧ qad.V K' o0 r0 ∧ Bx qbu w' K' a0_k_b a0_k_pre a0_k_post ((u0_0_0, u0_0_1), o3) ∧ Own qao 146 w' K' o1 u0_0_0 ∧ (∀ g, ob u0_0_0 = some g → ob a0_k_0_0v = some g ∨ w0.heap.size ≤ g) ∧ Mp qad (Kd.int .i64) w' K' o2 u0_0_1 ∧ (∀ g, mb u0_0_1 = some g → mb a0_k_0_1v = some g ∨ w0.heap.size ≤ g)) := by
 unfold qlI at h
 obtain rfl := qb2 h_a1_kind
 have hE0 : Ext (fun c => c = a0_k_b ∨ ob a0_k_0_0v = some c ∨ mb a0_k_0_1v = some c) w0 K0 w0 K0 := Ext.refl _ _ _
 refine qby fun R hR => ?_
 refine qa7 (args := [(.pointer (some ⟨a0_k_b, a0_k_pre.length, none⟩)), (.int .i64 a1_kind), a2_parts_v]) Try.func67 rfl (Nat.le_of_ble_eq_true rfl) ?_
 refine qan ?_
 refine qae ?_
 refine qa2 rfl rfl (St_B (qgH hM0 ty24) ?_)
 rintro b5 w5 (hB5 : Bx qad _ _ _ _ _ (List.replicate 32 0)) hS5 hM5 hge5
 have hE5 := hE0.andN hS5
 refine qax ?_
 refine qan ?_
 refine qae ?_
 refine qaa (.int .i64 a1_kind) (R_mv rfl) rfl rfl ?_
 refine qaa a2_parts_v (R_mv rfl) rfl rfl ?_
 have hR7 := (h_a0_k_0_0.extN hS5)
 have hR8 := (h_a0_k_0_1.extN hS5)
 have hR9 := (h_a0_k_B.extN hS5)
 obtain ⟨hp11, h⟩ := h
 refine qa2 rfl rfl (qbU (qdy Try.call98 rfl) ((qhH hM5 (qhu (h_a1_kind).wf) (h_a2_parts.mono hS5.le) hp11).mono ?_))
 rintro _ w10 ⟨K10, v10_0, rfl, hS10, hM10, hO10_0, hg10_0⟩
 refine ⟨v10_0, rfl, ?_⟩
 have hE10 := hE5.andN hS10
 have h := h hO10_0.wf
 refine qaa v10_0 (R_as rfl) rfl rfl ?_
 refine qax ?_
 refine qan ?_
 refine qae ?_
 refine qaa v10_0 (R_mv rfl) rfl rfl ?_
 refine qa2 rfl rfl (quk (qrp (k := qaC) (l := [((preimage a1_kind a2_parts), v10_0)]) hM10 rfl (by intro p hp; simp only [List.mem_cons, List.not_mem_nil, or_false] at hp; subst hp; exact hO10_0.V) rfl Try.underlying96 ty32 rfl rfl) ?_)
 rintro v13 w13 K13 (hO13 : Own qaC 32 w13 K13 [(preimage a1_kind a2_parts)] v13) hS13 hM13 hg13
 have hE13 := hE10.andN hS13
 obtain ⟨hp16, h⟩ := h
 refine qa2 rfl rfl (qbU (qdy Try.call110 rfl) ((qlV hM13 hO13.V hp16).mono ?_))
 rintro _ w15 ⟨K15, v15_0, rfl, hS15, hM15, hV15_0⟩
 refine ⟨v15_0, rfl, ?_⟩
 have hE15 := hE13.andN hS15
 have h := h hV15_0.wf
 refine qa2 rfl rfl (St_B (qgH hM15 ty24) ?_)
 rintro b18 w18 (hB18 : Bx qad _ _ _ _ _ (List.replicate 32 0)) hS18 hM18 hge18
 have hE18 := hE15.andN hS18
 have hR20 := (((hR9.extN hS10).extN hS13).extN hS15)
 have hR21 := (((hB5.extN hS10).extN hS13).extN hS15)
 refine qa2 rfl rfl (qkG (qkF (Foc.id _) hM18 rfl rfl (hV15_0.mono hS18.le) ty24 hB18 (by first | rfl | simp | omega)) ?_)
 rintro w22 (hB22 : Bx qad _ _ b18 [] [] (qa0 [(preimage a1_kind a2_parts)])) hS22 hM22
 have hE22 := hE18.comp hS22 (fun c hx hlt => (by subst hx; exact (fun hlt => absurd hlt (Nat.not_lt.2 (Nat.le_trans hE15.size hge18))) hlt))
 refine qax ?_
 refine qan ?_
 refine qan ?_
 refine qae ?_
 refine qaa (.pointer (some ⟨a0_k_b, a0_k_pre.length, none⟩)) (R_mv rfl) rfl rfl ?_
 refine qaa (.bool true) (qrk rfl rfl Try.underlying35) rfl rfl ?_
 refine qax ?_
 refine qbd true rfl (fun _ => ?_) (fun hc => by cases hc)
 refine qan ?_
 refine qae ?_
 refine qaa (.pointer (some ⟨a0_k_b, a0_k_pre.length, none⟩)) (R_mv rfl) rfl rfl ?_
 refine qaa (.pointer (some ⟨a0_k_b, a0_k_pre.length, none⟩)) (qbB rfl) rfl rfl ?_
 refine qaa (.pointer (some ⟨a0_k_b, a0_k_pre.length + 2, none⟩)) (R_fa rfl Try.underlying41 rfl rfl ty3 rfl) rfl rfl ?_
 have hR24 := ((((hR9.extN hS10).extN hS13).extN hS15).extN hS18)
 have hR25 := (hR24.ext hS22 (fun hx => (fun he => (qdH hge18 hR20.lt) he.symm) hx))
 refine WL_L hM22 (qcH (Foc.snd qat (Kd.int .i64)) rfl ty3 hR25 (by first | rfl | simp | omega) (fun h => h)) rfl rfl ?_
 rintro v23 (hV23 : (Kd.int .i64).V _ a0_k_1 _)
 obtain rfl := qb2 hV23
 refine qaa (.int .i64 (IntKind.i64.wrap (a0_k_1 + 1))) (qoq rfl rfl) rfl rfl ?_
 refine qaa (.pointer (some ⟨a0_k_b, a0_k_pre.length, none⟩)) (qbB rfl) rfl rfl ?_
 refine qaa (.pointer (some ⟨a0_k_b, a0_k_pre.length + 2, none⟩)) (R_fa rfl Try.underlying41 rfl rfl ty3 rfl) rfl rfl ?_
 refine qa2 rfl rfl (qkG (qkF (Foc.snd qat (Kd.int .i64)) hM22 rfl rfl (qhu (qcL _ _)) ty3 hR25 (by first | rfl | simp | omega)) ?_)
 rintro w26 (hB26 : Bx qbu _ _ a0_k_b a0_k_pre a0_k_post ((a0_k_0_0v, a0_k_0_1v), (IntKind.i64.wrap (a0_k_1 + 1)))) hS26 hM26
 have hE26 := hE22.comp hS26 (fun c hx hlt => (by subst hx; exact (fun _ => (.inl rfl)) hlt))
 refine qax ?_
 have hR27 := (hB22.ext hS26 (fun hx => (qdH hge18 hR20.lt) hx))
 have hR28 := ((((hR7.extN hS10).extN hS13).extN hS15).extN hS18)
 have hR29 := (hR28.ext hS22 (fun g hg hx => (fun g hg hx => hR28.box hB18 (hg.trans (congrArg some hx))) g hg hx))
 have hR30 := (hR29.ext hS26 (fun g hg hx => (fun g hg hx => hR29.box hR25 (hg.trans (congrArg some hx))) g hg hx))
 have hR31 := ((((hR8.extN hS10).extN hS13).extN hS15).extN hS18)
 have hR32 := (hR31.ext hS22 (fun g hg hx => (fun g hg hx => hR31.box hB18 (hg.trans (congrArg some hx))) g hg hx))
 have hR33 := (hR32.ext hS26 (fun g hg hx => (fun g hg hx => hR32.box hR25 (hg.trans (congrArg some hx))) g hg hx))
 refine qfp (K := K15) (fun c => c = a0_k_b ∨ ob a0_k_0_0v = some c ∨ mb a0_k_0_1v = some c ∨ w26.heap.size ≤ c) [.o 0 2, .o 1 2, .o 2 2, .o 3 2, .o 4 2, .o 5 1] (by kernel_rfl) (by kernel_rfl) hM26 ?_
 rintro w34 hS34 hM34
 have hE34 := hE26.andN hS34
 refine qaw (.pointer (some ⟨a0_k_b, a0_k_pre.length, none⟩)) rfl l0 hM34 (fun _ => R_mv rfl) rfl (gN rfl) rfl ?_
 refine qaw (.pointer (some ⟨a0_k_b, a0_k_pre.length, none⟩)) rfl l0 hM34 (fun _ => qbB rfl) rfl (gN rfl) rfl ?_
 refine qaw (.pointer (some ⟨a0_k_b, a0_k_pre.length + 0, none⟩)) rfl l0 hM34 (fun _ => R_fa rfl Try.underlying41 rfl rfl ty39 rfl) rfl (gN rfl) rfl ?_
 have hR36 := (hR27.extN hS34)
 refine qeN hM34 (qcH (Foc.id _) rfl ty24 hR36 (by first | rfl | simp | omega) (fun h => h)) rfl (gN rfl) rfl ?_
 rintro v35 (hV35 : qad.V _ (qa0 [(preimage a1_kind a2_parts)]) _)
 refine qaw v10_0 rfl l0 hM34 (fun _ => R_mv rfl) rfl (gN rfl) rfl ?_
 have hR38 := (hR30.extN hS34)
 have hR39 := (hR33.extN hS34)
 have hR40 := (hB26.extN hS34)
 have hR41 := ((((hB5.extN hS10).extN hS13).extN hS15).extN hS18)
 have hR42 := (hR41.ext hS22 (fun hx => (fun he => (qdH hge18 hR21.lt) he.symm) hx))
 have hR43 := ((hR42.ext hS26 (fun hx => (qdH hge5 h_a0_k_B.lt) hx)).extN hS34)
 have hR44 := (((hO10_0.extN hS13).extN hS15).extN hS18)
 have hR45 := (hR44.ext hS22 (fun g hg hx => (fun g hg hx => hR44.box hB18 (hg.trans (congrArg some hx))) g hg hx))
 have hR46 := ((hR45.ext hS26 (fun g hg hx => (fun g hg hx => hR45.box hR25 (hg.trans (congrArg some hx))) g hg hx)).extN hS34)
 have hR47 := ((hO13.extN hS15).extN hS18)
 have hR48 := (hR47.ext hS22 (fun g hg hx => (fun g hg hx => hR47.box hB18 (hg.trans (congrArg some hx))) g hg hx))
 have hR49 := ((hR48.ext hS26 (fun g hg hx => (fun g hg hx => hR48.box hR25 (hg.trans (congrArg some hx))) g hg hx)).extN hS34)
 obtain ⟨p51, q51, hl51, hB51, hback51⟩ := Bx.sub (Foc.fst qat (Kd.int .i64)) hR40
 obtain ⟨hp52, h⟩ := h
 refine qlX rfl (gN rfl) rfl (qbU (qdy Try.call86 (mapC (show (Value.pointer (some ⟨a0_k_b, a0_k_pre.length + 0, none⟩)) = .pointer (some ⟨a0_k_b, ((a0_k_pre : List Value) ++ p51).length, none⟩) from by rw [List.length_append, hl51]; first | done | simp) (mapC rfl (mapC rfl mapN)))) ((qxC hM34 hB51 hR38 hR39 hV35 hR46.V hp52).mono ?_))
 rintro _ w50 ⟨K50, u50_0_0, u50_0_1, rfl, hS50, hM50, hB50_m0, hu50_0_0, hxu50_0_0, hu50_0_1, hxu50_0_1⟩
 refine ⟨(.tuple #[]), rfl, ?_⟩
 refine ⟨K50, (hS50.weak (fun c hlt hx => Or.elim hx (fun hx => (.inl (hx))) (fun hx => Or.elim hx (fun hx => (.inr (.inl (hx)))) (fun hx => (.inr (.inr (.inl (hx)))))))), hM50, ?_⟩
 have hE50 := hE34.comp hS50 (fun c hx hlt => Or.elim hx (fun hx => (by subst hx; exact (fun _ => (.inl rfl)) hlt)) (fun hx => Or.elim hx (fun hx => (fun g hg _ => (.inr (.inl hg))) c hx hlt) (fun hx => (fun g hg _ => (.inr (.inr (hg)))) c hx hlt)))
 have hf53 : ∀ g, ob u50_0_0 = some g → g < w0.heap.size → g = a0_k_b ∨ ob a0_k_0_0v = some g ∨ mb a0_k_0_1v = some g := fun g hg hlt => (hxu50_0_0 g hg).elim (fun hx => (fun g hg _ => (.inr (.inl hg))) g hx hlt) (fun hx => absurd hlt (Nat.not_lt.2 (Nat.le_trans hE34.size hx)))
 have hf54 : ∀ g, mb u50_0_1 = some g → g < w0.heap.size → g = a0_k_b ∨ ob a0_k_0_0v = some g ∨ mb a0_k_0_1v = some g := fun g hg hlt => (hxu50_0_1 g hg).elim (fun hx => (fun g hg _ => (.inr (.inr (hg)))) g hx hlt) (fun hx => absurd hlt (Nat.not_lt.2 (Nat.le_trans hE34.size hx)))
 have hB50_w : Bx qbu w50 K50 a0_k_b a0_k_pre a0_k_post ((u50_0_0, u50_0_1), (IntKind.i64.wrap (a0_k_1 + 1))) := hback51 hS50.le hB50_m0
 refine qhL ?_
 refine qan ?_
 refine qae ?_
 have hR56 := (hR36.ext hS50 (fun hx => Or.elim hx (fun hx => (qdH hge18 hR20.lt) hx) (fun hx => Or.elim hx (fun hx => (hR38.box hR36) hx) (fun hx => (hR39.box hR36) hx))))
 refine WL_L hM50 (qcH (Foc.id _) rfl ty24 hR56 (by first | rfl | simp | omega) (fun h => h)) rfl rfl ?_
 rintro v55 (hV55 : qad.V _ (qa0 [(preimage a1_kind a2_parts)]) _)
 have hR59 := (hR43.ext hS50 (fun hx => Or.elim hx (fun hx => (qdH hge5 h_a0_k_B.lt) hx) (fun hx => Or.elim hx (fun hx => (hR38.box hR43) hx) (fun hx => (hR39.box hR43) hx))))
 refine qa2 rfl rfl (qkG (qkF (Foc.id _) hM50 rfl rfl hV55 ty24 hR59 (by first | rfl | simp | omega)) ?_)
 rintro w58 (hB58 : Bx qad _ _ b5 [] [] (qa0 [(preimage a1_kind a2_parts)])) hS58 hM58
 have hE58 := hE50.comp hS58 (fun c hx hlt => (by subst hx; exact (fun hlt => absurd hlt (Nat.not_lt.2 (Nat.le_trans hE0.size hge5))) hlt))
 refine qax ?_
 refine qcz ?_
 refine qma hR (qtl rfl rfl ty24 hB58) ?_
 rintro v60 hV60
 have hR61 := (hu50_0_0.ext hS58 (fun g hg hx => (fun g hg hx => hu50_0_0.box hR59 (hg.trans (congrArg some hx))) g hg hx))
 have hR62 := (hu50_0_1.ext hS58 (fun g hg hx => (fun g hg hx => hu50_0_1.box hR59 (hg.trans (congrArg some hx))) g hg hx))
 have hR63 := (hB50_w.ext hS58 (fun hx => (fun he => (qdH hge5 h_a0_k_B.lt) he.symm) hx))
 exact ⟨K50, v60, u50_0_0, u50_0_1, (qa0 [(preimage a1_kind a2_parts)]), (addL a0_k_0_0 (qa0 [(preimage a1_kind a2_parts)]) (preimage a1_kind a2_parts)), (addM a0_k_0_0 a0_k_0_1 (qa0 [(preimage a1_kind a2_parts)]) (preimage a1_kind a2_parts)), (IntKind.i64.wrap (a0_k_1 + 1)), rfl, h, hE58, hM58, hV60, hR63, hR61, (fun g hg => ((hxu50_0_0 g hg).elim (fun hz => (.inl hz)) (fun hz => .inr (Nat.le_trans hE34.size hz)))), hR62, (fun g hg => ((hxu50_0_1 g hg).elim (fun hz => (.inl hz)) (fun hz => .inr (Nat.le_trans hE34.size hz))))⟩
theorem qw6 {w0 : World} {K0 : Ghost} {a0_k_b : Nat} {a0_k_pre a0_k_post : List Value} {a0_k_0_0v : Value} {a0_k_0_0 : (List ((List UInt8) × (List UInt8)))} {a0_k_0_1v : Value} {a0_k_0_1 : (List ((List UInt8) × Int))} {a0_k_1 : Int} {a1_kind_v : Value} {a1_kind : Int} {a2_parts_v : Value} {a2_parts : (List (List UInt8))} (hM0 : Models w0 K0) (h_a0_k_B : Bx qbu w0 K0 a0_k_b a0_k_pre a0_k_post ((a0_k_0_0v, a0_k_0_1v), a0_k_1)) (h_a0_k_0_0 : Own qao 146 w0 K0 a0_k_0_0 a0_k_0_0v) (h_a0_k_0_1 : Mp qad (Kd.int .i64) w0 K0 a0_k_0_1 a0_k_0_1v) (h_a1_kind : (Kd.int .i64).V K0 a1_kind a1_kind_v) (h_a2_parts : qbg.V K0 a2_parts a2_parts_v) (hp : qca a0_k_0_0 a0_k_0_1 ∧ 1 + qah a2_parts ≤ 140737488355328 ∧ (a0_k_0_0.length + 1) * 64 ≤ 140737488355328) : Calls Try.prog 67 #[(.pointer (some ⟨a0_k_b, a0_k_pre.length, none⟩)), a1_kind_v, a2_parts_v] w0 (fun e w' => ∃ (K' : Ghost) (r0 : Value) (u0_0_0 : Value) (u0_0_1 : Value), e = .returned r0 ∧ Ext (fun c => c = a0_k_b ∨ ob a0_k_0_0v = some c ∨ mb a0_k_0_1v = some c) w0 K0 w' K' ∧ Models w' K' ∧ qad.V K' (qal a1_kind a2_parts) r0 ∧ Bx qbu w' K' a0_k_b a0_k_pre a0_k_post ((u0_0_0, u0_0_1), (IntKind.i64.wrap (a0_k_1 + 1))) ∧ Own qao 146 w' K' (addL a0_k_0_0 (qal a1_kind a2_parts) (preimage a1_kind a2_parts)) u0_0_0 ∧ (∀ g, ob u0_0_0 = some g → ob a0_k_0_0v = some g ∨ w0.heap.size ≤ g) ∧ Mp qad (Kd.int .i64) w' K' (addM a0_k_0_0 a0_k_0_1 (qal a1_kind a2_parts) (preimage a1_kind a2_parts)) u0_0_1 ∧ (∀ g, mb u0_0_1 = some g → mb a0_k_0_1v = some g ∨ w0.heap.size ≤ g)) := by
 refine (qqS hM0 h_a0_k_B h_a0_k_0_0 h_a0_k_0_1 h_a1_kind h_a2_parts (qvE h_a1_kind.wf h_a2_parts.wf hp)).mono ?_
 rintro _ w' ⟨K', r0, u0, u1, o0, o1, o2, o3, rfl, ⟨rfl, rfl, rfl, rfl⟩, hF⟩
 exact ⟨K', r0, u0, u1, rfl, hF⟩
def qlJ (a1_kind : Int) (a2_parts : (List (List UInt8))) (Q : (List UInt8) → Prop) : Prop :=
 (1 + qah a2_parts ≤ 140737488355328) ∧ ((qaC.wf (preimage a1_kind a2_parts)) → (((1 + [(preimage a1_kind a2_parts)].length) * 24 ≤ 140737488355328 ∧ [(preimage a1_kind a2_parts)].flatten.length ≤ 140737488355328) ∧ ((qad.wf (qa0 [(preimage a1_kind a2_parts)])) → (Q (qa0 [(preimage a1_kind a2_parts)])))))
theorem qvF {a1_kind : Int} {a2_parts : (List (List UInt8))} (w_0 : (Kd.int .i64).wf a1_kind) (w_1 : qbg.wf a2_parts) (hp : 1 + qah a2_parts ≤ 140737488355328) : qlJ a1_kind a2_parts (fun o0 => o0 = (qal a1_kind a2_parts)) := by
 have hl := qb8 a1_kind hp
 unfold qlJ
 exact ⟨hp, fun _ => ⟨⟨by simp, by simpa using by omega⟩, fun _ => rfl⟩⟩
theorem qqT {w0 : World} {K0 : Ghost} {a1_kind_v : Value} {a1_kind : Int} {a2_parts_v : Value} {a2_parts : (List (List UInt8))} {Q : (List UInt8) → Prop} (hM0 : Models w0 K0) (h_a1_kind : (Kd.int .i64).V K0 a1_kind a1_kind_v) (h_a2_parts : qbg.V K0 a2_parts a2_parts_v) (h : qlJ a1_kind a2_parts Q) : Calls Try.prog 67 #[(.pointer none), a1_kind_v, a2_parts_v] w0 (fun e w' => ∃ (K' : Ghost) (r0 : Value) (o0 : (List UInt8)), e = .returned r0 ∧ Q o0 ∧ Ext NX w0 K0 w' K' ∧ Models w' K' ∧ qad.V K' o0 r0) := by
 unfold qlJ at h
 obtain rfl := qb2 h_a1_kind
 have hE0 : Ext NX w0 K0 w0 K0 := Ext.refl _ _ _
 refine qby fun R hR => ?_
 refine qa7 (args := [(.pointer none), (.int .i64 a1_kind), a2_parts_v]) Try.func67 rfl (Nat.le_of_ble_eq_true rfl) ?_
 refine qan ?_
 refine qae ?_
 refine qa2 rfl rfl (St_B (qgH hM0 ty24) ?_)
 rintro b2 w2 (hB2 : Bx qad _ _ _ _ _ (List.replicate 32 0)) hS2 hM2 hge2
 have hE2 := hE0.andN hS2
 refine qax ?_
 refine qan ?_
 refine qae ?_
 refine qaa (.int .i64 a1_kind) (R_mv rfl) rfl rfl ?_
 refine qaa a2_parts_v (R_mv rfl) rfl rfl ?_
 obtain ⟨hp5, h⟩ := h
 refine qa2 rfl rfl (qbU (qdy Try.call98 rfl) ((qhH hM2 (qhu (h_a1_kind).wf) (h_a2_parts.mono hS2.le) hp5).mono ?_))
 rintro _ w4 ⟨K4, v4_0, rfl, hS4, hM4, hO4_0, hg4_0⟩
 refine ⟨v4_0, rfl, ?_⟩
 have hE4 := hE2.andN hS4
 have h := h hO4_0.wf
 refine qaa v4_0 (R_as rfl) rfl rfl ?_
 refine qax ?_
 refine qan ?_
 refine qae ?_
 refine qaa v4_0 (R_mv rfl) rfl rfl ?_
 refine qa2 rfl rfl (quk (qrp (k := qaC) (l := [((preimage a1_kind a2_parts), v4_0)]) hM4 rfl (by intro p hp; simp only [List.mem_cons, List.not_mem_nil, or_false] at hp; subst hp; exact hO4_0.V) rfl Try.underlying96 ty32 rfl rfl) ?_)
 rintro v7 w7 K7 (hO7 : Own qaC 32 w7 K7 [(preimage a1_kind a2_parts)] v7) hS7 hM7 hg7
 have hE7 := hE4.andN hS7
 obtain ⟨hp10, h⟩ := h
 refine qa2 rfl rfl (qbU (qdy Try.call110 rfl) ((qlV hM7 hO7.V hp10).mono ?_))
 rintro _ w9 ⟨K9, v9_0, rfl, hS9, hM9, hV9_0⟩
 refine ⟨v9_0, rfl, ?_⟩
 have hE9 := hE7.andN hS9
 have h := h hV9_0.wf
 refine qa2 rfl rfl (St_B (qgH hM9 ty24) ?_)
 rintro b12 w12 (hB12 : Bx qad _ _ _ _ _ (List.replicate 32 0)) hS12 hM12 hge12
 have hE12 := hE9.andN hS12
 have hR14 := (((hB2.extN hS4).extN hS7).extN hS9)
 refine qa2 rfl rfl (qkG (qkF (Foc.id _) hM12 rfl rfl (hV9_0.mono hS12.le) ty24 hB12 (by first | rfl | simp | omega)) ?_)
 rintro w15 (hB15 : Bx qad _ _ b12 [] [] (qa0 [(preimage a1_kind a2_parts)])) hS15 hM15
 have hE15 := hE12.comp hS15 (fun c hx hlt => (by subst hx; exact (fun hlt => absurd hlt (Nat.not_lt.2 (Nat.le_trans hE9.size hge12))) hlt))
 refine qax ?_
 refine qan ?_
 refine qan ?_
 refine qae ?_
 refine qaa (.pointer none) (R_mv rfl) rfl rfl ?_
 refine qaa (.bool false) (qlR rfl rfl Try.underlying35) rfl rfl ?_
 refine qax ?_
 refine qbd false rfl (fun hc => by cases hc) (fun _ => ?_)
 refine qbV ?_
 refine qan ?_
 refine qae ?_
 refine WL_L hM15 (qcH (Foc.id _) rfl ty24 hB15 (by first | rfl | simp | omega) (fun h => h)) rfl rfl ?_
 rintro v16 (hV16 : qad.V _ (qa0 [(preimage a1_kind a2_parts)]) _)
 have hR19 := ((((hB2.extN hS4).extN hS7).extN hS9).extN hS12)
 have hR20 := (hR19.ext hS15 (fun hx => (fun he => (qdH hge12 hR14.lt) he.symm) hx))
 refine qa2 rfl rfl (qkG (qkF (Foc.id _) hM15 rfl rfl hV16 ty24 hR20 (by first | rfl | simp | omega)) ?_)
 rintro w18 (hB18 : Bx qad _ _ b2 [] [] (qa0 [(preimage a1_kind a2_parts)])) hS18 hM18
 have hE18 := hE15.comp hS18 (fun c hx hlt => (by subst hx; exact (fun hlt => absurd hlt (Nat.not_lt.2 (Nat.le_trans hE0.size hge2))) hlt))
 refine qax ?_
 refine qcz ?_
 refine qma hR (qtl rfl rfl ty24 hB18) ?_
 rintro v21 hV21
 exact ⟨K9, v21, (qa0 [(preimage a1_kind a2_parts)]), rfl, h, hE18, hM18, hV21⟩
theorem qw7 {w0 : World} {K0 : Ghost} {a1_kind_v : Value} {a1_kind : Int} {a2_parts_v : Value} {a2_parts : (List (List UInt8))} (hM0 : Models w0 K0) (h_a1_kind : (Kd.int .i64).V K0 a1_kind a1_kind_v) (h_a2_parts : qbg.V K0 a2_parts a2_parts_v) (hp : 1 + qah a2_parts ≤ 140737488355328) : Calls Try.prog 67 #[(.pointer none), a1_kind_v, a2_parts_v] w0 (fun e w' => ∃ (K' : Ghost) (r0 : Value), e = .returned r0 ∧ Ext NX w0 K0 w' K' ∧ Models w' K' ∧ qad.V K' (qal a1_kind a2_parts) r0) := by
 refine (qqT hM0 h_a1_kind h_a2_parts (qvF h_a1_kind.wf h_a2_parts.wf hp)).mono ?_
 rintro _ w' ⟨K', r0, o0, rfl, rfl, hF⟩
 exact ⟨K', r0, rfl, hF⟩
theorem Of_c {w0 : World} {K0 : Ghost} {a0_k_v : Value} {a0_k_F : Nat → Prop} {a0_k : qaj} {a1_kind_v : Value} {a1_kind : Int} {a2_parts_v : Value} {a2_parts : (List (List UInt8))} (hM0 : Models w0 K0) (h_a0_k : qvq w0 K0 a0_k_v a0_k_F a0_k) (h_a1_kind : (Kd.int .i64).V K0 a1_kind a1_kind_v) (h_a2_parts : qbg.V K0 a2_parts a2_parts_v) (hp : 1 + qah a2_parts ≤ 140737488355328 ∧ qaJ a0_k) : Calls Try.prog 67 #[a0_k_v, a1_kind_v, a2_parts_v] w0 (fun e w' => ∃ (K' : Ghost) (r0 : Value) (F0 : Nat → Prop), e = .returned r0 ∧ Ext a0_k_F w0 K0 w' K' ∧ Models w' K' ∧ qad.V K' (qal a1_kind a2_parts) r0 ∧ qvq w' K' a0_k_v F0 (qaB a0_k a1_kind a2_parts) ∧ (∀ g, F0 g → a0_k_F g ∨ w0.heap.size ≤ g)) := by
 cases a0_k with
 | none =>
   obtain ⟨rfl, rfl⟩ := h_a0_k
   refine (qw7 hM0 h_a1_kind h_a2_parts hp.1).mono ?_
   rintro _ w' ⟨K', r0, rfl, hE, hM, hr0⟩
   exact ⟨K', r0, NX, rfl, hE, hM, hr0, ⟨rfl, rfl⟩, fun g hg => hg.elim⟩
 | some x =>
   obtain ⟨b, pre, post, lv, mv, m, rfl, hB, hO, hm, hi, hF, hlt⟩ := h_a0_k
   refine (qw6 hM0 hB hO hm h_a1_kind h_a2_parts ⟨hi, hp.1, hp.2 x rfl⟩).mono ?_
   rintro _ w' ⟨K', r0, u0, u1, rfl, hE, hM, hr0, hB', hO', hx, hm', hy⟩
   refine ⟨K', r0, _, rfl, hE.weak (fun g hg hx => hF g hx), hM, hr0, qbc.mk hB' hO' hm' (qws hi _ _), fun g hg => ?_⟩
   rcases hg with rfl | hg | hg
   ·exact .inl (hF _ (.inl rfl))
   ·exact (hx g hg).imp (fun h => hF g (.inr (.inl h))) id
   ·exact (hy g hg).imp (fun h => hF g (.inr (.inr h))) id
end Go.Proofs.Ytmjjkpiglbpkhaa

set_option linter.unusedVariables false
set_option maxRecDepth 100000
set_option maxHeartbeats 2000000
namespace Go.Proofs.Ytmjjkpiglbpkhaa
open Go Go.RowKit Go.Inc
noncomputable def Of_C : Ctr := ⟨[.bk 146 true, .v (.int .i64), .v (.sl (.sl .byte))], [.v (.arr 32 .byte)], some (fun a => (fun (a0_k : qaj) (a1_kind : Int) (a2_parts : List (List UInt8)) => (1 + qah a2_parts ≤ 140737488355328 ∧ qaJ a0_k : Prop)) a.1 a.2.1 a.2.2.1), fun a => (fun (a0_k : qaj) (a1_kind : Int) (a2_parts : List (List UInt8)) => (((qal a1_kind a2_parts), ()), ((qaB a0_k a1_kind a2_parts), ()))) a.1 a.2.1 a.2.2.1⟩
theorem Of_k : Of_C.valid Try.prog 67 := qxG (fun _ => rfl) (fun _ => rfl) fun a hp θ v F vs w K hM hB hv => by
 obtain ⟨v1, vs, rfl, h1, v2, vs, rfl, h2, hnil⟩ := hv
 have hnil' : vs = [] := hnil
 subst hnil'
 refine (Of_c hM hB (qdr (t := .int .i64) h1 rfl) (qdr (t := .sl (.sl .byte)) h2 rfl) hp).mono ?_
 rintro ed w' ⟨K', r0, F0, rfl, hE, hM', hr, hB', hg⟩
 exact ⟨K', [r0], F0, rfl, hE, hM', fun θ' => qsn (SVal.of_rel (t := .arr 32 .byte) hr), hB', hg⟩
end Go.Proofs.Ytmjjkpiglbpkhaa
