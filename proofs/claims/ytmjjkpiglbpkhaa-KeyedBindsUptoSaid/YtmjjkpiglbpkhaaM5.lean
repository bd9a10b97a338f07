/- P18, P19, P20, P14, G1, K1, S1, S2, S3, K2. -/
import Derived.Test.YtmjjkpiglbpkhaaM4
import Derived.Test.YtmjjkpiglbpkhaaM1
import Derived.Test.YtmjjkpiglbpkhaaChecked
/-
  PLAIN 18: what is shown of a key tells what stands there; what is looked at by a root binds.
-/
set_option linter.unusedVariables false
namespace Go.Inc
open Go

theorem ix_leaf {l : List Pk} {i : Nat} (h : i < l.length) : ix (leavesK l) (i : Int) = leafK l[i] := by
  rw [ixN (by rw [leavesK_len]; exact h)]
  simp [leavesK]
/-- a spot of a list leads to its root -/
theorem spot_leads {l : List Pk} {i : Nat} (h : i < l.length) : leadB (l.length : Int) (spotK l i).1 (spotK l i).2.2 = true ∧ leadS (l.length : Int) (spotK l i).1 (leafK (spotK l i).2.1) (spotK l i).2.2 = rootS (leavesK l) := by
  have hr : (0 : Int) ≤ (i : Int) ∧ (i : Int) < ((leavesK l).length : Int) := by rw [leavesK_len]; omega
  have h1 := leadB_path hr
  have h2 := leadS_path hr
  rw [leavesK_len] at h1 h2
  rw [ix_leaf h] at h2
  refine ⟨h1, ?_⟩
  show leadS (l.length : Int) (i : Int) (leafK (ix l (i : Int))) (pathN (leavesK l) (i : Int)) = _
  rw [ixN h]
  exact h2
theorem isK_iff {l : List Pk} {key : By} (hm : mayK l = true) : isK l key = true ↔ ∃ (i : Nat) (h : i < l.length), l[i].1 = key := by
  unfold isK
  simp only [Bool.and_eq_true, decide_eq_true_eq]
  refine ⟨fun ⟨h1, h2⟩ => ⟨_, h1, by rw [ixN h1] at h2; exact h2⟩, fun ⟨i, h, he⟩ => ?_⟩
  have e : lowK l key = i := lowK_of (Nat.le_of_lt h) (fun t ht hti => by rw [← he]; exact mayK_at ht h hm hti) (fun _ => by rw [he]; exact sless_irr key)
  refine ⟨by rw [e]; exact h, ?_⟩
  simp only [e]
  rw [ixN h]
  exact he
theorem goK_one {n : Int} {x : Sp} {t r : Sm} (h1 : leadB n x.1 x.2.2 = true) (h2 : leadS n x.1 (leafK x.2.1) x.2.2 = r) : goK n true [x] t = some r := by
  rw [goK, if_pos ⟨h1, .inl rfl⟩, h2, goK]
theorem goK_two {n : Int} {x y : Sp} {t r : Sm} (h1 : leadB n x.1 x.2.2 = true) (h2 : leadS n x.1 (leafK x.2.1) x.2.2 = r) (h3 : leadB n y.1 y.2.2 = true) (h4 : leadS n y.1 (leafK y.2.1) y.2.2 = r) : goK n true [x, y] t = some r := by
  rw [goK, if_pos ⟨h1, .inl rfl⟩, h2, goK, if_pos ⟨h3, .inr h4⟩, h4, goK]
theorem show_tells {l : List Pk} {key : By} (hm : mayK l = true) : lookO (rootK l) key (showK l key) = some (isK l key) ∧ (isK l key = true → ix (showK l key).2 0 = spotK l (lowK l key)) := by
  have hle := lowK_le l key
  have fin : ∀ (L : List Sp) (b : Bool), saysK key ((l.length : Int), L) = (b, true) → goK (l.length : Int) true L (begK (l.length : Int)) = some (rootS (leavesK l)) → lookO (rootK l) key ((l.length : Int), L) = some b := fun L b h1 h2 => by
    unfold lookO
    rw [h1, if_pos ⟨rfl, Int.natCast_nonneg _⟩, h2]
    show (if wholeK (l.length : Int) (rootS (leavesK l)) = rootK l then some b else none) = some b
    rw [if_pos (show wholeK (l.length : Int) (rootS (leavesK l)) = rootK l from rfl)]
  have eshow : showK l key = ((l.length : Int), (List.range' (fromK l key) (toK l key - fromK l key)).map (spotK l)) := by unfold showK; rw [if_pos hm]
  rw [eshow]
  cases hi : isK l key with
  | true =>
    have hi' := hi
    unfold isK at hi'
    simp only [Bool.and_eq_true, decide_eq_true_eq] at hi'
    obtain ⟨hp, hk⟩ := hi'
    have e1 : fromK l key = lowK l key := by unfold fromK; rw [if_pos hi]
    have e2 : toK l key - fromK l key = 1 := by rw [e1]; unfold toK; omega
    rw [e2, e1]
    obtain ⟨s1, s2⟩ := spot_leads hp
    refine ⟨fin _ _ ?_ (goK_one s1 s2), fun _ => rfl⟩
    have hc : cmpB key (ix l (lowK l key : Int)).1 = 0 := cmpB_eq.2 hk.symm
    exact Prod.ext (decide_eq_true hc) (decide_eq_true (.inl hc))
  | false =>
    refine ⟨?_, fun h => by cases h⟩
    have e1 : fromK l key = lowK l key - 1 := by unfold fromK; rw [hi]; rfl
    have hne : ∀ h : lowK l key < l.length, l[lowK l key].1 ≠ key := fun h he => by
      have : isK l key = true := (isK_iff hm).2 ⟨_, h, he⟩
      rw [hi] at this; cases this
    rcases Nat.eq_zero_or_pos l.length with h0 | h0
    · have e0 : l = [] := List.length_eq_zero_iff.1 h0
      subst e0
      exact fin [] false rfl rfl
    rcases Nat.eq_zero_or_pos (lowK l key) with hz | hz
    · have e2 : toK l key - fromK l key = 1 := by rw [e1]; unfold toK; omega
      rw [e2, e1, hz]
      obtain ⟨s1, s2⟩ := spot_leads (l := l) (i := 0) h0
      refine fin _ _ ?_ (goK_one s1 s2)
      have hs : sless key l[0].1 = true := by
        have h1 := lowK_at (l := l) (key := key) (by omega)
        have h2 := hne (by omega)
        simp only [hz] at h1 h2
        exact sless_tri h1 h2
      have hc : cmpB key l[0].1 < 0 := cmpB_lt.2 hs
      refine Prod.ext (decide_eq_false ?_) (decide_eq_true (.inr (.inl ⟨?_, rfl⟩)))
      · show ¬ cmpB key (ix l ((0 : Nat) : Int)).1 = 0
        rw [ixN h0]
        omega
      · show cmpB key (ix l ((0 : Nat) : Int)).1 < 0
        rw [ixN h0]
        exact hc
    rcases Nat.lt_or_ge (lowK l key) l.length with hp | hp
    · have e2 : toK l key - fromK l key = 2 := by rw [e1]; unfold toK; omega
      rw [e2, e1]
      obtain ⟨s1, s2⟩ := spot_leads (l := l) (i := lowK l key - 1) (by omega)
      obtain ⟨s3, s4⟩ := spot_leads (l := l) (i := lowK l key) hp
      have ea : (List.range' (lowK l key - 1) 2).map (spotK l) = [spotK l (lowK l key - 1), spotK l (lowK l key)] := by
        simp only [List.range', List.map_cons, List.map_nil]
        rw [show lowK l key - 1 + 1 = lowK l key from by omega]
      rw [ea]
      refine fin _ _ ?_ (goK_two s1 s2 s3 s4)
      have ha : sless l[lowK l key - 1].1 key = true := lowK_lt (l := l) (by omega) (by omega)
      have hb : sless key l[lowK l key].1 = true := sless_tri (lowK_at hp) (hne hp)
      refine Prod.ext rfl (decide_eq_true ⟨?_, ?_, ?_, ?_, ?_⟩)
      · show (0 : Int) ≤ ((lowK l key - 1 : Nat) : Int); omega
      · show ((lowK l key - 1 : Nat) : Int) < (lowK l key : Int); omega
      · show (lowK l key : Int) - ((lowK l key - 1 : Nat) : Int) = 1; omega
      · show cmpB (ix l ((lowK l key - 1 : Nat) : Int)).1 key < 0
        rw [ixN (by omega)]
        exact cmpB_lt.2 ha
      · show cmpB key (ix l (lowK l key : Int)).1 < 0
        rw [ixN hp]
        exact cmpB_lt.2 hb
    · have ep : lowK l key = l.length := by omega
      have e2 : toK l key - fromK l key = 1 := by rw [e1]; unfold toK; omega
      rw [e2, e1, ep]
      obtain ⟨s1, s2⟩ := spot_leads (l := l) (i := l.length - 1) (by omega)
      refine fin _ _ ?_ (goK_one s1 s2)
      have ha : sless l[l.length - 1].1 key = true := lowK_lt (l := l) (by omega) (by omega)
      have hc : 0 < cmpB key l[l.length - 1].1 := cmpB_gt.2 ha
      refine Prod.ext (decide_eq_false ?_) (decide_eq_true (.inr (.inr ⟨?_, ?_⟩)))
      · show ¬ cmpB key (ix l ((l.length - 1 : Nat) : Int)).1 = 0
        rw [ixN (by omega)]
        omega
      · show 0 < cmpB key (ix l ((l.length - 1 : Nat) : Int)).1
        rw [ixN (by omega)]
        exact hc
      · show ((l.length - 1 : Nat) : Int) = (l.length : Int) - 1; omega
/-! ### books -/
def leavesBk (b : BookA) (l : List Pk) : BookA := l.foldl (fun b p => bookOf b 4 [p.1, p.2]) b
def rootKbk (b : BookA) (l : List Pk) : BookA := bookOf (rootBk (leavesBk b l) (leavesK l)) 5 [numB l.length, rootS (leavesK l)]
theorem leavesBk_isSome : ∀ {l : List Pk} {b : BookA}, b.isSome = true → (leavesBk b l).isSome = true
  | [], b, h => h
  | p :: l, b, h => leavesBk_isSome (l := l) (bookOf_isSome h)
theorem bkIn.leaves : ∀ {l : List Pk} {N : List Nt} {b : BookA}, bkIn N (leavesBk b l) → bkIn N b
  | [], N, b, h => h
  | p :: l, N, b, h => (bkIn.leaves (l := l) h).of
theorem bkIn.leaf : ∀ {l : List Pk} {N : List Nt} {b : BookA}, b.isSome = true → bkIn N (leavesBk b l) → ∀ p ∈ l, (leafK p, preimage 4 [p.1, p.2]) ∈ N
  | [], N, b, hb, h, p, hp => by cases hp
  | q :: l, N, b, hb, h, p, hp => by
    rcases List.mem_cons.1 hp with rfl | hp
    · exact (bkIn.leaves (l := l) h).node hb
    · exact bkIn.leaf (l := l) (bookOf_isSome hb) h p hp
theorem NoClash.parts {N : List Nt} (hN : NoClash N) {k : Int} {a b : List By} (h1 : (sealOf k a, preimage k a) ∈ N) (h2 : (sealOf k b, preimage k b) ∈ N) (he : sealOf k a = sealOf k b) (ha : ∀ x ∈ a, x.length < 2 ^ 64) (hb : ∀ x ∈ b, x.length < 2 ^ 64) : a = b := by
  rw [he] at h1
  exact ((preimage_inj ha hb).1 (hN _ _ _ h1 h2)).2
theorem bkIn.foldK : ∀ {A : List Int} {P : List Sm} {s : Sm} {x : BookA} {N : List Nt}, bkIn N (foldK A P s x) → bkIn N x
  | [], P, s, x, N, h => by simpa [Go.Inc.foldK] using h
  | _ :: _, [], s, x, N, h => by simpa [Go.Inc.foldK] using h
  | a :: A, p :: P, s, x, N, h => by
    simp only [Go.Inc.foldK] at h
    have := bkIn.foldK h
    split at this
    · exact this.of
    · exact this.of
theorem bkIn.leadK {n a : Int} {P : List Sm} {s : Sm} {x : BookA} {N : List Nt} (h : bkIn N (leadK x n a s P)) : bkIn N x := by
  unfold Go.Inc.leadK at h
  split at h
  · exact h.foldK
  · exact h
theorem leadK_isSome {n a : Int} {P : List Sm} {s : Sm} {x : BookA} (hx : x.isSome = true) : (leadK x n a s P).isSome = true := by
  unfold leadK
  split
  · exact foldK_isSome hx
  · exact hx
theorem bkIn.go : ∀ {l : List Sp} {n : Int} {f : Bool} {t : Sm} {b : BookA} {N : List Nt}, bkIn N (goBk n f l t b) → bkIn N b
  | [], n, f, t, b, N, h => by simpa [goBk] using h
  | x :: l, n, f, t, b, N, h => by
    simp only [goBk] at h
    split at h
    · exact (bkIn.leadK (bkIn.go (l := l) h)).of
    · exact (bkIn.leadK h).of
theorem goBk_isSome : ∀ {l : List Sp} {n : Int} {f : Bool} {t : Sm} {b : BookA}, b.isSome = true → (goBk n f l t b).isSome = true
  | [], n, f, t, b, h => by simpa [goBk] using h
  | x :: l, n, f, t, b, h => by
    simp only [goBk]
    split
    · exact goBk_isSome (l := l) (leadK_isSome (bookOf_isSome h))
    · exact leadK_isSome (bookOf_isSome h)
/-- what is noted of each spot -/
theorem go_notes : ∀ {l : List Sp} {n : Int} {f : Bool} {t r : Sm} {b : BookA} {N : List Nt}, b.isSome = true → goK n f l t = some r → bkIn N (goBk n f l t b) → (f = true ∨ t = r ∨ l ≠ []) ∧ ∀ x ∈ l, leadB n x.1 x.2.2 = true ∧ leadS n x.1 (leafK x.2.1) x.2.2 = r ∧ (leafK x.2.1, preimage 4 [x.2.1.1, x.2.1.2]) ∈ N ∧ ∃ y : BookA, y.isSome = true ∧ bkIn N (foldK (sidesN n.toNat x.1.toNat).reverse x.2.2 (leafK x.2.1) y)
  | [], n, f, t, r, b, N, hb, hg, h => by
    simp only [goK, Option.some.injEq] at hg
    exact ⟨.inr (.inl hg), fun x hx => by cases hx⟩
  | x :: l, n, f, t, r, b, N, hb, hg, h => by
    refine ⟨.inr (.inr (by simp)), ?_⟩
    simp only [goK, goBk] at hg h
    split at hg
    · rename_i hc
      rw [if_pos hc] at h
      have hlb : (leadK (bookOf b 4 [x.2.1.1, x.2.1.2]) n x.1 (leafK x.2.1) x.2.2).isSome = true := leadK_isSome (bookOf_isSome hb)
      obtain ⟨h1, h2⟩ := go_notes (l := l) hlb hg h
      have hin := bkIn.go (l := l) h
      have hr : leadS n x.1 (leafK x.2.1) x.2.2 = r := by
        rcases h1 with h1 | h1 | h1
        · cases h1
        · exact h1
        · cases l with
          | nil => exact absurd rfl h1
          | cons z l =>
            obtain ⟨k1, k2, _⟩ := h2 z List.mem_cons_self
            simp only [goK] at hg
            split at hg
            · rename_i hc2
              rcases hc2.2 with h3 | h3
              · cases h3
              · rw [← h3, k2]
            · cases hg
      intro z hz
      rcases List.mem_cons.1 hz with rfl | hz
      · refine ⟨hc.1, hr, (bkIn.leadK hin).node hb, bookOf b 4 [z.2.1.1, z.2.1.2], bookOf_isSome hb, ?_⟩
        unfold leadK at hin
        rw [if_pos hc.1] at hin
        exact hin
      · exact h2 z hz
    · cases hg
theorem goK_len : ∀ {l : List Sp} {n : Int} {f : Bool} {t r : Sm}, goK n f l t = some r → t.length = 32 → (∀ x ∈ l, (leadS n x.1 (leafK x.2.1) x.2.2).length = 32) → r.length = 32
  | [], n, f, t, r, h, ht, _ => by
    simp only [goK, Option.some.injEq] at h
    rw [← h]; exact ht
  | x :: l, n, f, t, r, h, ht, hl => by
    simp only [goK] at h
    split at h
    · exact goK_len (l := l) h (hl x List.mem_cons_self) (fun z hz => hl z (List.mem_cons_of_mem _ hz))
    · cases h
theorem leadS_len {n a : Int} {s : Sm} {P : List Sm} (h : s.length = 32) : (leadS n a s P).length = 32 := by
  unfold leadS
  split
  · exact foldL_len _ _ _ h
  · rfl
theorem begK_len (n : Int) : (begK n).length = 32 := by
  unfold begK
  split
  · exact rootS_len (by simp)
  · rfl
theorem isK_no {l : List Pk} {key : By} (hm : mayK l = true) (h : ∀ (i : Nat) (h : i < l.length), l[i].1 ≠ key) : isK l key = false := by
  cases hi : isK l key with
  | false => rfl
  | true =>
    obtain ⟨i, hi1, hi2⟩ := (isK_iff hm).1 hi
    exact absurd hi2 (h i hi1)
theorem isK_at {l : List Pk} {key : By} (hm : mayK l = true) {i : Nat} (h : i < l.length) (he : l[i].1 = key) : isK l key = true ∧ lowK l key = i :=
  ⟨(isK_iff hm).2 ⟨i, h, he⟩, lowK_of (Nat.le_of_lt h) (fun t ht hti => by rw [← he]; exact mayK_at ht h hm hti) (fun _ => by rw [he]; exact sless_irr key)⟩
/-- what is looked at by the root of pairs that may be -/
theorem look_binds {N : List Nt} (hN : NoClash N) {l : List Pk} {key : By} {s : Sn} {x y : BookA} {b : Bool} (hm : mayK l = true) (hx : x.isSome = true) (hy : y.isSome = true) (hR : bkIn N (rootKbk x l)) (hF : bkIn N (lookBk y key s)) (ll : l.length < 2 ^ 64) (ls : s.1.toNat < 2 ^ 64)
    (wl : ∀ p ∈ l, p.1.length < 2 ^ 64 ∧ p.2.length < 2 ^ 64) (ws : ∀ p ∈ s.2, (p.2.1.1.length < 2 ^ 64 ∧ p.2.1.2.length < 2 ^ 64) ∧ ∀ z ∈ p.2.2, z.length = 32) (h : lookO (rootK l) key s = some b) : b = isK l key ∧ (b = true → (ix s.2 0).2.1.2 = (ix l (lowK l key : Int)).2) := by
  unfold lookO at h
  split at h
  · rename_i hs
    unfold lookBk at hF
    rw [if_pos hs] at hF
    split at h
    · rename_i t ht
      rw [ht] at hF
      simp only at hF
      split at h
      · rename_i hroot
        cases h
        have hyb : (begBk s.1 y).isSome = true := by
          unfold begBk
          split
          · exact bookOf_isSome hy
          · exact hy
        have hgs := goBk_isSome (l := s.2) (n := s.1) (f := true) (t := begK s.1) hyb
        obtain ⟨h1, h2⟩ := go_notes hyb ht hF.of
        have ht32 : t.length = 32 := goK_len ht (begK_len _) (fun z hz => leadS_len (sealOf_len _ _))
        have hxr := rootBk_isSome (leavesK l).length (l := leavesK l) (x := leavesBk x l) (Nat.le_refl _) (leavesBk_isSome hx)
        have hw := hN.parts (hF.node hgs) (hR.node hxr) hroot (by
          intro z hz
          rcases List.mem_cons.1 hz with rfl | hz
          · exact Nat.lt_of_le_of_lt (numB_length ls) (by decide)
          · rcases List.mem_cons.1 hz with rfl | hz
            · rw [ht32]; decide
            · cases hz) (by
          intro z hz
          rcases List.mem_cons.1 hz with rfl | hz
          · exact Nat.lt_of_le_of_lt (numB_length ll) (by decide)
          · rcases List.mem_cons.1 hz with rfl | hz
            · rw [rootS_len (leavesK_sm l)]; decide
            · cases hz)
        simp only [List.cons.injEq, and_true] at hw
        have hn : s.1.toNat = l.length := (numB_inj ls ll (x := []) (y := []) (by rw [hw.1])).1
        have hs1 : s.1 = (l.length : Int) := by omega
        have hall : ∀ p ∈ s.2, ∃ (i : Nat) (h : i < l.length), p.1 = (i : Int) ∧ p.2.1 = l[i] := fun p hp => by
          obtain ⟨k1, k2, k3, z, k4, k5⟩ := h2 p hp
          have k1' := of_decide_eq_true k1
          have hi : p.1.toNat < l.length := by omega
          have hlp : p.2.2.length = (sidesN (leavesK l).length p.1.toNat).length := by rw [leavesK_len, ← hn]; exact k1'.2
          have hfl : foldL (sidesN (leavesK l).length p.1.toNat).reverse p.2.2 (leafK p.2.1) = rootS (leavesK l) := by
            unfold leadS at k2
            rw [if_pos k1] at k2
            rw [leavesK_len, ← hn, k2, hw.2]
          have hb := lead_binds hN _ (l := leavesK l) (a := p.1.toNat) (s := leafK p.2.1) (P := p.2.2) (x := leavesBk x l) (y := z) (Nat.le_refl _) (by rw [leavesK_len]; exact hi) hlp (leavesK_sm l) (ws p hp).2 (sealOf_len _ _) (leavesBk_isSome hx) k4 hR.of (by rw [leavesK_len, ← hn]; exact k5) hfl
          rw [ix_leaf hi] at hb
          have hlf := bkIn.leaf hx (bkIn.root _ (Nat.le_refl _) hR.of) l[p.1.toNat] (List.getElem_mem hi)
          have he := hN.parts k3 hlf hb.1 (by
            intro z hz
            rcases List.mem_cons.1 hz with rfl | hz
            · exact (ws p hp).1.1
            · rcases List.mem_cons.1 hz with rfl | hz
              · exact (ws p hp).1.2
              · cases hz) (by
            intro z hz
            rcases List.mem_cons.1 hz with rfl | hz
            · exact (wl _ (List.getElem_mem hi)).1
            · rcases List.mem_cons.1 hz with rfl | hz
              · exact (wl _ (List.getElem_mem hi)).2
              · cases hz)
          simp only [List.cons.injEq, and_true] at he
          exact ⟨p.1.toNat, hi, by omega, Prod.ext he.1 he.2⟩
        obtain ⟨cnt, L⟩ := s
        simp only at hs1 hall hs ⊢
        subst hs1
        match L, hall, hs with
        | [], _, hs =>
          have h0 : (l.length : Int) = 0 := of_decide_eq_true hs.1
          exact ⟨(isK_no hm fun i hi => by omega).symm, fun hb => by cases hb⟩
        | [a], hall, hs =>
          obtain ⟨i, hi, e1, e2⟩ := hall a List.mem_cons_self
          have hd := of_decide_eq_true hs.1
          rw [e1, e2] at hd
          show decide (cmpB key a.2.1.1 = 0) = _ ∧ (decide (cmpB key a.2.1.1 = 0) = true → a.2.1.2 = _)
          rw [e2]
          rcases hd with hd | ⟨hd, h0⟩ | ⟨hd, h0⟩
          · have hk := cmpB_eq.1 hd
            obtain ⟨q1, q2⟩ := isK_at hm hi hk.symm
            rw [q1, q2, decide_eq_true hd, ixN hi]
            exact ⟨rfl, fun _ => rfl⟩
          · have hk := cmpB_lt.1 hd
            have i0 : i = 0 := by omega
            subst i0
            have hno := isK_no (key := key) hm fun j hj he => by
              rcases Nat.eq_zero_or_pos j with rfl | hj0
              · rw [he, sless_irr] at hk; cases hk
              · have := sless_trans hk (mayK_at hi hj hm hj0)
                rw [he, sless_irr] at this; cases this
            rw [hno, decide_eq_false (by omega)]
            exact ⟨rfl, fun h => by cases h⟩
          · have hk := cmpB_gt.1 hd
            have hno := isK_no (key := key) hm fun j hj he => by
              rcases Nat.lt_or_ge j i with hji | hji
              · have := sless_trans (mayK_at hj hi hm hji) hk
                rw [he, sless_irr] at this; cases this
              · have : j = i := by omega
                subst this
                rw [he, sless_irr] at hk; cases hk
            rw [hno, decide_eq_false (by omega)]
            exact ⟨rfl, fun h => by cases h⟩
        | [a, c], hall, hs =>
          obtain ⟨i, hi, e1, e2⟩ := hall a List.mem_cons_self
          obtain ⟨j, hj, e3, e4⟩ := hall c (by simp)
          have hd := of_decide_eq_true hs.1
          rw [e1, e2, e3, e4] at hd
          obtain ⟨d1, d2, d3, d4, d5⟩ := hd
          have k1 := cmpB_lt.1 d4
          have k2 := cmpB_lt.1 d5
          have hno := isK_no (key := key) hm fun q hq he => by
            rcases Nat.lt_or_ge q i with hqi | hqi
            · have := sless_trans (mayK_at hq hi hm hqi) k1
              rw [he, sless_irr] at this; cases this
            · rcases Nat.lt_or_ge i q with hiq | hiq
              · rcases Nat.lt_or_ge j q with hjq | hjq
                · have := sless_trans k2 (mayK_at hj hq hm hjq)
                  rw [he, sless_irr] at this; cases this
                · have : q = j := by omega
                  subst this
                  rw [he, sless_irr] at k2; cases k2
              · have : q = i := by omega
                subst this
                rw [he, sless_irr] at k1; cases k1
          exact ⟨hno.symm, fun h => by cases h⟩
        | a :: c :: d :: L, _, hs => exact absurd hs.1 (by simp [saysK])
      · cases h
    · cases h
  · cases h
end Go.Inc

/-
  PLAIN 19: keyed trees: what their laws ask: how much there is, what stands at a key, the example.
-/
set_option linter.unusedVariables false
namespace Go.Inc
open Go

/-- how much a pair is, a spot -/
def szK (p : Pk) : Int := min (p.1.length : Int) 200000 + min (p.2.length : Int) 200000
def szW (x : Sp) : Int := min (x.2.1.1.length : Int) 200000 + min (x.2.1.2.length : Int) 200000 + 1000 * min (x.2.2.length : Int) 200
theorem szK_pos (p : Pk) : 0 ≤ szK p := by unfold szK; omega
theorem szW_pos (p : Sp) : 0 ≤ szW p := by unfold szW; omega
def totI (l : List Int) : Int := l.foldl (· + ·) 0
theorem totI_acc : ∀ (l : List Int) (a : Int), l.foldl (· + ·) a = a + totI l
  | [], a => by simp [totI]
  | x :: l, a => by
    rw [List.foldl_cons, totI_acc l (a + x)]
    show a + x + totI l = a + (x :: l).foldl (· + ·) 0
    rw [List.foldl_cons, totI_acc l (0 + x)]
    omega
theorem totI_cons (x : Int) (l : List Int) : totI (x :: l) = x + totI l := by
  show (x :: l).foldl (· + ·) 0 = _
  rw [List.foldl_cons, totI_acc]
  omega
theorem totI_take : ∀ {l : List Int} {i : Nat} (h : i < l.length), totI (l.take (i + 1)) = totI (l.take i) + l[i]
  | x :: l, 0, h => by simp [totI_cons, totI]
  | x :: l, i + 1, h => by
    rw [List.take_succ_cons, List.take_succ_cons, totI_cons, totI_cons, totI_take (l := l) (by simpa using h), List.getElem_cons_succ]
    omega
theorem totI_pos : ∀ {l : List Int}, (∀ x ∈ l, 0 ≤ x) → 0 ≤ totI l
  | [], h => by simp [totI]
  | x :: l, h => by
    rw [totI_cons]
    have := h x (by simp)
    have := totI_pos (l := l) (fun y hy => h y (by simp [hy]))
    omega
theorem totI_take_le : ∀ {l : List Int} (i : Nat), (∀ x ∈ l, 0 ≤ x) → totI (l.take i) ≤ totI l
  | [], i, h => by simp
  | x :: l, 0, h => by
    have := totI_pos h
    simpa [totI] using this
  | x :: l, i + 1, h => by
    rw [List.take_succ_cons, totI_cons, totI_cons]
    have := totI_take_le (l := l) i (fun y hy => h y (by simp [hy]))
    omega
theorem totI_mem : ∀ {l : List Int} {x : Int}, (∀ x ∈ l, 0 ≤ x) → x ∈ l → x ≤ totI l
  | y :: l, x, h, hx => by
    rw [totI_cons]
    have h1 := h y (by simp)
    have h2 := totI_pos (l := l) (fun y hy => h y (by simp [hy]))
    rcases List.mem_cons.1 hx with rfl | hx
    · omega
    · have := totI_mem (l := l) (fun y hy => h y (by simp [hy])) hx
      omega
def muchK (l : List Pk) : Bool := decide (100 < l.length ∨ 100000 < totI (l.map szK))
def wideK (s : Sn) : Bool := decide (10 < s.2.length ∨ 100000 < totI (s.2.map szW))
/-- what there is little of -/
theorem muchK_no {l : List Pk} (h : muchK l = false) : l.length ≤ 100 ∧ ∀ p ∈ l, p.1.length + p.2.length ≤ 100000 := by
  have h := of_decide_eq_false h
  refine ⟨by omega, fun p hp => ?_⟩
  have h1 : szK p ≤ totI (l.map szK) := totI_mem (fun x hx => by obtain ⟨q, _, rfl⟩ := List.mem_map.1 hx; exact szK_pos q) (List.mem_map_of_mem hp)
  have h2 : szK p = min (p.1.length : Int) 200000 + min (p.2.length : Int) 200000 := rfl
  omega
theorem wideK_no {s : Sn} (h : wideK s = false) : s.2.length ≤ 10 ∧ ∀ x ∈ s.2, x.2.1.1.length + x.2.1.2.length ≤ 100000 ∧ x.2.2.length ≤ 100 := by
  have h := of_decide_eq_false h
  refine ⟨by omega, fun p hp => ?_⟩
  have h1 : szW p ≤ totI (s.2.map szW) := totI_mem (fun x hx => by obtain ⟨q, _, rfl⟩ := List.mem_map.1 hx; exact szW_pos q) (List.mem_map_of_mem hp)
  have h2 : szW p = min (p.2.1.1.length : Int) 200000 + min (p.2.1.2.length : Int) 200000 + 1000 * min (p.2.2.length : Int) 200 := rfl
  omega
/-- what stands at a key: the first one -/
def standsK : List Pk → By → By × Bool
  | [], _ => ([], false)
  | p :: l, key => if p.1 = key then (p.2, true) else standsK l key
theorem standsK_skip : ∀ {l : List Pk} {key : By} (i : Nat), (∀ (t : Nat) (h : t < l.length), t < i → l[t].1 ≠ key) → standsK (l.drop i) key = standsK l key
  | l, key, 0, h => by simp
  | [], key, i + 1, h => by simp
  | p :: l, key, i + 1, h => by
    have h0 : p.1 ≠ key := h 0 (by simp) (by omega)
    rw [List.drop_succ_cons, standsK_skip i (fun t ht hti => h (t + 1) (by simpa using ht) (by omega))]
    show _ = if p.1 = key then _ else _
    rw [if_neg h0]
theorem standsK_eq {l : List Pk} {key : By} (hm : mayK l = true) : standsK l key = (if isK l key then (ix l (lowK l key : Int)).2 else [], isK l key) := by
  by_cases h : ∃ (i : Nat) (h : i < l.length), l[i].1 = key
  · obtain ⟨i, hi, he⟩ := h
    obtain ⟨h1, h2⟩ := isK_at hm hi he
    rw [h1, h2, if_pos rfl, ixN hi]
    rw [← standsK_skip i (fun t ht hti e => by
      have := mayK_at ht hi hm hti
      rw [he, e, sless_irr] at this
      cases this), List.drop_eq_getElem_cons hi]
    show (if l[i].1 = key then _ else _) = _
    rw [if_pos he]
  · have h1 : isK l key = false := isK_no hm fun i hi he => h ⟨i, hi, he⟩
    rw [h1, if_neg (by simp)]
    have := standsK_skip (l := l) (key := key) l.length (fun t ht _ e => h ⟨t, ht, e⟩)
    rw [← this]
    simp [standsK]
theorem bookUpto.leaves : ∀ {l : List Pk} {x : BookA} {n : Nat}, bookUpto x (n + l.length) → bookUpto (leavesBk x l) n
  | [], x, n, h => h
  | p :: l, x, n, h => by
    refine bookUpto.leaves (l := l) ?_
    exact bookUpto.of (h.le (by simp only [List.length_cons]; omega)) _ _
/-- as 'says' has it, of any number -/
def saysW (key : By) (s : Sn) : Bool × Bool := match s.2 with
  | [a] => (decide (cmpB key a.2.1.1 = 0), decide (cmpB key a.2.1.1 = 0 ∨ cmpB key a.2.1.1 < 0 ∧ a.1 = 0 ∨ 0 < cmpB key a.2.1.1 ∧ a.1 = IntKind.i64.wrap (s.1 - 1)))
  | _ => saysK key s
theorem saysW_eq {key : By} {s : Sn} (h : 0 ≤ s.1) (hw : (Kd.int .i64).wf s.1) : saysW key s = saysK key s := by
  obtain ⟨n, l⟩ := s
  have e : IntKind.i64.wrap (n - 1) = n - 1 := wrap_id (wf64 (by have h : 0 ≤ n := h; omega) (by have h2 : n ≤ 9223372036854775807 := hw.2; omega))
  unfold saysW saysK
  simp only
  match l with
  | [] => rfl
  | [a] => simp only [e]
  | a :: b :: l => rfl
def threeK : List Pk := [([98], [49]), ([100], [50]), ([102], [51])]
end Go.Inc

/-
  PLAIN 20: keyed trees: the laws that hold by these alone.
-/
set_option linter.unusedVariables false
namespace Go.Inc
open Go

/-! ### notes that are not too great -/
def greatB (x : BookA) : Prop := ∀ y, x = some y → ∀ z ∈ y.1, z.2.length ≤ 1048576
theorem greatB.of {x : BookA} {k : Int} {p : List (List UInt8)} (h : greatB x) (hp : blobRoom p ≤ 1048575) : greatB (bookOf x k p) := fun y hy z hz => by
  cases x with
  | none => cases hy
  | some u =>
    cases hy
    rcases addL_mem hz with hz | hz
    · exact h u rfl z hz
    · rw [hz]
      have := preimage_len k (l := p) (by omega)
      exact Nat.le_trans this (by omega)
theorem greatB.of2 {x : BookA} {k : Int} {a b : List UInt8} (h : greatB x) (hp : a.length + b.length ≤ 1000000) : greatB (bookOf x k [a, b]) := h.of (by simp [blobRoom]; omega)
theorem greatB.root : ∀ (k : Nat) {l : List Sm} {x : BookA}, l.length ≤ k → (∀ z ∈ l, z.length = 32) → greatB x → greatB (rootBk x l)
  | 0, l, x, hk, hl, h => by
    obtain rfl : l = [] := List.length_eq_zero_iff.1 (by omega)
    rw [rootBk_nil]; exact h.of (by simp [blobRoom])
  | k + 1, l, x, hk, hl, h => by
    rcases Nat.lt_or_ge l.length 2 with h2 | h2
    · match l, h2 with
      | [], _ => rw [rootBk_nil]; exact h.of (by simp [blobRoom])
      | [a], _ => rw [rootBk_one]; exact h
    · have a1 := half_pos h2
      have a2 := half_lt h2
      have w1 : ∀ z ∈ l.take (half l.length), z.length = 32 := fun z hz => hl z (List.mem_of_mem_take hz)
      have w2 : ∀ z ∈ l.drop (half l.length), z.length = 32 := fun z hz => hl z (List.mem_of_mem_drop hz)
      rw [rootBk_two x h2]
      exact (greatB.root k (by simp only [List.length_drop]; omega) w2 (greatB.root k (by simp only [List.length_take]; omega) w1 h)).of2 (by rw [rootS_len w1, rootS_len w2]; omega)
theorem greatB.foldK : ∀ {A : List Int} {P : List Sm} {s : Sm} {x : BookA}, s.length = 32 → (∀ z ∈ P, z.length = 32) → greatB x → greatB (foldK A P s x)
  | [], P, s, x, hs, hp, h => by simpa [Go.Inc.foldK] using h
  | _ :: _, [], s, x, hs, hp, h => by simpa [Go.Inc.foldK] using h
  | a :: A, p :: P, s, x, hs, hp, h => by
    have hp1 := hp p List.mem_cons_self
    have hp2 : ∀ z ∈ P, z.length = 32 := fun z hz => hp z (List.mem_cons_of_mem _ hz)
    simp only [Go.Inc.foldK]
    split
    · exact greatB.foldK (sealOf_len _ _) hp2 (h.of2 (by omega))
    · exact greatB.foldK (sealOf_len _ _) hp2 (h.of2 (by omega))
theorem greatB.leaves : ∀ {l : List Pk} {x : BookA}, (∀ p ∈ l, p.1.length + p.2.length ≤ 1000000) → greatB x → greatB (leavesBk x l)
  | [], x, hl, h => h
  | p :: l, x, hl, h => greatB.leaves (l := l) (fun q hq => hl q (List.mem_cons_of_mem _ hq)) (h.of2 (hl p List.mem_cons_self))
theorem greatB.leadK {n a : Int} {P : List Sm} {s : Sm} {x : BookA} (hs : s.length = 32) (hp : ∀ z ∈ P, z.length = 32) (h : greatB x) : greatB (leadK x n a s P) := by
  unfold Go.Inc.leadK
  split
  · exact greatB.foldK hs hp h
  · exact h
theorem bookUpto.leadK {n a : Int} {P : List Sm} {s : Sm} {x : BookA} {m : Nat} (h : bookUpto x (m + P.length)) : bookUpto (leadK x n a s P) m := by
  unfold Go.Inc.leadK
  split
  · exact bookUpto.foldK h
  · exact h.le (by omega)
/-- a spot's bytes, the sums of its path -/
def okSp (x : Sp) : Prop := x.2.1.1.length + x.2.1.2.length ≤ 100000 ∧ x.2.2.length ≤ 100 ∧ ∀ z ∈ x.2.2, z.length = 32
theorem goBk_small : ∀ {l : List Sp} {n : Int} {f : Bool} {t : Sm} {b : BookA} {m : Nat}, (∀ x ∈ l, okSp x) → greatB b → bookUpto b (m + 101 * l.length) → greatB (goBk n f l t b) ∧ bookUpto (goBk n f l t b) m
  | [], n, f, t, b, m, hl, hc, hu => ⟨hc, hu.le (by simp)⟩
  | x :: l, n, f, t, b, m, hl, hc, hu => by
    obtain ⟨o1, o2, o3⟩ := hl x List.mem_cons_self
    rw [List.length_cons] at hu
    have c1 : greatB (Go.Inc.leadK (bookOf b 4 [x.2.1.1, x.2.1.2]) n x.1 (leafK x.2.1) x.2.2) := greatB.leadK (sealOf_len _ _) o3 (hc.of2 (by omega))
    have u1 : bookUpto (Go.Inc.leadK (bookOf b 4 [x.2.1.1, x.2.1.2]) n x.1 (leafK x.2.1) x.2.2) (m + 101 * l.length) := bookUpto.leadK ((hu.le (by omega) : bookUpto b (m + 101 * l.length + x.2.2.length + 1)).of _ _)
    have e : goBk n f (x :: l) t b = if leadB n x.1 x.2.2 = true ∧ (f = true ∨ leadS n x.1 (leafK x.2.1) x.2.2 = t) then goBk n false l (leadS n x.1 (leafK x.2.1) x.2.2) (Go.Inc.leadK (bookOf b 4 [x.2.1.1, x.2.1.2]) n x.1 (leafK x.2.1) x.2.2) else Go.Inc.leadK (bookOf b 4 [x.2.1.1, x.2.1.2]) n x.1 (leafK x.2.1) x.2.2 := rfl
    rw [e]
    split
    · exact goBk_small (fun y hy => hl y (List.mem_cons_of_mem _ hy)) c1 u1
    · exact ⟨c1, u1.le (by omega)⟩
theorem lookBk_small {key : By} {s : Sn} {b : BookA} (hl : ∀ x ∈ s.2, okSp x) (hn : s.2.length ≤ 10) (hw : (Kd.int .i64).wf s.1) (hc : greatB b) (hu : bookUpto b 1100) : greatB (lookBk b key s) ∧ bookUpto (lookBk b key s) 0 := by
  have h0 : greatB (begBk s.1 b) ∧ bookUpto (begBk s.1 b) 1050 := by
    unfold begBk
    split
    · exact ⟨hc.of (by simp [blobRoom]), (hu.le (by omega) : bookUpto b (1050 + 1)).of _ _⟩
    · exact ⟨hc, hu.le (by omega)⟩
  obtain ⟨h1, h2⟩ := goBk_small (n := s.1) (f := true) (t := begK s.1) (m := 1) hl h0.1 (h0.2.le (by omega))
  unfold lookBk
  split
  · split
    · rename_i t ht
      have ht32 : t.length = 32 := goK_len ht (begK_len _) (fun z hz => leadS_len (sealOf_len _ _))
      have hnb := numB_length (n := s.1.toNat) (by have h3 : s.1 ≤ 9223372036854775807 := hw.2; omega)
      exact ⟨h1.of2 (by omega), h2.of _ _⟩
    · exact ⟨h1, h2.le (by omega)⟩
  · exact ⟨hc, hu.le (by omega)⟩
theorem lookBk_isSome {key : By} {s : Sn} {b : BookA} (hb : b.isSome = true) : (lookBk b key s).isSome = true := by
  have h0 : (begBk s.1 b).isSome = true := by
    unfold begBk
    split
    · exact bookOf_isSome hb
    · exact hb
  unfold lookBk
  split
  · split
    · exact bookOf_isSome (goBk_isSome h0)
    · exact goBk_isSome h0
  · exact hb
theorem rootKbk_isSome {l : List Pk} {b : BookA} (hb : b.isSome = true) : (rootKbk b l).isSome = true := bookOf_isSome (rootBk_isSome _ (Nat.le_refl _) (leavesBk_isSome hb))
theorem rootKbk_small {l : List Pk} {b : BookA} (hl : l.length ≤ 100) (hs : ∀ p ∈ l, p.1.length + p.2.length ≤ 100000) (hc : greatB b) (hu : bookUpto b 1100) : greatB (rootKbk b l) ∧ bookUpto (rootKbk b l) 0 := by
  have c1 : greatB (leavesBk b l) := greatB.leaves (fun p hp => by have := hs p hp; omega) hc
  have u1 : bookUpto (leavesBk b l) 500 := bookUpto.leaves (hu.le (by omega))
  have c2 : greatB (rootBk (leavesBk b l) (leavesK l)) := greatB.root _ (Nat.le_refl _) (leavesK_sm l) c1
  have u2 : bookUpto (rootBk (leavesBk b l) (leavesK l)) (0 + 1) := by
    by_cases h0 : 1 ≤ (leavesK l).length
    · exact bookUpto.root _ (Nat.le_refl _) h0 (u1.le (by rw [leavesK_len]; omega))
    · have e : leavesK l = [] := List.length_eq_zero_iff.1 (by omega)
      rw [e, rootBk_nil]
      exact (u1.le (by omega) : bookUpto (leavesBk b l) (1 + 1)).of _ _
  have hnb := numB_length (n := l.length) (by omega)
  exact ⟨c2.of2 (by rw [rootS_len (leavesK_sm l)]; omega), u2.of _ _⟩
theorem clashPre_great {a b : List Nt × Int} (h1 : bookUpto (some a) 0) (h2 : bookUpto (some b) 0) (s1 : greatB (some a)) (s2 : greatB (some b)) : clashPre [frzB (some a), frzB (some b)] := by
  have e : notesF [frzB (some a), frzB (some b)] = a.1 ++ b.1 := by simp [notesF, frzB]
  have n1 := h1 a rfl
  have n2 := h2 b rfl
  unfold clashPre
  rw [e]
  refine ⟨by simp only [List.length_append]; omega, fun z hz => ?_⟩
  have : z.2.length ≤ 1048576 := by
    rcases List.mem_append.1 hz with hz | hz
    · exact s1 a rfl z hz
    · exact s2 b rfl z hz
  omega
/-! ### what is shown -/
theorem show_small {l : List Pk} {key : By} {m : Nat} (hl : l.length ≤ 65536) (hs : ∀ p ∈ l, p.1.length + p.2.length ≤ m) : ∀ x ∈ (showK l key).2, x.2.1.1.length + x.2.1.2.length ≤ m ∧ x.2.2.length ≤ 65536 := fun x hx => by
  unfold showK at hx
  split at hx
  · obtain ⟨i, hi, rfl⟩ := List.mem_map.1 hx
    have hi := List.mem_range'_1.1 hi
    have ht : toK l key ≤ l.length := by unfold toK; omega
    have hlt : i < l.length := by omega
    have hp := pathN_len (l := leavesK l) (a := (i : Int)) (by rw [leavesK_len]; omega)
    refine ⟨?_, by show (pathN _ _).length ≤ _; omega⟩
    show (ix l (i : Int)).1.length + (ix l (i : Int)).2.length ≤ m
    rw [ixN hlt]
    exact hs _ (List.getElem_mem hlt)
  · cases hx
theorem tells {l : List Pk} {key : By} (hm : mayK l = true) : lookE (rootK l) key (showK l key) = 0 ∧ lookT (rootK l) key (showK l key) = (standsK l key).2 ∧ lookV (rootK l) key (showK l key) = (standsK l key).1 := by
  obtain ⟨h1, h2⟩ := show_tells (key := key) hm
  rw [standsK_eq hm]
  unfold lookE lookT lookV
  rw [h1]
  cases hi : isK l key with
  | false => exact ⟨rfl, rfl, rfl⟩
  | true =>
    rw [h2 hi]
    exact ⟨rfl, rfl, rfl⟩
theorem binds {l : List Pk} {key : By} {s : Sn} {A B : List Nt × Int} (hm : mayK l = true) (hN : NoClash (A.1 ++ B.1)) (hA : rootKbk (some ([], 0)) l = some A) (hB : lookBk (some ([], 0)) key s = some B) (hl : l.length ≤ 100) (hs : ∀ p ∈ l, p.1.length + p.2.length ≤ 100000) (ho : ∀ x ∈ s.2, okSp x) (hw : (Kd.int .i64).wf s.1) (he : lookE (rootK l) key s = 0) :
    lookT (rootK l) key s = (standsK l key).2 ∧ lookV (rootK l) key s = (standsK l key).1 := by
  have hO : ∃ b, lookO (rootK l) key s = some b := by
    cases h : lookO (rootK l) key s with
    | some b => exact ⟨b, rfl⟩
    | none => unfold lookE at he; rw [h] at he; cases he
  obtain ⟨b, hb⟩ := hO
  obtain ⟨h1, h2⟩ := look_binds hN hm (x := some ([], 0)) (y := some ([], 0)) rfl rfl (by
      rw [hA]; intro y hy z hz; cases hy; exact List.mem_append.2 (.inl hz)) (by
      rw [hB]; intro y hy z hz; cases hy; exact List.mem_append.2 (.inr hz)) (by omega) (by have h3 : s.1 ≤ 9223372036854775807 := hw.2; omega)
    (fun p hp => by have := hs p hp; omega) (fun p hp => by obtain ⟨o1, o2, o3⟩ := ho p hp; exact ⟨by omega, o3⟩) hb
  rw [standsK_eq hm]
  unfold lookT lookV
  rw [hb]
  cases hbb : b with
  | false =>
    rw [hbb] at h1
    rw [← h1]
    exact ⟨rfl, rfl⟩
  | true =>
    rw [hbb] at h1
    rw [← h1]
    exact ⟨rfl, (h2 hbb)⟩
/-! ### the example -/
theorem three_may : mayK threeK = true := by decide +kernel
theorem three_small : threeK.length ≤ 65536 ∧ ∀ x ∈ threeK, x.1.length + x.2.length ≤ 70368744177664 := by
  refine ⟨by decide, fun x hx => ?_⟩
  have : ∀ x ∈ threeK, x.1.length + x.2.length ≤ 2 := by decide
  have := this x hx
  omega
theorem three_d : showK threeK [100] = (3, [spotK threeK 1]) := by
  have h1 : fromK threeK [100] = 1 := by decide +kernel
  have h2 : toK threeK [100] = 2 := by decide +kernel
  unfold showK
  rw [if_pos three_may, h1, h2]
  rfl
theorem three_c : showK threeK [99] = (3, [spotK threeK 0, spotK threeK 1]) := by
  have h1 : fromK threeK [99] = 0 := by decide +kernel
  have h2 : toK threeK [99] = 2 := by decide +kernel
  unfold showK
  rw [if_pos three_may, h1, h2]
  rfl
theorem three_a : showK threeK [97] = (3, [spotK threeK 0]) := by
  have h1 : fromK threeK [97] = 0 := by decide +kernel
  have h2 : toK threeK [97] = 1 := by decide +kernel
  unfold showK
  rw [if_pos three_may, h1, h2]
  rfl
theorem three_cd : lookE (rootK threeK) [99] (showK threeK [100]) = 10 := by
  have h : (saysK [99] (showK threeK [100])).2 = false := by rw [three_d]; decide +kernel
  have e : lookO (rootK threeK) [99] (showK threeK [100]) = none := if_neg (by rw [h]; simp)
  unfold lookE
  rw [e]
  rfl
theorem three_xa : lookE (rootK threeK) [120] (showK threeK [97]) = 10 := by
  have h : (saysK [120] (showK threeK [97])).2 = false := by rw [three_a]; decide +kernel
  have e : lookO (rootK threeK) [120] (showK threeK [97]) = none := if_neg (by rw [h]; simp)
  unfold lookE
  rw [e]
  rfl
end Go.Inc

/-
  PLAIN 14: what a path tells, step by step from its end; how a path is as the document tells it.
-/
set_option linter.unusedVariables false
namespace Go.Inc
open Go
end Go.Inc

/- Functions in the old form: what a call must answer for (_VC), that it does (_ok), the walk through its code (_walk), its contract (_c). -/
set_option linter.unusedVariables false
set_option maxRecDepth 100000
set_option maxHeartbeats 2000000
namespace Go.Proofs.Ytmjjkpiglbpkhaa
open Go Go.RowKit Go.Inc
abbrev kd_l_u8 : Kd (List UInt8) := (Kd.sl Kd.byte)
theorem ty5b : TyOk Try.prog 5 Kd.byte 1 := ⟨⟨Try.t5, _, Try.type5, rfl, rfl, rfl, rfl, rfl⟩, ⟨_, Try.underlying5, rfl⟩⟩
def strc256_52136 : List UInt8 := [0, 1, 2, 2, 3, 3, 3, 3, 4, 4, 4, 4, 4, 4, 4, 4, 5, 5, 5, 5, 5, 5, 5, 5, 5, 5, 5, 5, 5, 5, 5, 5, 6, 6, 6, 6, 6, 6, 6, 6, 6, 6, 6, 6, 6, 6, 6, 6, 6, 6, 6, 6, 6, 6, 6, 6, 6, 6, 6, 6, 6, 6, 6, 6, 7, 7, 7, 7, 7, 7, 7, 7, 7, 7, 7, 7, 7, 7, 7, 7, 7, 7, 7, 7, 7, 7, 7, 7, 7, 7, 7, 7, 7, 7, 7, 7, 7, 7, 7, 7, 7, 7, 7, 7, 7, 7, 7, 7, 7, 7, 7, 7, 7, 7, 7, 7, 7, 7, 7, 7, 7, 7, 7, 7, 7, 7, 7, 7, 8, 8, 8, 8, 8, 8, 8, 8, 8, 8, 8, 8, 8, 8, 8, 8, 8, 8, 8, 8, 8, 8, 8, 8, 8, 8, 8, 8, 8, 8, 8, 8, 8, 8, 8, 8, 8, 8, 8, 8, 8, 8, 8, 8, 8, 8, 8, 8, 8, 8, 8, 8, 8, 8, 8, 8, 8, 8, 8, 8, 8, 8, 8, 8, 8, 8, 8, 8, 8, 8, 8, 8, 8, 8, 8, 8, 8, 8, 8, 8, 8, 8, 8, 8, 8, 8, 8, 8, 8, 8, 8, 8, 8, 8, 8, 8, 8, 8, 8, 8, 8, 8, 8, 8, 8, 8, 8, 8, 8, 8, 8, 8, 8, 8, 8, 8, 8, 8, 8, 8, 8, 8, 8, 8, 8, 8, 8, 8]
abbrev kd_l_l_u8 : Kd (List (List UInt8)) := (Kd.sl kd_l_u8)
theorem ty32 : TyOk Try.prog 32 kd_l_u8 24 := ⟨⟨Try.t32, _, Try.type32, rfl, rfl, rfl, rfl, rfl⟩, ⟨_, Try.underlying32, rfl⟩⟩
def Grow_VC (a1_n : Int) (Q : (List UInt8) → Prop) : Prop :=
  ((a1_n < 0) → False) ∧ ((¬ (a1_n < 0)) → ((0 < (IntKind.i64.wrap (a1_n - (IntKind.i64.wrap (0 - (([] : List UInt8).length : Int)))))) → (0 < (IntKind.i64.wrap (a1_n - (IntKind.i64.wrap (0 - (([] : List UInt8).length : Int))))) ∧ (IntKind.i64.wrap (a1_n - (IntKind.i64.wrap (0 - (([] : List UInt8).length : Int))))) * 1 ≤ 140737488355328) ∧ (Q ([] : List UInt8))) ∧ ((¬ (0 < (IntKind.i64.wrap (a1_n - (IntKind.i64.wrap (0 - (([] : List UInt8).length : Int))))))) → Q ([] : List UInt8)))
theorem Grow_ok {a1_n : Int} (w_0 : (Kd.int .i64).wf a1_n) (hp : 0 ≤ a1_n ∧ a1_n ≤ 140737488355328) : Grow_VC a1_n (fun o0 => o0 = ([] : List UInt8)) := by
  have e1 : IntKind.i64.wrap (0 - (([] : List UInt8).length : Int)) = 0 := by decide
  have e2 : IntKind.i64.wrap (a1_n - 0) = a1_n := by rw [Int.sub_zero]; exact wrap_id w_0
  unfold Grow_VC
  rw [e1, e2]
  exact ⟨fun h => by omega, fun _ => ⟨fun h => ⟨⟨h, by omega⟩, rfl⟩, fun _ => rfl⟩⟩

theorem Grow_walk {w0 : World} {K0 : Ghost} {a1_n_v : Value} {a1_n : Int} {Q : (List UInt8) → Prop} (hM0 : Models w0 K0) (h_a1_n : (Kd.int .i64).V K0 a1_n a1_n_v) (h : Grow_VC a1_n Q) : Calls Try.prog 145 #[(.slice none 0 0), a1_n_v] w0 (fun e w' => ∃ (K' : Ghost) (r0 : Value) (o0 : (List UInt8)), e = .returned r0 ∧ Q o0 ∧ Ext NX w0 K0 w' K' ∧ Models w' K' ∧ Own Kd.byte 5 w' K' o0 r0 ∧ (∀ g, ob r0 = some g → w0.heap.size ≤ g)) := by
  unfold Grow_VC at h
  have hR1 : Own Kd.byte 5 w0 K0 ([] : List UInt8) (.slice none 0 0) := Own.nil
  obtain rfl := int_form h_a1_n
  have hE0 : Ext NX w0 K0 w0 K0 := Ext.refl _ _ _
  refine calls_gen fun R hR => ?_
  refine calls_env (args := [(.slice none 0 0), (.int .i64 a1_n)]) Try.func145 rfl (Nat.le_of_ble_eq_true rfl) ?_
  refine WP_seq ?_
  refine WP_region ?_
  have hR2 : Own Kd.byte 5 w0 K0 ([] : List UInt8) (.slice none 0 0) := Own.nil
  refine WL_pure (.slice none 0 0) (R_as rfl) rfl rfl ?_
  refine WL_nil ?_
  refine WP_seq ?_
  refine WP_seq ?_
  refine WP_region ?_
  refine WL_pure (.int .i64 a1_n) (R_mv rfl) rfl rfl ?_
  refine WL_pure (.bool (decide (a1_n < 0))) (R_lss rfl rfl) rfl rfl ?_
  refine WL_nil ?_
  refine WP_cond (decide (a1_n < 0)) rfl (fun hc3 => ?_) (fun hc3 => ?_)
  · have hd3 : a1_n < 0 := dec_t hc3
    have h := h.1 hd3
    refine WP_region ?_
    exact h.elim
  · have hd3 : ¬ (a1_n < 0) := dec_f hc3
    have h := h.2 hd3
    refine WP_skip ?_
    refine WP_seq ?_
    refine WP_seq ?_
    refine WP_region ?_
    refine WL_pure (.int .i64 a1_n) (R_mv rfl) rfl rfl ?_
    refine WL_pure (.slice none 0 0) (R_mv rfl) rfl rfl ?_
    refine WL_pure (.int .i64 0) (R_cap rfl Try.underlying32) rfl rfl ?_
    refine WL_pure (.slice none 0 0) (R_mv rfl) rfl rfl ?_
    refine WL_pure (.int .i64 (([] : List UInt8).length : Int)) (R_len rfl hR1.V Try.underlying32) rfl rfl ?_
    refine WL_pure (.int .i64 (IntKind.i64.wrap (0 - (([] : List UInt8).length : Int)))) (R_sub rfl rfl) rfl rfl ?_
    refine WL_pure (.int .i64 (IntKind.i64.wrap (a1_n - (IntKind.i64.wrap (0 - (([] : List UInt8).length : Int)))))) (R_sub rfl rfl) rfl rfl ?_
    refine WL_pure (.int .i64 (IntKind.i64.wrap (a1_n - (IntKind.i64.wrap (0 - (([] : List UInt8).length : Int)))))) (R_as rfl) rfl rfl ?_
    refine WL_nil ?_
    refine WP_seq ?_
    refine WP_region ?_
    refine WL_pure (.int .i64 (IntKind.i64.wrap (a1_n - (IntKind.i64.wrap (0 - (([] : List UInt8).length : Int)))))) (R_mv rfl) rfl rfl ?_
    refine WL_pure (.bool (decide (0 < (IntKind.i64.wrap (a1_n - (IntKind.i64.wrap (0 - (([] : List UInt8).length : Int)))))))) (R_gtr rfl rfl) rfl rfl ?_
    refine WL_nil ?_
    refine WP_cond (decide (0 < (IntKind.i64.wrap (a1_n - (IntKind.i64.wrap (0 - (([] : List UInt8).length : Int))))))) rfl (fun hc4 => ?_) (fun hc4 => ?_)
    · have hd4 : 0 < (IntKind.i64.wrap (a1_n - (IntKind.i64.wrap (0 - (([] : List UInt8).length : Int))))) := dec_t hc4
      have h := h.1 hd4
      refine WP_region ?_
      refine WL_pure (.slice none 0 0) (R_mv rfl) rfl rfl ?_
      refine WL_pure (.slice none 0 0) (R_mv rfl) rfl rfl ?_
      refine WL_pure (.int .i64 0) (R_cap rfl Try.underlying32) rfl rfl ?_
      refine WL_pure (.slice none 0 0) (R_slnil0 rfl rfl Try.underlying32 ty5b) rfl rfl ?_
      refine WL_pure (.int .i64 (IntKind.i64.wrap (a1_n - (IntKind.i64.wrap (0 - (([] : List UInt8).length : Int)))))) (R_mv rfl) rfl rfl ?_
      obtain ⟨hp7, h⟩ := h
      refine WL_eff rfl rfl (St_FZ (S_appZ hM0 rfl rfl Try.underlying32 Try.underlying3 ty5b rfl hp7.1 hp7.2) ?_)
      rintro v6 w6 hF6 hS6 hM6 hg6
      have hE6 := hE0.andN hS6
      have hf6 : ∀ g, ob v6 = some g → w0.heap.size ≤ g := fun g hg => Nat.le_trans hE0.size (hg6 g hg)
      refine WL_pure (.slice none 0 0) (R_mv rfl) rfl rfl ?_
      refine WL_pure (.int .i64 (([] : List UInt8).length : Int)) (R_len rfl (hR1.V.mono hS6.le) Try.underlying32) rfl rfl ?_
      refine WL_eff rfl rfl (St_FC (S_cut0 hM6 rfl hF6 rfl Try.underlying32 ty5b) ?_)
      rintro v8 w8 K8 (hO8 : Own Kd.byte 5 w8 K8 ([] : List UInt8) v8) hS8 hM8 hob8
      have hE8 := hE6.comp hS8 (fun c hx hlt => absurd hlt (Nat.not_lt.2 (hf6 c hx)))
      have hf8 : ∀ g, ob v8 = some g → w0.heap.size ≤ g := fun g hg => hf6 g (hob8 g hg)
      refine WL_pure v8 (R_as rfl) rfl rfl ?_
      refine WL_nil ?_
      refine WP_seq ?_
      refine WP_region ?_
      refine WL_pure v8 (R_mv rfl) rfl rfl ?_
      refine WL_pure v8 (R_as rfl) rfl rfl ?_
      refine WL_nil ?_
      refine WP_ret ?_
      exact endR_ret hR (v := v8) (resE_1 rfl rfl) ⟨K8, v8, ([] : List UInt8), rfl, h, hE8, hM8, hO8, hf8⟩
    · have hd4 : ¬ (0 < (IntKind.i64.wrap (a1_n - (IntKind.i64.wrap (0 - (([] : List UInt8).length : Int)))))) := dec_f hc4
      have h := h.2 hd4
      refine WP_skip ?_
      refine WP_seq ?_
      refine WP_region ?_
      refine WL_pure (.slice none 0 0) (R_mv rfl) rfl rfl ?_
      refine WL_pure (.slice none 0 0) (R_as rfl) rfl rfl ?_
      refine WL_nil ?_
      refine WP_ret ?_
      exact endR_ret hR (v := (.slice none 0 0)) (resE_1 rfl rfl) ⟨K0, (.slice none 0 0), ([] : List UInt8), rfl, h, hE0, hM0, hR1, (fun g hg => nilS hg)⟩
theorem Grow_c {w0 : World} {K0 : Ghost} {a1_n_v : Value} {a1_n : Int} (hM0 : Models w0 K0) (h_a1_n : (Kd.int .i64).V K0 a1_n a1_n_v) (hp : 0 ≤ a1_n ∧ a1_n ≤ 140737488355328) : Calls Try.prog 145 #[(.slice none 0 0), a1_n_v] w0 (fun e w' => ∃ (K' : Ghost) (r0 : Value), e = .returned r0 ∧ Ext NX w0 K0 w' K' ∧ Models w' K' ∧ Own Kd.byte 5 w' K' ([] : List UInt8) r0 ∧ (∀ g, ob r0 = some g → w0.heap.size ≤ g)) := by
  refine (Grow_walk hM0 h_a1_n (Grow_ok h_a1_n.wf hp)).mono ?_
  rintro _ w' ⟨K', r0, o0, rfl, rfl, hF⟩
  exact ⟨K', r0, rfl, hF⟩
def Concat_VC (a0_slices : (List (List UInt8))) (Q : (List UInt8) → Prop) : Prop :=
  ∃ (I3 : Int → Int → Prop) (μ3 : Int → Int → Nat), I3 0 0 ∧ ∀ (size3 : Int) (i3 : Int), I3 size3 i3 → ((Kd.int .i64).wf size3) → ((Kd.int .i64).wf i3) → (((i3 < (a0_slices.length : Int)) → (0 ≤ i3 ∧ i3 < (a0_slices.length : Int)) ∧ ((((IntKind.i64.wrap (size3 + ((ix a0_slices i3).length : Int))) < 0) → False) ∧ ((¬ ((IntKind.i64.wrap (size3 + ((ix a0_slices i3).length : Int))) < 0)) → I3 (IntKind.i64.wrap (size3 + ((ix a0_slices i3).length : Int))) (i3 + 1) ∧ μ3 (IntKind.i64.wrap (size3 + ((ix a0_slices i3).length : Int))) (i3 + 1) < μ3 size3 i3))) ∧ ((¬ (i3 < (a0_slices.length : Int))) → (0 ≤ size3 ∧ size3 ≤ 140737488355328) ∧ ((kd_l_u8.wf ([] : List UInt8)) → (∃ (I17 : (List UInt8) → Int → Prop) (μ17 : (List UInt8) → Int → Nat), I17 ([] : List UInt8) 0 ∧ ∀ (newslice17 : (List UInt8)) (i17 : Int), I17 newslice17 i17 → (kd_l_u8.wf newslice17) → ((Kd.int .i64).wf i17) → (((i17 < (a0_slices.length : Int)) → (0 ≤ i17 ∧ i17 < (a0_slices.length : Int)) ∧ (((newslice17.length + (ix a0_slices i17).length) * 1 ≤ 140737488355328) ∧ (I17 (newslice17 ++ (ix a0_slices i17)) (i17 + 1) ∧ μ17 (newslice17 ++ (ix a0_slices i17)) (i17 + 1) < μ17 newslice17 i17))) ∧ ((¬ (i17 < (a0_slices.length : Int))) → Q newslice17))))))
theorem Concat_ok {a0_slices : (List (List UInt8))} (w_0 : kd_l_l_u8.wf a0_slices) (hp : a0_slices.flatten.length ≤ 140737488355328) : Concat_VC a0_slices (fun o0 => o0 = a0_slices.flatten) := by
  have hst : ∀ j : Nat, (j : Int) < (a0_slices.length : Int) → (a0_slices.take j).flatten.length + (ix a0_slices (j : Int)).length ≤ 140737488355328 := fun j hj => by
    have h1 := flat_take (l := a0_slices) (j + 1)
    rw [flat_step hj, List.length_append] at h1
    omega
  unfold Concat_VC
  refine ⟨fun s i => ∃ j : Nat, i = (j : Int) ∧ j ≤ a0_slices.length ∧ s = ((a0_slices.take j).flatten.length : Int), fun _ i => a0_slices.length - i.toNat, ⟨0, rfl, by omega, by simp⟩, ?_⟩
  rintro s i ⟨j, rfl, hj, rfl⟩ _ _
  refine ⟨fun hlt => ⟨⟨by omega, hlt⟩, ?_⟩, fun hge => ?_⟩
  · have h1 := hst j hlt
    have e : IntKind.i64.wrap (((a0_slices.take j).flatten.length : Int) + ((ix a0_slices (j : Int)).length : Int)) = ((a0_slices.take (j + 1)).flatten.length : Int) := by
      rw [wrap_id (wf64 (by omega) (by omega)), flat_step hlt, List.length_append]
      omega
    rw [e]
    refine ⟨fun h => by omega, fun _ => ⟨⟨j + 1, by omega, by omega, rfl⟩, ?_⟩⟩
    show a0_slices.length - ((j : Int) + 1).toNat < a0_slices.length - (j : Int).toNat
    omega
  · have h1 := flat_take (l := a0_slices) j
    refine ⟨⟨by omega, by omega⟩, fun _ => ⟨fun out i => ∃ j : Nat, i = (j : Int) ∧ j ≤ a0_slices.length ∧ out = (a0_slices.take j).flatten, fun _ i => a0_slices.length - i.toNat, ⟨0, rfl, by omega, by simp⟩, ?_⟩⟩
    rintro out i ⟨m, rfl, hm, rfl⟩ _ _
    refine ⟨fun hlt => ⟨⟨by omega, hlt⟩, ?_, ⟨m + 1, by omega, by omega, (flat_step hlt).symm⟩, ?_⟩, fun hge => ?_⟩
    · have := hst m hlt
      omega
    · show a0_slices.length - ((m : Int) + 1).toNat < a0_slices.length - (m : Int).toNat
      omega
    · have : m = a0_slices.length := by omega
      subst this
      rw [List.take_length]

theorem Concat_walk {w0 : World} {K0 : Ghost} {a0_slices_v : Value} {a0_slices : (List (List UInt8))} {Q : (List UInt8) → Prop} (hM0 : Models w0 K0) (h_a0_slices : kd_l_l_u8.V K0 a0_slices a0_slices_v) (h : Concat_VC a0_slices Q) : Calls Try.prog 134 #[a0_slices_v] w0 (fun e w' => ∃ (K' : Ghost) (r0 : Value) (o0 : (List UInt8)), e = .returned r0 ∧ Q o0 ∧ Ext NX w0 K0 w' K' ∧ Models w' K' ∧ Own Kd.byte 5 w' K' o0 r0 ∧ (∀ g, ob r0 = some g → w0.heap.size ≤ g)) := by
  unfold Concat_VC at h
  have hE0 : Ext NX w0 K0 w0 K0 := Ext.refl _ _ _
  refine calls_gen fun R hR => ?_
  refine calls_env (args := [a0_slices_v]) Try.func134 rfl (Nat.le_of_ble_eq_true rfl) ?_
  refine WP_seq ?_
  refine WP_region ?_
  have hR2 : Own Kd.byte 5 w0 K0 ([] : List UInt8) (.slice none 0 0) := Own.nil
  refine WL_pure (.slice none 0 0) (R_as rfl) rfl rfl ?_
  refine WL_nil ?_
  refine WP_seq ?_
  refine WP_region ?_
  refine WL_pure (.int .i64 0) (R_as rfl) rfl rfl ?_
  refine WL_nil ?_
  refine WP_seq ?_
  refine WP_seq ?_
  refine WP_region ?_
  refine WL_pure a0_slices_v (R_mv rfl) rfl rfl ?_
  refine WL_pure (.int .i64 (a0_slices.length : Int)) (R_len rfl h_a0_slices Try.underlying96) rfl rfl ?_
  refine WL_pure (.int .i64 0) (R_mv rfl) rfl rfl ?_
  refine WL_nil ?_
  refine WP_block ?_
  obtain ⟨I3, μ3, h0, h⟩ := h
  refine WP_loopE (ι := Int × Int) [3, 5, 11, 12, 13, 14, 15, 16, 17, 18, 19, 20, 21, 22] (fun s l w => ∃ K, I3 s.1 s.2 ∧ l = [(3, (.int .i64 s.1)), (11, (.int .i64 s.2))] ∧ Ext NX w0 K0 w K ∧ Models w K ∧ (Kd.int .i64).wf s.1 ∧ (Kd.int .i64).wf s.2) (fun s => μ3 s.1 s.2) (0, 0) [(3, (.int .i64 0)), (11, (.int .i64 0))]
    ⟨K0, h0, rfl, Ext.refl _ _ _, hM0, (show (Kd.int .i64).wf 0 from by constructor <;> decide), (show (Kd.int .i64).wf 0 from by constructor <;> decide)⟩ (by repeat (first | exact trivial | refine ⟨rfl, ?_⟩)) ?_
  rintro ⟨size3, i3⟩ l σ3 w4 ⟨K4, hI, rfl, hX4, hM4, hw3_3, hw3_11⟩
  dsimp only at hI hw3_3 hw3_11
  have hE4 := hE0.andN hX4
  have h := h size3 i3 hI hw3_3 hw3_11
  refine WP_seq ?_
  refine WP_region ?_
  refine WL_pure (.bool (decide (i3 < (a0_slices.length : Int)))) (R_lss rfl rfl) rfl rfl ?_
  refine WL_nil ?_
  refine WP_seq ?_
  refine WP_cond (decide (i3 < (a0_slices.length : Int))) rfl (fun hc5 => ?_) (fun hc5 => ?_)
  · have hd5 : i3 < (a0_slices.length : Int) := dec_t hc5
    have h := h.1 hd5
    refine WP_skip ?_
    refine WP_seq ?_
    refine WP_block ?_
    refine WP_seq ?_
    refine WP_region ?_
    obtain ⟨hp7, h⟩ := h
    refine WL_P (S_ixs rfl (h_a0_slices.mono hX4.le) rfl Try.underlying96 ty32 hp7.1 hp7.2) rfl rfl ?_
    rintro b6 o6 hP6
    refine WL_L hM4 (S_ld rfl ty32 hP6) rfl rfl ?_
    rintro v9 (hV9 : kd_l_u8.V _ (ix a0_slices i3) _)
    refine WL_pure v9 (R_as rfl) rfl rfl ?_
    refine WL_nil ?_
    refine WP_seq ?_
    refine WP_region ?_
    refine WL_pure (.int .i64 size3) (R_mv rfl) rfl rfl ?_
    refine WL_pure v9 (R_mv rfl) rfl rfl ?_
    refine WL_pure (.int .i64 ((ix a0_slices i3).length : Int)) (R_len rfl hV9 Try.underlying32) rfl rfl ?_
    refine WL_pure (.int .i64 (IntKind.i64.wrap (size3 + ((ix a0_slices i3).length : Int)))) (R_add rfl rfl) rfl rfl ?_
    refine WL_pure (.int .i64 (IntKind.i64.wrap (size3 + ((ix a0_slices i3).length : Int)))) (R_as rfl) rfl rfl ?_
    refine WL_nil ?_
    refine WP_seq ?_
    refine WP_region ?_
    refine WL_pure (.int .i64 (IntKind.i64.wrap (size3 + ((ix a0_slices i3).length : Int)))) (R_mv rfl) rfl rfl ?_
    refine WL_pure (.bool (decide ((IntKind.i64.wrap (size3 + ((ix a0_slices i3).length : Int))) < 0))) (R_lss rfl rfl) rfl rfl ?_
    refine WL_nil ?_
    refine WP_cond (decide ((IntKind.i64.wrap (size3 + ((ix a0_slices i3).length : Int))) < 0)) rfl (fun hc11 => ?_) (fun hc11 => ?_)
    · have hd11 : (IntKind.i64.wrap (size3 + ((ix a0_slices i3).length : Int))) < 0 := dec_t hc11
      have h := h.1 hd11
      refine WP_region ?_
      exact h.elim
    · have hd11 : ¬ ((IntKind.i64.wrap (size3 + ((ix a0_slices i3).length : Int))) < 0) := dec_f hc11
      have h := h.2 hd11
      refine WP_skip ?_
      refine WP_region ?_
      refine WL_pure (.int .i64 (i3 + 1)) (R_inc rfl rfl hw3_11 hd5 (len_wf (h_a0_slices).wf.1)) rfl rfl ?_
      refine WL_pure (.int .i64 (i3 + 1)) (R_mv rfl) rfl rfl ?_
      refine WL_nil ?_
      refine BackQ.mk ((IntKind.i64.wrap (size3 + ((ix a0_slices i3).length : Int))), (i3 + 1)) [(3, (.int .i64 (IntKind.i64.wrap (size3 + ((ix a0_slices i3).length : Int))))), (11, (.int .i64 (i3 + 1)))] ?_ ?_ ?_ ?_
      rotate_left
      · exact h.2
      · repeat (first | exact Off.lay0 rfl | refine Off.updO ?_ rfl _ | refine Off.updN ?_ _ | refine Off.lay ?_ rfl)
      · repeat (first | exact trivial | refine ⟨rfl, ?_⟩)
      exact ⟨K4, h.1, rfl, ((Ext.refl _ _ _).andN hX4), hM4, (wrap_wf _ _), (inc_wf hw3_11 hd5 (len_wf (h_a0_slices).wf.1))⟩
  · have hd5 : ¬ (i3 < (a0_slices.length : Int)) := dec_f hc5
    have h := h.2 hd5
    refine WP_exit ?_
    refine WP_seq ?_
    refine WP_region ?_
    refine WL_pure (.int .i64 size3) (R_mv rfl) rfl rfl ?_
    have hR12 : Own Kd.byte 5 w4 K4 ([] : List UInt8) (.slice none 0 0) := Own.nil
    have hR13 := (hR2.extN hX4)
    obtain ⟨hp15, h⟩ := h
    refine WL_eff rfl rfl (St_call (R_call Try.call145 rfl) ((Grow_c hM4 (int_V hw3_3) hp15).mono ?_))
    rintro _ w14 ⟨K14, v14_0, rfl, hS14, hM14, hO14_0, hg14_0⟩
    refine ⟨v14_0, rfl, ?_⟩
    have hE14 := hE4.andN hS14
    have h := h hO14_0.wf
    refine WL_pure v14_0 (R_as rfl) rfl rfl ?_
    refine WL_nil ?_
    refine WP_seq ?_
    refine WP_seq ?_
    refine WP_region ?_
    refine WL_pure a0_slices_v (R_mv rfl) rfl rfl ?_
    refine WL_pure (.int .i64 (a0_slices.length : Int)) (R_len rfl (h_a0_slices.mono (hX4.le.trans hS14.le)) Try.underlying96) rfl rfl ?_
    refine WL_pure (.int .i64 0) (R_mv rfl) rfl rfl ?_
    refine WL_nil ?_
    refine WP_block ?_
    obtain ⟨I17, μ17, h0, h⟩ := h
    refine WP_loopE (ι := (List UInt8) × Int) [6, 8, 27, 28, 29, 30, 31, 32, 33, 34] (fun s l w => ∃ K u6, I17 s.1 s.2 ∧ l = [(6, u6), (27, (.int .i64 s.2))] ∧ Ext (fun c => ob v14_0 = some c) w14 K14 w K ∧ Models w K ∧ (Kd.int .i64).wf s.2 ∧ Own Kd.byte 5 w K s.1 u6 ∧ (∀ g, ob u6 = some g → ob v14_0 = some g ∨ w14.heap.size ≤ g)) (fun s => μ17 s.1 s.2) (([] : List UInt8), 0) [(6, v14_0), (27, (.int .i64 0))]
      ⟨K14, v14_0, h0, rfl, Ext.refl _ _ _, hM14, (show (Kd.int .i64).wf 0 from by constructor <;> decide), hO14_0, (fun g hg => (.inl hg))⟩ (by repeat (first | exact trivial | refine ⟨rfl, ?_⟩)) ?_
    rintro ⟨newslice17, i17⟩ l σ17 w18 ⟨K18, u6_17, hI, rfl, hX18, hM18, hw17_27, hL17_u6, ho17_u6⟩
    dsimp only at hI hw17_27 hL17_u6 ho17_u6
    have hE18 := hE14.comp hX18 (fun c hx hlt => (fun g hg hlt => absurd hlt (Nat.not_lt.2 ((fun g hg => Nat.le_trans hE4.size (hg14_0 g hg)) g hg))) c hx hlt)
    have hR19 := (hR13.extN hS14)
    have hR20 := (hR19.ext hX18 (fun g hg hx => (fun g hg hx => (fun g hg hx => absurd (hR13.lt _ hx) (Nat.not_lt.2 (hg14_0 g hg))) g hx hg) g hg hx))
    have hR21 := (hR12.extN hS14)
    have hR22 := (hR21.ext hX18 (fun g hg hx => (fun g hg hx => (fun g hg hx => absurd (hR12.lt _ hx) (Nat.not_lt.2 (hg14_0 g hg))) g hx hg) g hg hx))
    have hR23 := (hR13.extN hS14)
    have hR24 := (hR12.extN hS14)
    have h := h newslice17 i17 hI hL17_u6.wf hw17_27
    refine WP_seq ?_
    refine WP_region ?_
    refine WL_pure (.bool (decide (i17 < (a0_slices.length : Int)))) (R_lss rfl rfl) rfl rfl ?_
    refine WL_nil ?_
    refine WP_seq ?_
    refine WP_cond (decide (i17 < (a0_slices.length : Int))) rfl (fun hc25 => ?_) (fun hc25 => ?_)
    · have hd25 : i17 < (a0_slices.length : Int) := dec_t hc25
      have h := h.1 hd25
      refine WP_skip ?_
      refine WP_seq ?_
      refine WP_block ?_
      refine WP_seq ?_
      refine WP_region ?_
      obtain ⟨hp27, h⟩ := h
      refine WL_P (S_ixs rfl (h_a0_slices.mono (hX4.le.trans (hS14.le.trans hX18.le))) rfl Try.underlying96 ty32 hp27.1 hp27.2) rfl rfl ?_
      rintro b26 o26 hP26
      refine WL_L hM18 (S_ld rfl ty32 hP26) rfl rfl ?_
      rintro v29 (hV29 : kd_l_u8.V _ (ix a0_slices i17) _)
      refine WL_pure v29 (R_as rfl) rfl rfl ?_
      refine WL_nil ?_
      refine WP_region ?_
      refine WL_pure u6_17 (R_mv rfl) rfl rfl ?_
      refine WL_pure v29 (R_mv rfl) rfl rfl ?_
      obtain ⟨hp32, h⟩ := h
      refine WL_eff rfl rfl (St_S (S_app hM18 rfl hL17_u6 rfl hV29 Try.underlying32 ty5b rfl hp32) ?_)
      rintro v31 w31 K31 hO31 hS31 hM31 hob31
      have hE31 := hE18.comp hS31 (fun c hx hlt => (fun g hg hlt => absurd hlt (Nat.not_lt.2 ((fun g hg => (ho17_u6 g hg).elim (fun hx => (fun g hg => Nat.le_trans hE4.size (hg14_0 g hg)) g hx) (fun hx => Nat.le_trans hE14.size hx)) g hg))) c hx hlt)
      have hR33 := (hR20.ext hS31 (fun g hg hx => (fun g hg hx => (fun g hg hy => (ho17_u6 g hg).elim (fun hz => (fun g hg hx => absurd (hR13.lt _ hx) (Nat.not_lt.2 (hg14_0 g hg))) g hz hy) (fun hz => absurd (hR23.lt _ hy) (Nat.not_lt.2 hz))) g hx hg) g hg hx))
      have hR34 := (hR22.ext hS31 (fun g hg hx => (fun g hg hx => (fun g hg hy => (ho17_u6 g hg).elim (fun hz => (fun g hg hx => absurd (hR12.lt _ hx) (Nat.not_lt.2 (hg14_0 g hg))) g hz hy) (fun hz => absurd (hR24.lt _ hy) (Nat.not_lt.2 hz))) g hx hg) g hg hx))
      have hf31 : ∀ g, ob v31 = some g → w0.heap.size ≤ g := fun g hg => by rcases hob31 with hq | hq <;> rw [hq] at hg; exact (fun g hg => (ho17_u6 g hg).elim (fun hx => (fun g hg => Nat.le_trans hE4.size (hg14_0 g hg)) g hx) (fun hx => Nat.le_trans hE14.size hx)) g hg; cases hg; exact hE18.size
      refine WL_pure v31 (R_as rfl) rfl rfl ?_
      refine WL_nil ?_
      refine WP_region ?_
      refine WL_pure (.int .i64 (i17 + 1)) (R_inc rfl rfl hw17_27 hd25 (len_wf (h_a0_slices).wf.1)) rfl rfl ?_
      refine WL_pure (.int .i64 (i17 + 1)) (R_mv rfl) rfl rfl ?_
      refine WL_nil ?_
      refine BackQ.mk ((newslice17 ++ (ix a0_slices i17)), (i17 + 1)) [(6, v31), (27, (.int .i64 (i17 + 1)))] ?_ ?_ ?_ ?_
      rotate_left
      · exact h.2
      · repeat (first | exact Off.lay0 rfl | refine Off.updO ?_ rfl _ | refine Off.updN ?_ _ | refine Off.lay ?_ rfl)
      · repeat (first | exact trivial | refine ⟨rfl, ?_⟩)
      exact ⟨K31, v31, h.1, rfl, (((Ext.refl _ _ _).comp hX18 (fun c hx hlt => (hx))).comp hS31 (fun c hx hlt => ((((ho17_u6 c hx).elim (fun hz => (.inl hz)) (fun hz => .inr (Nat.le_trans (Nat.le_refl _) hz))) : ob v14_0 = some c ∨ w14.heap.size ≤ c).elim (fun hx => (hx)) (fun hz => absurd hlt (Nat.not_lt.2 hz))))), hM31, (inc_wf hw17_27 hd25 (len_wf (h_a0_slices).wf.1)), hO31, (fun g hg => (by have hg : ob v31 = some g := hg; rcases hob31 with hq | hq <;> rw [hq] at hg; exact ((ho17_u6 g hg).elim (fun hz => (.inl hz)) (fun hz => .inr (Nat.le_trans (Nat.le_refl _) hz))); cases hg; exact .inr hX18.size))⟩
    · have hd25 : ¬ (i17 < (a0_slices.length : Int)) := dec_f hc25
      have h := h.2 hd25
      refine WP_exit ?_
      refine WP_seq ?_
      refine WP_region ?_
      refine WL_pure u6_17 (R_mv rfl) rfl rfl ?_
      refine WL_pure u6_17 (R_as rfl) rfl rfl ?_
      refine WL_nil ?_
      refine WP_ret ?_
      exact endR_ret hR (v := u6_17) (resE_1 rfl rfl) ⟨K18, u6_17, newslice17, rfl, h, hE18, hM18, hL17_u6, (fun g hg => (ho17_u6 g hg).elim (fun hx => (fun g hg => Nat.le_trans hE4.size (hg14_0 g hg)) g hx) (fun hx => Nat.le_trans hE14.size hx))⟩
theorem Concat_c {w0 : World} {K0 : Ghost} {a0_slices_v : Value} {a0_slices : (List (List UInt8))} (hM0 : Models w0 K0) (h_a0_slices : kd_l_l_u8.V K0 a0_slices a0_slices_v) (hp : a0_slices.flatten.length ≤ 140737488355328) : Calls Try.prog 134 #[a0_slices_v] w0 (fun e w' => ∃ (K' : Ghost) (r0 : Value), e = .returned r0 ∧ Ext NX w0 K0 w' K' ∧ Models w' K' ∧ Own Kd.byte 5 w' K' a0_slices.flatten r0 ∧ (∀ g, ob r0 = some g → w0.heap.size ≤ g)) := by
  refine (Concat_walk hM0 h_a0_slices (Concat_ok h_a0_slices.wf hp)).mono ?_
  rintro _ w' ⟨K', r0, o0, rfl, rfl, hF⟩
  exact ⟨K', r0, rfl, hF⟩
end Go.Proofs.Ytmjjkpiglbpkhaa

/- Concat, out of the old form. -/
set_option linter.unusedVariables false
set_option maxRecDepth 100000
set_option maxHeartbeats 2000000
namespace Go.Proofs.Ytmjjkpiglbpkhaa
open Go Go.RowKit Go.Inc
noncomputable def Concat_C : Ctr := ⟨[.v (.sl (.sl .byte))], [.ow 5 .byte], some (fun a => (fun (a0_slices : List (List UInt8)) => (a0_slices.flatten.length ≤ 140737488355328 : Prop)) a.1), fun a => (fun (a0_slices : List (List UInt8)) => ((a0_slices.flatten, ()), (()))) a.1⟩
theorem Concat_k : Concat_C.valid Try.prog 134 := br_ow (k := .byte) (fun _ => rfl) fun a hp θ vs w K hM hv => by
  obtain ⟨v, vs, rfl, h1, h2⟩ := hv
  have h2' : vs = [] := h2
  subst h2'
  exact Concat_c hM (rel_out (t := .sl (.sl .byte)) h1 rfl) hp
end Go.Proofs.Ytmjjkpiglbpkhaa

/- Each function that stands here: what it is asked and leaves (_C), its condition (_VC), that it holds (_ok), its contract (_c). -/
set_option linter.unusedVariables false
set_option maxRecDepth 100000
set_option maxHeartbeats 20000000
namespace Go.Proofs.Ytmjjkpiglbpkhaa
open Go Go.RowKit Go.Inc
noncomputable def Clone_C : Ctr := ⟨[.v (.sl .byte)], [.ow 5 .byte], some (fun a => (fun (a0_s : List UInt8) => (a0_s.length ≤ 140737488355328 : Prop)) a.1), fun a => (fun (a0_s : List UInt8) => ((a0_s, ()), (()))) a.1⟩
noncomputable def Clone_X : Fx := ⟨seat, some bkT, fns, [], [], [], []⟩
def Clone_VC (a0_s : List UInt8) (Q : (List UInt8) → Prop) : Prop :=
  ∀ (x0 : Bool), (x0 = true → a0_s = ([] : List UInt8)) → (x0 = true → Q ([] : List UInt8)) ∧ (x0 = false → (([] : List UInt8).length + a0_s.length) * (1 : Nat) ≤ (140737488355328 : Nat) ∧ Q (([] : List UInt8) ++ a0_s))
theorem Clone_ok {a0_s : List UInt8} (w_0 : (Ty.kd (.sl .byte)).wf a0_s) (hp : a0_s.length ≤ 140737488355328) : Clone_VC a0_s (fun o0 => o0 = a0_s) := by
  unfold Clone_VC
  intro r hr
  refine ⟨fun h => ?_, fun _ => ⟨?_, rfl⟩⟩
  · rw [hr h]
  · simpa using hp
theorem Clone_eq : (∀ a, Clone_C.pre a → PM.wfP Clone_C.pm a (fvc Clone_X 200 69 Clone_C a (eqO Clone_C a))) = (∀ a : (List UInt8) × Unit, ((a.1).length ≤ 140737488355328) → (Ty.kd (.sl .byte)).wf a.1 → Clone_VC a.1 (fun o0 => o0 = (a.1))) := by kernel_rfl
theorem Clone_k : Clone_C.valid Try.prog 69 := ctr_of (X := Clone_X) (ok_of seat_ok (fun b hb => by cases hb; exact bkT_ok) fns_ok trivial) 200 (Clone_eq.mpr fun a hp w_0 => @Clone_ok a.1 w_0 hp)
noncomputable def Equal_C : Ctr := ⟨[.v (.sl .byte), .v (.sl .byte)], [.v .bool], none, fun a => (fun (a0_a : List UInt8) (a1_b : List UInt8) => ((decide (a0_a = a1_b), ()), (()))) a.1 a.2.1⟩
noncomputable def Equal_X : Fx := ⟨seat, some bkT, fns, [], [], [], []⟩
def Equal_VC (a0_a : List UInt8) (a1_b : List UInt8) (Q : Bool → Prop) : Prop :=
  Q (decide (a0_a = a1_b))
theorem Equal_ok {a0_a : List UInt8} {a1_b : List UInt8} (w_0 : (Ty.kd (.sl .byte)).wf a0_a) (w_1 : (Ty.kd (.sl .byte)).wf a1_b) : Equal_VC a0_a a1_b (fun o0 => o0 = decide (a0_a = a1_b)) := by
  exact rfl
theorem Equal_eq : (∀ a, Equal_C.pre a → PM.wfP Equal_C.pm a (fvc Equal_X 200 85 Equal_C a (eqO Equal_C a))) = (∀ a : (List UInt8) × (List UInt8) × Unit, True → (Ty.kd (.sl .byte)).wf a.1 → (Ty.kd (.sl .byte)).wf a.2.1 → Equal_VC a.1 a.2.1 (fun o0 => o0 = decide ((a.1) = (a.2.1)))) := by kernel_rfl
theorem Equal_k : Equal_C.valid Try.prog 85 := ctr_of (X := Equal_X) (ok_of seat_ok (fun b hb => by cases hb; exact bkT_ok) fns_ok trivial) 200 (Equal_eq.mpr fun a hp w_0 w_1 => @Equal_ok a.1 a.2.1 w_0 w_1)
noncomputable def Len64_C : Ctr := ⟨[.v (.int .u64)], [.v (.int .i64)], none, fun a => (fun (a0_x : Int) => (((blen a0_x.toNat : Int), ()), (()))) a.1⟩
noncomputable def Len64_X : Fx := ⟨seat, some bkT, fns, [], [], [], []⟩
def Len64_VC (a0_x : Int) (Q : Int → Prop) : Prop :=
  ((4294967296 : Int) ≤ a0_x → ((65536 : Int) ≤ shr IntKind.u64 a0_x (32 : Int) → ((256 : Int) ≤ shr IntKind.u64 (shr IntKind.u64 a0_x (32 : Int)) (16 : Int) → ((0 : Int) ≤ IntKind.u8.wrap (shr IntKind.u64 (shr IntKind.u64 (shr IntKind.u64 a0_x (32 : Int)) (16 : Int)) (8 : Int)) ∧ IntKind.u8.wrap (shr IntKind.u64 (shr IntKind.u64 (shr IntKind.u64 a0_x (32 : Int)) (16 : Int)) (8 : Int)) < (strc256_52136.length : Int)) ∧ Q (IntKind.i64.wrap (IntKind.i64.wrap (IntKind.i64.wrap ((32 : Int) + (16 : Int)) + (8 : Int)) + bI (ix strc256_52136 (IntKind.u8.wrap (shr IntKind.u64 (shr IntKind.u64 (shr IntKind.u64 a0_x (32 : Int)) (16 : Int)) (8 : Int))))))) ∧ (¬(256 : Int) ≤ shr IntKind.u64 (shr IntKind.u64 a0_x (32 : Int)) (16 : Int) → ((0 : Int) ≤ IntKind.u8.wrap (shr IntKind.u64 (shr IntKind.u64 a0_x (32 : Int)) (16 : Int)) ∧ IntKind.u8.wrap (shr IntKind.u64 (shr IntKind.u64 a0_x (32 : Int)) (16 : Int)) < (strc256_52136.length : Int)) ∧ Q (IntKind.i64.wrap (IntKind.i64.wrap ((32 : Int) + (16 : Int)) + bI (ix strc256_52136 (IntKind.u8.wrap (shr IntKind.u64 (shr IntKind.u64 a0_x (32 : Int)) (16 : Int)))))))) ∧ (¬(65536 : Int) ≤ shr IntKind.u64 a0_x (32 : Int) → ((256 : Int) ≤ shr IntKind.u64 a0_x (32 : Int) → ((0 : Int) ≤ IntKind.u8.wrap (shr IntKind.u64 (shr IntKind.u64 a0_x (32 : Int)) (8 : Int)) ∧ IntKind.u8.wrap (shr IntKind.u64 (shr IntKind.u64 a0_x (32 : Int)) (8 : Int)) < (strc256_52136.length : Int)) ∧ Q (IntKind.i64.wrap (IntKind.i64.wrap ((32 : Int) + (8 : Int)) + bI (ix strc256_52136 (IntKind.u8.wrap (shr IntKind.u64 (shr IntKind.u64 a0_x (32 : Int)) (8 : Int))))))) ∧ (¬(256 : Int) ≤ shr IntKind.u64 a0_x (32 : Int) → ((0 : Int) ≤ IntKind.u8.wrap (shr IntKind.u64 a0_x (32 : Int)) ∧ IntKind.u8.wrap (shr IntKind.u64 a0_x (32 : Int)) < (strc256_52136.length : Int)) ∧ Q (IntKind.i64.wrap ((32 : Int) + bI (ix strc256_52136 (IntKind.u8.wrap (shr IntKind.u64 a0_x (32 : Int))))))))) ∧ (¬(4294967296 : Int) ≤ a0_x → ((65536 : Int) ≤ a0_x → ((256 : Int) ≤ shr IntKind.u64 a0_x (16 : Int) → ((0 : Int) ≤ IntKind.u8.wrap (shr IntKind.u64 (shr IntKind.u64 a0_x (16 : Int)) (8 : Int)) ∧ IntKind.u8.wrap (shr IntKind.u64 (shr IntKind.u64 a0_x (16 : Int)) (8 : Int)) < (strc256_52136.length : Int)) ∧ Q (IntKind.i64.wrap (IntKind.i64.wrap (IntKind.i64.wrap ((0 : Int) + (16 : Int)) + (8 : Int)) + bI (ix strc256_52136 (IntKind.u8.wrap (shr IntKind.u64 (shr IntKind.u64 a0_x (16 : Int)) (8 : Int))))))) ∧ (¬(256 : Int) ≤ shr IntKind.u64 a0_x (16 : Int) → ((0 : Int) ≤ IntKind.u8.wrap (shr IntKind.u64 a0_x (16 : Int)) ∧ IntKind.u8.wrap (shr IntKind.u64 a0_x (16 : Int)) < (strc256_52136.length : Int)) ∧ Q (IntKind.i64.wrap (IntKind.i64.wrap ((0 : Int) + (16 : Int)) + bI (ix strc256_52136 (IntKind.u8.wrap (shr IntKind.u64 a0_x (16 : Int)))))))) ∧ (¬(65536 : Int) ≤ a0_x → ((256 : Int) ≤ a0_x → ((0 : Int) ≤ IntKind.u8.wrap (shr IntKind.u64 a0_x (8 : Int)) ∧ IntKind.u8.wrap (shr IntKind.u64 a0_x (8 : Int)) < (strc256_52136.length : Int)) ∧ Q (IntKind.i64.wrap (IntKind.i64.wrap ((0 : Int) + (8 : Int)) + bI (ix strc256_52136 (IntKind.u8.wrap (shr IntKind.u64 a0_x (8 : Int))))))) ∧ (¬(256 : Int) ≤ a0_x → ((0 : Int) ≤ IntKind.u8.wrap a0_x ∧ IntKind.u8.wrap a0_x < (strc256_52136.length : Int)) ∧ Q (IntKind.i64.wrap ((0 : Int) + bI (ix strc256_52136 (IntKind.u8.wrap a0_x)))))))
theorem Len64_ok {a0_x : Int} (w_0 : (Ty.kd (.int .u64)).wf a0_x) : Len64_VC a0_x (fun o0 => o0 = (blen a0_x.toNat : Int)) := by
  obtain ⟨n, rfl⟩ := Int.eq_ofNat_of_zero_le w_0.1
  have hn : n < 18446744073709551616 := by
    have h : ((n : Int)) ≤ (18446744073709551615 : Int) := w_0.2
    omega
  have ht : strc256_52136 = blen8 := by decide +kernel
  have s32 : ∀ m : Nat, shr .u64 (m : Int) 32 = ((m / 4294967296 : Nat) : Int) := fun m => shr_nat (k := 32) (by decide)
  have s16 : ∀ m : Nat, shr .u64 (m : Int) 16 = ((m / 65536 : Nat) : Int) := fun m => shr_nat (k := 16) (by decide)
  have s8 : ∀ m : Nat, shr .u64 (m : Int) 8 = ((m / 256 : Nat) : Int) := fun m => shr_nat (k := 8) (by decide)
  have b32 : ∀ m : Nat, 4294967296 ≤ m → blen m = 32 + blen (m / 4294967296) := fun m h => blen_shift 32 h
  have b16 : ∀ m : Nat, 65536 ≤ m → blen m = 16 + blen (m / 65536) := fun m h => blen_shift 16 h
  have b8 : ∀ m : Nat, 256 ≤ m → blen m = 8 + blen (m / 256) := fun m h => blen_shift 8 h
  unfold Len64_VC
  simp only [s32, s16, s8, Int.toNat_natCast]
  refine ⟨fun h1 => ⟨fun h2 => ⟨fun h3 => ?_, fun h3 => ?_⟩, fun h2 => ⟨fun h3 => ?_, fun h3 => ?_⟩⟩, fun h1 => ⟨fun h2 => ⟨fun h3 => ?_, fun h3 => ?_⟩, fun h2 => ⟨fun h3 => ?_, fun h3 => ?_⟩⟩⟩
  · exact len_leaf (k := 56) (by omega) (by omega) (by rw [b32 n (by omega), b16 _ (by omega), b8 _ (by omega)]; omega) (by decide) ht
  · exact len_leaf (k := 48) (by omega) (by omega) (by rw [b32 n (by omega), b16 _ (by omega)]; omega) (by decide) ht
  · exact len_leaf (k := 40) (by omega) (by omega) (by rw [b32 n (by omega), b8 _ (by omega)]; omega) (by decide) ht
  · exact len_leaf (k := 32) (by omega) (by omega) (by rw [b32 n (by omega)]) (by decide) ht
  · exact len_leaf (k := 24) (by omega) (by omega) (by rw [b16 n (by omega), b8 _ (by omega)]; omega) (by decide) ht
  · exact len_leaf (k := 16) (by omega) (by omega) (by rw [b16 n (by omega)]) (by decide) ht
  · exact len_leaf (k := 8) (by omega) (by omega) (by rw [b8 n (by omega)]) (by decide) ht
  · exact len_leaf (k := 0) (by omega) (by omega) (by omega) (by decide) ht
theorem Len64_eq : (∀ a, Len64_C.pre a → PM.wfP Len64_C.pm a (fvc Len64_X 200 108 Len64_C a (eqO Len64_C a))) = (∀ a : Int × Unit, True → (Ty.kd (.int .u64)).wf a.1 → Len64_VC a.1 (fun o0 => o0 = (blen (a.1).toNat : Int))) := by kernel_rfl
theorem Len64_k : Len64_C.valid Try.prog 108 := ctr_of (X := Len64_X) (ok_of seat_ok (fun b hb => by cases hb; exact bkT_ok) fns_ok trivial) 200 (Len64_eq.mpr fun a hp w_0 => @Len64_ok a.1 w_0)
noncomputable def Num_C : Ctr := ⟨[.v (.sl .byte), .v (.sl (.int .u64))], [.ow 5 .byte], some (fun a => (fun (a0_b : List UInt8) (a1_l : List Int) => (a0_b.length + 9 * a1_l.length ≤ 140737488355328 : Prop)) a.1 a.2.1), fun a => (fun (a0_b : List UInt8) (a1_l : List Int) => (((a0_b ++ numAll a1_l), ()), (()))) a.1 a.2.1⟩
noncomputable def Num_X : Fx := ⟨seat, some bkT, fns, [(69, Clone_C), (108, Len64_C)], [], [], []⟩
def Num_VC (a0_b : List UInt8) (a1_l : List Int) (Q : (List UInt8) → Prop) : Prop :=
  a0_b.length ≤ (140737488355328 : Nat) ∧ (Ty.byte.kd.sl.wf a0_b → ∃ (x0 : List UInt8 → Int → Prop), ∃ (x1 : List UInt8 → Int → Nat), x0 a0_b (0 : Int) ∧ ∀ (x2 : List UInt8) (x3 : Int), x0 x2 x3 → Ty.byte.kd.sl.wf x2 → (Kd.int IntKind.i64).wf x3 → (x3 < (a1_l.length : Int) → ((0 : Int) ≤ x3 ∧ x3 < (a1_l.length : Int)) ∧ ((Ty.int IntKind.i64).kd.wf (blen (ix a1_l x3).toNat : Int) → (x2.length + (toB (IntKind.u8.wrap (IntKind.i64.wrap ((IntKind.i64.wrap ((blen (ix a1_l x3).toNat : Int) + (7 : Int))).tdiv (8 : Int)))) :: ([] : List UInt8)).length) * (1 : Nat) ≤ (140737488355328 : Nat) ∧ ∃ (x9 : List UInt8 → Int → Prop), ∃ (x10 : List UInt8 → Int → Nat), x9 (x2 ++ toB (IntKind.u8.wrap (IntKind.i64.wrap ((IntKind.i64.wrap ((blen (ix a1_l x3).toNat : Int) + (7 : Int))).tdiv (8 : Int)))) :: ([] : List UInt8)) (IntKind.i64.wrap ((8 : Int) * IntKind.i64.wrap ((IntKind.i64.wrap ((blen (ix a1_l x3).toNat : Int) + (7 : Int))).tdiv (8 : Int)))) ∧ ∀ (x11 : List UInt8) (x12 : Int), x9 x11 x12 → Ty.byte.kd.sl.wf x11 → (Kd.int IntKind.i64).wf x12 → ((0 : Int) < x12 → (0 : Int) ≤ IntKind.i64.wrap (x12 - (8 : Int)) ∧ (x11.length + (toB (IntKind.u8.wrap (shr IntKind.u64 (ix a1_l x3) (IntKind.i64.wrap (x12 - (8 : Int))))) :: ([] : List UInt8)).length) * (1 : Nat) ≤ (140737488355328 : Nat) ∧ x9 (x11 ++ toB (IntKind.u8.wrap (shr IntKind.u64 (ix a1_l x3) (IntKind.i64.wrap (x12 - (8 : Int))))) :: ([] : List UInt8)) (IntKind.i64.wrap (x12 - (8 : Int))) ∧ x10 (x11 ++ toB (IntKind.u8.wrap (shr IntKind.u64 (ix a1_l x3) (IntKind.i64.wrap (x12 - (8 : Int))))) :: ([] : List UInt8)) (IntKind.i64.wrap (x12 - (8 : Int))) < x10 x11 x12) ∧ (¬(0 : Int) < x12 → x3 < (9223372036854775807 : Int) ∧ x0 x11 (x3 + (1 : Int)) ∧ x1 x11 (x3 + (1 : Int)) < x1 x2 x3))) ∧ (¬x3 < (a1_l.length : Int) → Q x2))
theorem Num_ok {a0_b : List UInt8} {a1_l : List Int} (w_0 : (Ty.kd (.sl .byte)).wf a0_b) (w_1 : (Ty.kd (.sl (.int .u64))).wf a1_l) (hp : a0_b.length + 9 * a1_l.length ≤ 140737488355328) : Num_VC a0_b a1_l (fun o0 => o0 = (a0_b ++ numAll a1_l)) := by
  have hw : ∀ x ∈ a1_l, ∃ n : Nat, x = (n : Int) ∧ n < 2 ^ 64 := fun x hx => by
    obtain ⟨n, rfl⟩ := Int.eq_ofNat_of_zero_le (w_1.2 x hx).1
    have h : ((n : Int)) ≤ (18446744073709551615 : Int) := (w_1.2 (n : Int) hx).2
    exact ⟨n, rfl, by omega⟩
  have hlen : ∀ j, j ≤ a1_l.length → (numAll (a1_l.take j)).length ≤ 9 * j := by
    intro j
    induction j with
    | zero => intro _; simp [numAll]
    | succ j ih =>
      intro hj
      have hlt : (j : Int) < (a1_l.length : Int) := by omega
      obtain ⟨n, hn, hb⟩ := hw _ (ix_mem (by omega) hlt)
      have h1 := numB_length hb
      have h2 := ih (by omega)
      rw [take_step hlt]
      unfold numAll at *
      rw [List.flatMap_append, List.length_append]
      simp only [List.flatMap_cons, List.flatMap_nil, List.append_nil, hn, Int.toNat_natCast]
      omega
  unfold Num_VC
  refine ⟨by omega, fun _ => ⟨fun out i => ∃ j : Nat, i = (j : Int) ∧ j ≤ a1_l.length ∧ out = a0_b ++ numAll (a1_l.take j), fun _ i => a1_l.length - i.toNat, ⟨0, rfl, by omega, by simp [numAll]⟩, ?_⟩⟩
  rintro out i ⟨j, rfl, hj, rfl⟩ _ hwi
  refine ⟨fun hlt => ⟨⟨by omega, hlt⟩, fun _ => ⟨?_, ?_⟩⟩, fun hge => ?_⟩
  · have := hlen j hj
    simp only [List.length_append, List.length_cons, List.length_nil]
    omega
  · obtain ⟨n, hn, hb⟩ := hw _ (ix_mem (by omega) hlt)
    have hbl := blen_lt 64 hb
    have hk := num_k hbl
    rw [hn]
    simp only [Int.toNat_natCast, hk]
    rw [u8_mod]
    generalize hkk : (blen n + 7) / 8 = k
    have hk8 : k ≤ 8 := by omega
    have hT : a0_b ++ numAll (a1_l.take (j + 1)) = a0_b ++ numAll (a1_l.take j) ++ [UInt8.ofNat k] ++ be n k := by
      rw [take_step hlt]
      simp [numAll, numB, hn, hkk]
    have hTl := hlen (j + 1) (by omega)
    have hTl2 : (a0_b ++ numAll (a1_l.take (j + 1))).length ≤ 140737488355328 := by
      rw [List.length_append]
      omega
    refine ⟨fun out at_ => ∃ m : Nat, m ≤ k ∧ at_ = ((8 * m : Nat) : Int) ∧ out ++ be n m = a0_b ++ numAll (a1_l.take (j + 1)), fun _ at_ => at_.toNat, ⟨k, Nat.le_refl _, ?_, hT.symm⟩, ?_⟩
    · rw [wrap_id (wf64 (by omega) (by omega))]
      omega
    · rintro out at_ ⟨m, hm, rfl, hout⟩ _ _
      refine ⟨fun hpos => ?_, fun hz => ?_⟩
      · obtain ⟨m, rfl⟩ : ∃ m', m = m' + 1 := ⟨m - 1, by omega⟩
        have e8 : IntKind.i64.wrap (((8 * (m + 1) : Nat) : Int) - 8) = ((8 * m : Nat) : Int) := by
          rw [wrap_id (wf64 (by omega) (by omega))]
          omega
        rw [e8, byte_at (by omega)]
        have hol := congrArg List.length hout
        simp only [List.length_append, be_length] at hol
        simp only [List.length_append] at hTl2
        refine ⟨by omega, ?_, ⟨m, by omega, rfl, ?_⟩, ?_⟩
        · simp only [List.length_cons, List.length_nil]
          omega
        · rw [← hout]
          simp [be]
        · show ((8 * m : Nat) : Int).toNat < ((8 * (m + 1) : Nat) : Int).toNat
          omega
      · have : m = 0 := by omega
        subst this
        have h2 := w_1.1
        unfold LM at h2
        refine ⟨by omega, ⟨j + 1, rfl, by omega, by simpa [be] using hout⟩, ?_⟩
        show a1_l.length - ((j + 1 : Nat) : Int).toNat < a1_l.length - (j : Int).toNat
        omega
  · have : j = a1_l.length := by omega
    subst this
    rw [List.take_length]
theorem Num_eq : (∀ a, Num_C.pre a → PM.wfP Num_C.pm a (fvc Num_X 200 62 Num_C a (eqO Num_C a))) = (∀ a : (List UInt8) × (List Int) × Unit, ((a.1).length + 9 * (a.2.1).length ≤ 140737488355328) → (Ty.kd (.sl .byte)).wf a.1 → (Ty.kd (.sl (.int .u64))).wf a.2.1 → Num_VC a.1 a.2.1 (fun o0 => o0 = ((a.1) ++ numAll (a.2.1)))) := by kernel_rfl
theorem Num_k : Num_C.valid Try.prog 62 := ctr_of (X := Num_X) (ok_of seat_ok (fun b hb => by cases hb; exact bkT_ok) fns_ok ⟨Clone_k, Len64_k, trivial⟩) 200 (Num_eq.mpr fun a hp w_0 w_1 => @Num_ok a.1 a.2.1 w_0 w_1 hp)
noncomputable def Blob_C : Ctr := ⟨[.v (.sl .byte), .v (.sl (.sl .byte))], [.ow 5 .byte], some (fun a => (fun (a0_b : List UInt8) (a1_l : List (List UInt8)) => (a0_b.length + blobRoom a1_l ≤ 140737488355328 : Prop)) a.1 a.2.1), fun a => (fun (a0_b : List UInt8) (a1_l : List (List UInt8)) => (((a0_b ++ blobAll a1_l), ()), (()))) a.1 a.2.1⟩
noncomputable def Blob_X : Fx := ⟨seat, some bkT, fns, [(69, Clone_C), (62, Num_C)], [], [], []⟩
def Blob_VC (a0_b : List UInt8) (a1_l : List (List UInt8)) (Q : (List UInt8) → Prop) : Prop :=
  a0_b.length ≤ (140737488355328 : Nat) ∧ (Ty.byte.kd.sl.wf a0_b → ∃ (x0 : List UInt8 → Int → Prop), ∃ (x1 : List UInt8 → Int → Nat), x0 a0_b (0 : Int) ∧ ∀ (x2 : List UInt8) (x3 : Int), x0 x2 x3 → Ty.byte.kd.sl.wf x2 → (Kd.int IntKind.i64).wf x3 → (x3 < (a1_l.length : Int) → ((0 : Int) ≤ x3 ∧ x3 < (a1_l.length : Int)) ∧ x2.length + (9 : Nat) * (IntKind.u64.wrap ((ix a1_l x3).length : Int) :: ([] : List Int)).length ≤ (140737488355328 : Nat) ∧ (Ty.byte.kd.sl.wf (x2 ++ numAll (IntKind.u64.wrap ((ix a1_l x3).length : Int) :: ([] : List Int))) → ((x2 ++ numAll (IntKind.u64.wrap ((ix a1_l x3).length : Int) :: ([] : List Int))).length + (ix a1_l x3).length) * (1 : Nat) ≤ (140737488355328 : Nat) ∧ x3 < (9223372036854775807 : Int) ∧ x0 (x2 ++ numAll (IntKind.u64.wrap ((ix a1_l x3).length : Int) :: ([] : List Int)) ++ ix a1_l x3) (x3 + (1 : Int)) ∧ x1 (x2 ++ numAll (IntKind.u64.wrap ((ix a1_l x3).length : Int) :: ([] : List Int)) ++ ix a1_l x3) (x3 + (1 : Int)) < x1 x2 x3)) ∧ (¬x3 < (a1_l.length : Int) → Q x2))
theorem Blob_ok {a0_b : List UInt8} {a1_l : List (List UInt8)} (w_0 : (Ty.kd (.sl .byte)).wf a0_b) (w_1 : (Ty.kd (.sl (.sl .byte))).wf a1_l) (hp : a0_b.length + blobRoom a1_l ≤ 140737488355328) : Blob_VC a0_b a1_l (fun o0 => o0 = (a0_b ++ blobAll a1_l)) := by
  have hw : ∀ x ∈ a1_l, x.length ≤ LM := fun x hx => (w_1.2 x hx).1
  unfold Blob_VC
  refine ⟨by omega, fun _ => ⟨fun out i => ∃ j : Nat, i = (j : Int) ∧ j ≤ a1_l.length ∧ out = a0_b ++ blobAll (a1_l.take j), fun _ i => a1_l.length - i.toNat, ⟨0, rfl, by omega, by simp [blobAll]⟩, ?_⟩⟩
  rintro out i ⟨j, rfl, hj, rfl⟩ _ _
  refine ⟨fun hlt => ⟨⟨by omega, hlt⟩, ?_, fun _ => ⟨?_, by have := w_1.1; unfold LM at this; omega, ?_, ?_⟩⟩, fun hge => ?_⟩
  · have h1 := blobAll_length (a1_l.take j) (fun y hy => by have := hw y (List.mem_of_mem_take hy); unfold LM at this; omega)
    have h2 := blobRoom_step hlt
    simp only [List.length_append, List.length_cons, List.length_nil]
    omega
  · have h1 := blobAll_length (a1_l.take j) (fun y hy => by have := hw y (List.mem_of_mem_take hy); unfold LM at this; omega)
    have h2 := blobRoom_step hlt
    have h3 := hw _ (ix_mem (by omega) hlt)
    have h4 : IntKind.u64.wrap ((ix a1_l (j : Int)).length : Int) = ((ix a1_l (j : Int)).length : Int) := wrap_id ⟨by show (0 : Int) ≤ _; omega, by unfold LM at h3; show _ ≤ (18446744073709551615 : Int); omega⟩
    have h5 := numB_length (n := (ix a1_l (j : Int)).length) (by unfold LM at h3; omega)
    rw [h4]
    simp only [List.length_append, numAll, List.flatMap_cons, List.flatMap_nil, List.append_nil, Int.toNat_natCast]
    omega
  · have h3 := hw _ (ix_mem (by omega) hlt)
    have h4 : IntKind.u64.wrap ((ix a1_l (j : Int)).length : Int) = ((ix a1_l (j : Int)).length : Int) := wrap_id ⟨by show (0 : Int) ≤ _; omega, by unfold LM at h3; show _ ≤ (18446744073709551615 : Int); omega⟩
    refine ⟨j + 1, by omega, by omega, ?_⟩
    rw [h4, take_step hlt]
    simp [blobAll, numAll]
  · show a1_l.length - ((j : Int) + 1).toNat < a1_l.length - (j : Int).toNat
    omega
  · have : j = a1_l.length := by omega
    subst this
    rw [List.take_length]
theorem Blob_eq : (∀ a, Blob_C.pre a → PM.wfP Blob_C.pm a (fvc Blob_X 200 95 Blob_C a (eqO Blob_C a))) = (∀ a : (List UInt8) × (List (List UInt8)) × Unit, ((a.1).length + blobRoom (a.2.1) ≤ 140737488355328) → (Ty.kd (.sl .byte)).wf a.1 → (Ty.kd (.sl (.sl .byte))).wf a.2.1 → Blob_VC a.1 a.2.1 (fun o0 => o0 = ((a.1) ++ blobAll (a.2.1)))) := by kernel_rfl
theorem Blob_k : Blob_C.valid Try.prog 95 := ctr_of (X := Blob_X) (ok_of seat_ok (fun b hb => by cases hb; exact bkT_ok) fns_ok ⟨Clone_k, Num_k, trivial⟩) 200 (Blob_eq.mpr fun a hp w_0 w_1 => @Blob_ok a.1 a.2.1 w_0 w_1 hp)
noncomputable def Preimage_C : Ctr := ⟨[.v (.int .i64), .v (.sl (.sl .byte))], [.ow 5 .byte], some (fun a => (fun (a0_kind : Int) (a1_parts : List (List UInt8)) => (1 + blobRoom a1_parts ≤ 140737488355328 : Prop)) a.1 a.2.1), fun a => (fun (a0_kind : Int) (a1_parts : List (List UInt8)) => (((preimage a0_kind a1_parts), ()), (()))) a.1 a.2.1⟩
noncomputable def Preimage_X : Fx := ⟨seat, some bkT, fns, [(95, Blob_C)], [], [], []⟩
def Preimage_VC (a0_kind : Int) (a1_parts : List (List UInt8)) (Q : (List UInt8) → Prop) : Prop :=
  (toB (IntKind.u8.wrap a0_kind) :: ([] : List UInt8)).length + blobRoom a1_parts ≤ (140737488355328 : Nat) ∧ (Ty.byte.kd.sl.wf (toB (IntKind.u8.wrap a0_kind) :: ([] : List UInt8) ++ blobAll a1_parts) → Q (toB (IntKind.u8.wrap a0_kind) :: ([] : List UInt8) ++ blobAll a1_parts))
theorem Preimage_ok {a0_kind : Int} {a1_parts : List (List UInt8)} (w_0 : (Ty.kd (.int .i64)).wf a0_kind) (w_1 : (Ty.kd (.sl (.sl .byte))).wf a1_parts) (hp : 1 + blobRoom a1_parts ≤ 140737488355328) : Preimage_VC a0_kind a1_parts (fun o0 => o0 = (preimage a0_kind a1_parts)) := by
  unfold Preimage_VC
  refine ⟨by simpa using hp, fun _ => rfl⟩
theorem Preimage_eq : (∀ a, Preimage_C.pre a → PM.wfP Preimage_C.pm a (fvc Preimage_X 200 98 Preimage_C a (eqO Preimage_C a))) = (∀ a : Int × (List (List UInt8)) × Unit, (1 + blobRoom (a.2.1) ≤ 140737488355328) → (Ty.kd (.int .i64)).wf a.1 → (Ty.kd (.sl (.sl .byte))).wf a.2.1 → Preimage_VC a.1 a.2.1 (fun o0 => o0 = (preimage (a.1) (a.2.1)))) := by kernel_rfl
theorem Preimage_k : Preimage_C.valid Try.prog 98 := ctr_of (X := Preimage_X) (ok_of seat_ok (fun b hb => by cases hb; exact bkT_ok) fns_ok ⟨Blob_k, trivial⟩) 200 (Preimage_eq.mpr fun a hp w_0 w_1 => @Preimage_ok a.1 a.2.1 w_0 w_1 hp)
noncomputable def New_C : Ctr := ⟨[], [.bx (.pr (.arr 8 (.int .u32)) (.pr (.int .u64) (.sl .byte)))], none, fun _ => ((((List.replicate 8 (0 : Int), (0 : Int), ([] : List UInt8)) : List Int × Int × List UInt8), ()), (()))⟩
noncomputable def New_X : Fx := ⟨seat, some bkT, fns, [], [], [], []⟩
def New_VC (Q : ((List Int) × Int × List UInt8) → Prop) : Prop :=
  Q ((Ty.arr (8 : Nat) (Ty.int IntKind.u32)).pr ((Ty.int IntKind.u64).pr Ty.byte.sl)).kd.z
theorem New_ok  : New_VC  (fun o0 => o0 = ((List.replicate 8 (0 : Int), (0 : Int), ([] : List UInt8)) : List Int × Int × List UInt8)) := by
  exact rfl
theorem New_eq : (∀ a, New_C.pre a → PM.wfP New_C.pm a (fvc New_X 200 123 New_C a (eqO New_C a))) = (∀ a : Unit, True → New_VC  (fun o0 => o0 = ((List.replicate 8 (0 : Int), (0 : Int), ([] : List UInt8)) : List Int × Int × List UInt8))) := by kernel_rfl
theorem New_k : New_C.valid Try.prog 123 := ctr_of (X := New_X) (ok_of seat_ok (fun b hb => by cases hb; exact bkT_ok) fns_ok trivial) 200 (New_eq.mpr fun a hp  => @New_ok )
noncomputable def high_C : Ctr := ⟨[.v (.int .u64)], [.ow 5 .byte], none, fun a => (fun (a0_x : Int) => (((be a0_x.toNat 8), ()), (()))) a.1⟩
noncomputable def high_X : Fx := ⟨seat, some bkT, fns, [], [], [], []⟩
def high_VC (a0_x : Int) (Q : (List UInt8) → Prop) : Prop :=
  ∃ (x0 : List UInt8 → Int → Prop), ∃ (x1 : List UInt8 → Int → Nat), x0 ([] : List UInt8) (56 : Int) ∧ ∀ (x2 : List UInt8) (x3 : Int), x0 x2 x3 → Ty.byte.kd.sl.wf x2 → (Kd.int IntKind.i64).wf x3 → ((0 : Int) ≤ x3 → (0 : Int) ≤ x3 ∧ (x2.length + (toB (IntKind.u8.wrap (shr IntKind.u64 a0_x x3)) :: ([] : List UInt8)).length) * (1 : Nat) ≤ (140737488355328 : Nat) ∧ x0 (x2 ++ toB (IntKind.u8.wrap (shr IntKind.u64 a0_x x3)) :: ([] : List UInt8)) (IntKind.i64.wrap (x3 - (8 : Int))) ∧ x1 (x2 ++ toB (IntKind.u8.wrap (shr IntKind.u64 a0_x x3)) :: ([] : List UInt8)) (IntKind.i64.wrap (x3 - (8 : Int))) < x1 x2 x3) ∧ (¬(0 : Int) ≤ x3 → Q x2)
theorem high_ok {a0_x : Int} (w_0 : (Ty.kd (.int .u64)).wf a0_x) : high_VC a0_x (fun o0 => o0 = (be a0_x.toNat 8)) := by
  obtain ⟨n, rfl⟩ := Int.eq_ofNat_of_zero_le w_0.1
  unfold high_VC
  rw [Int.toNat_natCast]
  refine ⟨fun b i => ∃ m : Nat, m ≤ 8 ∧ i = 8 * (m : Int) - 8 ∧ b ++ be n m = be n 8, fun _ i => (i + 8).toNat, ⟨8, by omega, by omega, rfl⟩, ?_⟩
  rintro b i ⟨m, hm, rfl, hb⟩ _ _
  have hbl := congrArg List.length hb
  simp only [List.length_append, be_length] at hbl
  refine ⟨fun h0 => ⟨h0, ?_, ?_, ?_⟩, fun h => ?_⟩
  · simp only [List.length_cons, List.length_nil]
    omega
  · obtain ⟨m, rfl⟩ : ∃ m', m = m' + 1 := ⟨m - 1, by omega⟩
    have e : 8 * ((m + 1 : Nat) : Int) - 8 = ((8 * m : Nat) : Int) := by omega
    rw [e, byte_at (by omega), wrap_id (wf64 (by omega) (by omega))]
    refine ⟨m, by omega, by omega, ?_⟩
    rw [← hb]
    simp [be]
  · rw [wrap_id (wf64 (by omega) (by omega))]
    show (8 * (m : Int) - 8 - 8 + 8).toNat < (8 * (m : Int) - 8 + 8).toNat
    omega
  · have : m = 0 := by omega
    subst this
    simpa [be] using hb
theorem high_eq : (∀ a, high_C.pre a → PM.wfP high_C.pm a (fvc high_X 200 139 high_C a (eqO high_C a))) = (∀ a : Int × Unit, True → (Ty.kd (.int .u64)).wf a.1 → high_VC a.1 (fun o0 => o0 = (be (a.1).toNat 8))) := by kernel_rfl
theorem high_k : high_C.valid Try.prog 139 := ctr_of (X := high_X) (ok_of seat_ok (fun b hb => by cases hb; exact bkT_ok) fns_ok trivial) 200 (high_eq.mpr fun a hp w_0 => @high_ok a.1 w_0)
noncomputable def first_C : Ctr := ⟨[], [.v (.arr 8 (.int .u32))], none, fun _ => ((shaH, ()), (()))⟩
noncomputable def first_X : Fx := ⟨seat, some bkT, fns, [], [], [], []⟩
def first_VC (Q : (List Int) → Prop) : Prop :=
  Q ((1779033703 : Int) :: (3144134277 : Int) :: (1013904242 : Int) :: (2773480762 : Int) :: (1359893119 : Int) :: (2600822924 : Int) :: (528734635 : Int) :: (1541459225 : Int) :: ([] : List Int))
theorem first_ok  : first_VC  (fun o0 => o0 = shaH) := by
  exact rfl
theorem first_eq : (∀ a, first_C.pre a → PM.wfP first_C.pm a (fvc first_X 200 135 first_C a (eqO first_C a))) = (∀ a : Unit, True → first_VC  (fun o0 => o0 = shaH)) := by kernel_rfl
theorem first_k : first_C.valid Try.prog 135 := ctr_of (X := first_X) (ok_of seat_ok (fun b hb => by cases hb; exact bkT_ok) fns_ok trivial) 200 (first_eq.mpr fun a hp  => @first_ok )
noncomputable def rounds_C : Ctr := ⟨[], [.v (.arr 64 (.int .u32))], none, fun _ => ((shaK, ()), (()))⟩
noncomputable def rounds_X : Fx := ⟨seat, some bkT, fns, [], [], [], []⟩
def rounds_VC (Q : (List Int) → Prop) : Prop :=
  Q ((1116352408 : Int) :: (1899447441 : Int) :: (3049323471 : Int) :: (3921009573 : Int) :: (961987163 : Int) :: (1508970993 : Int) :: (2453635748 : Int) :: (2870763221 : Int) :: (3624381080 : Int) :: (310598401 : Int) :: (607225278 : Int) :: (1426881987 : Int) :: (1925078388 : Int) :: (2162078206 : Int) :: (2614888103 : Int) :: (3248222580 : Int) :: (3835390401 : Int) :: (4022224774 : Int) :: (264347078 : Int) :: (604807628 : Int) :: (770255983 : Int) :: (1249150122 : Int) :: (1555081692 : Int) :: (1996064986 : Int) :: (2554220882 : Int) :: (2821834349 : Int) :: (2952996808 : Int) :: (3210313671 : Int) :: (3336571891 : Int) :: (3584528711 : Int) :: (113926993 : Int) :: (338241895 : Int) :: (666307205 : Int) :: (773529912 : Int) :: (1294757372 : Int) :: (1396182291 : Int) :: (1695183700 : Int) :: (1986661051 : Int) :: (2177026350 : Int) :: (2456956037 : Int) :: (2730485921 : Int) :: (2820302411 : Int) :: (3259730800 : Int) :: (3345764771 : Int) :: (3516065817 : Int) :: (3600352804 : Int) :: (4094571909 : Int) :: (275423344 : Int) :: (430227734 : Int) :: (506948616 : Int) :: (659060556 : Int) :: (883997877 : Int) :: (958139571 : Int) :: (1322822218 : Int) :: (1537002063 : Int) :: (1747873779 : Int) :: (1955562222 : Int) :: (2024104815 : Int) :: (2227730452 : Int) :: (2361852424 : Int) :: (2428436474 : Int) :: (2756734187 : Int) :: (3204031479 : Int) :: (3329325298 : Int) :: ([] : List Int))
theorem rounds_ok  : rounds_VC  (fun o0 => o0 = shaK) := by
  exact rfl
theorem rounds_eq : (∀ a, rounds_C.pre a → PM.wfP rounds_C.pm a (fvc rounds_X 200 147 rounds_C a (eqO rounds_C a))) = (∀ a : Unit, True → rounds_VC  (fun o0 => o0 = shaK)) := by kernel_rfl
theorem rounds_k : rounds_C.valid Try.prog 147 := ctr_of (X := rounds_X) (ok_of seat_ok (fun b hb => by cases hb; exact bkT_ok) fns_ok trivial) 200 (rounds_eq.mpr fun a hp  => @rounds_ok )
noncomputable def Rotl_C : Ctr := ⟨[.v (.int .u32), .v (.int .i64)], [.v (.int .u32)], none, fun a => (fun (a0_x : Int) (a1_k : Int) => (((rotl a0_x a1_k), ()), (()))) a.1 a.2.1⟩
noncomputable def Rotl_X : Fx := ⟨seat, some bkT, fns, [], [], [], []⟩
def Rotl_VC (a0_x : Int) (a1_k : Int) (Q : Int → Prop) : Prop :=
  Q (bor IntKind.u32 (shl IntKind.u32 a0_x (band IntKind.u64 (IntKind.u64.wrap a1_k) (31 : Int))) (shr IntKind.u32 a0_x (IntKind.u64.wrap ((32 : Int) - band IntKind.u64 (IntKind.u64.wrap a1_k) (31 : Int)))))
theorem Rotl_ok {a0_x : Int} {a1_k : Int} (w_0 : (Ty.kd (.int .u32)).wf a0_x) (w_1 : (Ty.kd (.int .i64)).wf a1_k) : Rotl_VC a0_x a1_k (fun o0 => o0 = (rotl a0_x a1_k)) := by
  exact rfl
theorem Rotl_eq : (∀ a, Rotl_C.pre a → PM.wfP Rotl_C.pm a (fvc Rotl_X 200 148 Rotl_C a (eqO Rotl_C a))) = (∀ a : Int × Int × Unit, True → (Ty.kd (.int .u32)).wf a.1 → (Ty.kd (.int .i64)).wf a.2.1 → Rotl_VC a.1 a.2.1 (fun o0 => o0 = (rotl (a.1) (a.2.1)))) := by kernel_rfl
theorem Rotl_k : Rotl_C.valid Try.prog 148 := ctr_of (X := Rotl_X) (ok_of seat_ok (fun b hb => by cases hb; exact bkT_ok) fns_ok trivial) 200 (Rotl_eq.mpr fun a hp w_0 w_1 => @Rotl_ok a.1 a.2.1 w_0 w_1)
noncomputable def turns_C : Ctr := ⟨[.v (.int .u32), .v (.sl (.int .i64))], [.v (.int .u32)], none, fun a => (fun (a0_x : Int) (a1_l : List Int) => (((turnsOf a0_x a1_l), ()), (()))) a.1 a.2.1⟩
noncomputable def turns_X : Fx := ⟨seat, some bkT, fns, [(148, Rotl_C)], [], [], []⟩
def turns_VC (a0_x : Int) (a1_l : List Int) (Q : Int → Prop) : Prop :=
  ∃ (x0 : Int → Int → Prop), ∃ (x1 : Int → Int → Nat), x0 (0 : Int) (0 : Int) ∧ ∀ (x2 x3 : Int), x0 x2 x3 → (Kd.int IntKind.u32).wf x2 → (Kd.int IntKind.i64).wf x3 → (x3 < (a1_l.length : Int) → ((0 : Int) ≤ x3 ∧ x3 < (a1_l.length : Int)) ∧ ((Ty.int IntKind.u32).kd.wf (rotl a0_x (IntKind.i64.wrap ((0 : Int) - ix a1_l x3))) → x3 < (9223372036854775807 : Int) ∧ x0 (bxor IntKind.u32 x2 (rotl a0_x (IntKind.i64.wrap ((0 : Int) - ix a1_l x3)))) (x3 + (1 : Int)) ∧ x1 (bxor IntKind.u32 x2 (rotl a0_x (IntKind.i64.wrap ((0 : Int) - ix a1_l x3)))) (x3 + (1 : Int)) < x1 x2 x3)) ∧ (¬x3 < (a1_l.length : Int) → Q x2)
theorem turns_ok {a0_x : Int} {a1_l : List Int} (w_0 : (Ty.kd (.int .u32)).wf a0_x) (w_1 : (Ty.kd (.sl (.int .i64))).wf a1_l) : turns_VC a0_x a1_l (fun o0 => o0 = (turnsOf a0_x a1_l)) := by
  unfold turns_VC
  refine ⟨fun s i => ∃ j : Nat, i = (j : Int) ∧ j ≤ a1_l.length ∧ s = turnsOf a0_x (a1_l.take j), fun _ i => a1_l.length - i.toNat, ⟨0, rfl, by omega, rfl⟩, ?_⟩
  rintro s i ⟨j, rfl, hj, rfl⟩ _ _
  refine ⟨fun hlt => ⟨⟨by omega, hlt⟩, fun _ => ⟨by have := w_1.1; unfold LM at this; omega, ⟨j + 1, by omega, by omega, ?_⟩, ?_⟩⟩, fun hge => ?_⟩
  · rw [take_step hlt]
    simp [turnsOf]
  · show a1_l.length - ((j : Int) + 1).toNat < a1_l.length - (j : Int).toNat
    omega
  · have : j = a1_l.length := by omega
    subst this
    rw [List.take_length]
theorem turns_eq : (∀ a, turns_C.pre a → PM.wfP turns_C.pm a (fvc turns_X 200 146 turns_C a (eqO turns_C a))) = (∀ a : Int × (List Int) × Unit, True → (Ty.kd (.int .u32)).wf a.1 → (Ty.kd (.sl (.int .i64))).wf a.2.1 → turns_VC a.1 a.2.1 (fun o0 => o0 = (turnsOf (a.1) (a.2.1)))) := by kernel_rfl
theorem turns_k : turns_C.valid Try.prog 146 := ctr_of (X := turns_X) (ok_of seat_ok (fun b hb => by cases hb; exact bkT_ok) fns_ok ⟨Rotl_k, trivial⟩) 200 (turns_eq.mpr fun a hp w_0 w_1 => @turns_ok a.1 a.2.1 w_0 w_1)
noncomputable def HLen_C : Ctr := ⟨[.bx (.pr (.arr 8 (.int .u32)) (.pr (.int .u64) (.sl .byte))) false], [.v (.int .u64)], none, fun a => (fun (a0_h : (List Int) × Int × List UInt8) => (((hLen a0_h), ()), (()))) a.1⟩
noncomputable def HLen_X : Fx := ⟨seat, some bkT, fns, [], [], [], [(3, [], [.o 0 2, .o 1 2, .o 2 2, .o 3 2, .o 4 2, .o 5 2, .o 6 2, .o 7 2, .o 8 2, .o 9 2, .o 10 2, .o 11 2, .o 12 2])]⟩
def HLen_VC (a0_h : (List Int) × Int × List UInt8) (Q : Int → Prop) : Prop :=
  Q (IntKind.u64.wrap (IntKind.u64.wrap ((64 : Int) * a0_h.snd.fst) + IntKind.u64.wrap (a0_h.snd.snd.length : Int)))
theorem HLen_ok {a0_h : (List Int) × Int × List UInt8} (w_0 : (Ty.kd (.pr (.arr 8 (.int .u32)) (.pr (.int .u64) (.sl .byte)))).wf a0_h) : HLen_VC a0_h (fun o0 => o0 = (hLen a0_h)) := by
  exact rfl
theorem HLen_eq : (∀ a, HLen_C.pre a → PM.wfP HLen_C.pm a (fvc HLen_X 200 138 HLen_C a (eqO HLen_C a))) = (∀ a : ((List Int) × Int × List UInt8) × Unit, True → (Ty.kd (.pr (.arr 8 (.int .u32)) (.pr (.int .u64) (.sl .byte)))).wf a.1 → HLen_VC a.1 (fun o0 => o0 = (hLen (a.1)))) := by kernel_rfl
theorem HLen_k : HLen_C.valid Try.prog 138 := ctr_of (X := HLen_X) (ok_of seat_ok (fun b hb => by cases hb; exact bkT_ok) fns_ok trivial) 200 (HLen_eq.mpr fun a hp w_0 => @HLen_ok a.1 w_0)
noncomputable def HCopy_C : Ctr := ⟨[.bx (.pr (.arr 8 (.int .u32)) (.pr (.int .u64) (.sl .byte))) false], [.bx (.pr (.arr 8 (.int .u32)) (.pr (.int .u64) (.sl .byte)))], some (fun a => (fun (a0_h : (List Int) × Int × List UInt8) => (a0_h.2.2.length ≤ 140737488355328 : Prop)) a.1), fun a => (fun (a0_h : (List Int) × Int × List UInt8) => ((a0_h, ()), (()))) a.1⟩
noncomputable def HCopy_X : Fx := ⟨seat, some bkT, fns, [(69, Clone_C)], [], [], []⟩
def HCopy_VC (a0_h : (List Int) × Int × List UInt8) (Q : ((List Int) × Int × List UInt8) → Prop) : Prop :=
  a0_h.snd.snd.length ≤ (140737488355328 : Nat) ∧ (Ty.byte.kd.sl.wf a0_h.snd.snd → Q (a0_h.fst, a0_h.snd.fst, a0_h.snd.snd))
theorem HCopy_ok {a0_h : (List Int) × Int × List UInt8} (w_0 : (Ty.kd (.pr (.arr 8 (.int .u32)) (.pr (.int .u64) (.sl .byte)))).wf a0_h) (hp : a0_h.2.2.length ≤ 140737488355328) : HCopy_VC a0_h (fun o0 => o0 = a0_h) := by
  exact ⟨hp, fun _ => rfl⟩
theorem HCopy_eq : (∀ a, HCopy_C.pre a → PM.wfP HCopy_C.pm a (fvc HCopy_X 200 137 HCopy_C a (eqO HCopy_C a))) = (∀ a : ((List Int) × Int × List UInt8) × Unit, ((a.1).2.2.length ≤ 140737488355328) → (Ty.kd (.pr (.arr 8 (.int .u32)) (.pr (.int .u64) (.sl .byte)))).wf a.1 → HCopy_VC a.1 (fun o0 => o0 = (a.1))) := by kernel_rfl
theorem HCopy_k : HCopy_C.valid Try.prog 137 := ctr_of (X := HCopy_X) (ok_of seat_ok (fun b hb => by cases hb; exact bkT_ok) fns_ok ⟨Clone_k, trivial⟩) 200 (HCopy_eq.mpr fun a hp w_0 => @HCopy_ok a.1 w_0 hp)
end Go.Proofs.Ytmjjkpiglbpkhaa

/- Each function that stands here: what it is asked and leaves (_C), its condition (_VC), that it holds (_ok), its contract (_c). -/
set_option linter.unusedVariables false
set_option maxRecDepth 100000
set_option maxHeartbeats 20000000
namespace Go.Proofs.Ytmjjkpiglbpkhaa
open Go Go.RowKit Go.Inc
noncomputable def take_C : Ctr := ⟨[.bx (.arr 8 (.int .u32)) true, .v (.sl .byte)], [], some (fun a => (fun (a0_s : List Int) (a1_b : List UInt8) => (a1_b.length = 64 : Prop)) a.1 a.2.1), fun a => (fun (a0_s : List Int) (a1_b : List UInt8) => ((()), ((takeW a0_s a1_b), ()))) a.1 a.2.1⟩
noncomputable def take_X : Fx := ⟨seat, some bkT, fns, [(146, turns_C), (147, rounds_C)], [], [(2, [1], []), (10, [2], []), (18, [0], [])], [(5, [1], [.o 0 2, .o 1 2, .o 2 2, .o 3 2, .o 4 2, .o 5 2, .o 6 2, .o 7 2, .o 8 2, .o 9 2, .o 10 2, .o 11 2, .o 12 2, .o 13 2, .o 14 2, .o 15 2, .o 16 2, .o 17 2, .o 18 2, .o 19 2, .o 20 2, .o 21 2, .o 22 2, .o 23 2, .o 24 2, .o 25 2, .o 26 2, .o 27 2, .o 28 2, .o 29 2, .o 30 2, .o 31 2, .o 32 2, .o 33 2, .o 34 2, .o 35 1]), (6, [1], [.o 0 2, .o 1 2, .o 2 2, .o 3 2, .o 4 2, .o 5 2, .o 6 2, .o 7 2, .o 8 2, .o 9 2, .o 10 2, .o 11 2, .o 12 2, .o 13 2, .o 16 2, .o 17 2, .o 18 2, .o 19 2, .o 20 2, .o 23 2, .o 24 2, .o 25 2, .o 26 2, .o 29 2, .o 30 2, .o 31 2, .o 32 2, .o 33 2, .par [14, 15, 21, 22, 27] (.alt 14 0 (.alt 15 0 (.one 21 2 (.one 22 2 (.one 27 0 .fin))) (.alt 27 0 (.one 15 0 (.one 21 2 (.one 22 2 .fin))) .fin)) (.alt 27 0 (.one 14 0 (.one 15 0 (.one 21 2 (.one 22 2 .fin)))) .fin)), .o 28 0, .o 34 2, .o 35 2, .o 36 2, .o 37 1]), (12, [], [.o 0 2, .o 1 2, .o 2 2, .o 3 2, .o 4 2, .o 5 2]), (13, [], [.o 0 2, .o 1 2, .o 2 2, .o 6 2, .o 7 2, .o 8 2, .o 9 2, .o 10 2, .o 11 2, .o 12 2, .o 13 2, .o 14 2, .o 15 2, .o 17 2, .o 19 2, .o 20 2, .o 21 2, .o 3 0, .o 4 0, .o 5 2, .o 16 2, .o 18 2, .o 22 2, .o 23 2]), (14, [], [.o 0 2, .o 3 2, .o 4 2, .o 5 2, .o 6 2, .o 7 2, .o 8 2, .o 9 2, .o 10 2, .o 11 2, .o 12 2, .o 13 2, .o 14 2, .o 15 2, .o 16 2, .o 17 2, .o 1 0, .o 2 0, .o 18 2, .o 19 2]), (20, [0], [.o 0 2, .o 1 2, .o 2 2, .o 3 2, .o 4 2, .o 5 2, .o 6 2, .o 7 2, .o 8 2, .o 9 2, .o 10 2, .o 11 1])]⟩
def take_VC (a0_s : List Int) (a1_b : List UInt8) (Q : (List Int) → Prop) : Prop :=
  ∃ (x0 : Int → List Int → Prop), ∃ (x1 : Int → List Int → Nat), x0 (0 : Int) (Ty.arr (64 : Nat) (Ty.int IntKind.u32)).kd.z ∧ ∀ (x2 : Int) (x3 : List Int), x0 x2 x3 → (Kd.int IntKind.i64).wf x2 → (Ty.arr (64 : Nat) (Ty.int IntKind.u32)).kd.wf x3 → (x2 < (64 : Int) → (x2 < (16 : Int) → ((0 : Int) ≤ IntKind.i64.wrap ((4 : Int) * x2) ∧ IntKind.i64.wrap ((4 : Int) * x2) < (a1_b.length : Int)) ∧ ((0 : Int) ≤ IntKind.i64.wrap (IntKind.i64.wrap ((4 : Int) * x2) + (1 : Int)) ∧ IntKind.i64.wrap (IntKind.i64.wrap ((4 : Int) * x2) + (1 : Int)) < (a1_b.length : Int)) ∧ ((0 : Int) ≤ IntKind.i64.wrap (IntKind.i64.wrap ((4 : Int) * x2) + (2 : Int)) ∧ IntKind.i64.wrap (IntKind.i64.wrap ((4 : Int) * x2) + (2 : Int)) < (a1_b.length : Int)) ∧ ((0 : Int) ≤ IntKind.i64.wrap (IntKind.i64.wrap ((4 : Int) * x2) + (3 : Int)) ∧ IntKind.i64.wrap (IntKind.i64.wrap ((4 : Int) * x2) + (3 : Int)) < (a1_b.length : Int)) ∧ ((0 : Int) ≤ x2 ∧ x2 < ((64 : Nat) : Int)) ∧ x2 < (9223372036854775807 : Int) ∧ x0 (x2 + (1 : Int)) (x3.set x2.toNat (bor IntKind.u32 (bor IntKind.u32 (bor IntKind.u32 (shl IntKind.u32 (bI (ix a1_b (IntKind.i64.wrap ((4 : Int) * x2)))) (24 : Int)) (shl IntKind.u32 (bI (ix a1_b (IntKind.i64.wrap (IntKind.i64.wrap ((4 : Int) * x2) + (1 : Int))))) (16 : Int))) (shl IntKind.u32 (bI (ix a1_b (IntKind.i64.wrap (IntKind.i64.wrap ((4 : Int) * x2) + (2 : Int))))) (8 : Int))) (bI (ix a1_b (IntKind.i64.wrap (IntKind.i64.wrap ((4 : Int) * x2) + (3 : Int))))))) ∧ x1 (x2 + (1 : Int)) (x3.set x2.toNat (bor IntKind.u32 (bor IntKind.u32 (bor IntKind.u32 (shl IntKind.u32 (bI (ix a1_b (IntKind.i64.wrap ((4 : Int) * x2)))) (24 : Int)) (shl IntKind.u32 (bI (ix a1_b (IntKind.i64.wrap (IntKind.i64.wrap ((4 : Int) * x2) + (1 : Int))))) (16 : Int))) (shl IntKind.u32 (bI (ix a1_b (IntKind.i64.wrap (IntKind.i64.wrap ((4 : Int) * x2) + (2 : Int))))) (8 : Int))) (bI (ix a1_b (IntKind.i64.wrap (IntKind.i64.wrap ((4 : Int) * x2) + (3 : Int))))))) < x1 x2 x3) ∧ (¬x2 < (16 : Int) → ((0 : Int) ≤ IntKind.i64.wrap (x2 - (16 : Int)) ∧ IntKind.i64.wrap (x2 - (16 : Int)) < ((64 : Nat) : Int)) ∧ ((0 : Int) ≤ IntKind.i64.wrap (x2 - (7 : Int)) ∧ IntKind.i64.wrap (x2 - (7 : Int)) < ((64 : Nat) : Int)) ∧ ((0 : Int) ≤ IntKind.i64.wrap (x2 - (15 : Int)) ∧ IntKind.i64.wrap (x2 - (15 : Int)) < ((64 : Nat) : Int)) ∧ ((0 : Int) ≤ IntKind.i64.wrap (x2 - (15 : Int)) ∧ IntKind.i64.wrap (x2 - (15 : Int)) < ((64 : Nat) : Int)) ∧ ((0 : Int) ≤ IntKind.i64.wrap (x2 - (2 : Int)) ∧ IntKind.i64.wrap (x2 - (2 : Int)) < ((64 : Nat) : Int)) ∧ ((0 : Int) ≤ IntKind.i64.wrap (x2 - (2 : Int)) ∧ IntKind.i64.wrap (x2 - (2 : Int)) < ((64 : Nat) : Int)) ∧ (((Ty.int IntKind.u32).kd.wf (turnsOf (ix x3 (IntKind.i64.wrap (x2 - (15 : Int)))) ((7 : Int) :: (18 : Int) :: ([] : List Int))) → (Ty.int IntKind.u32).kd.wf (turnsOf (ix x3 (IntKind.i64.wrap (x2 - (2 : Int)))) ((17 : Int) :: (19 : Int) :: ([] : List Int))) → ((0 : Int) ≤ x2 ∧ x2 < ((64 : Nat) : Int)) ∧ x2 < (9223372036854775807 : Int) ∧ x0 (x2 + (1 : Int)) (x3.set x2.toNat (IntKind.u32.wrap (IntKind.u32.wrap (IntKind.u32.wrap (ix x3 (IntKind.i64.wrap (x2 - (16 : Int))) + ix x3 (IntKind.i64.wrap (x2 - (7 : Int)))) + bxor IntKind.u32 (turnsOf (ix x3 (IntKind.i64.wrap (x2 - (15 : Int)))) ((7 : Int) :: (18 : Int) :: ([] : List Int))) (shr IntKind.u32 (ix x3 (IntKind.i64.wrap (x2 - (15 : Int)))) (3 : Int))) + bxor IntKind.u32 (turnsOf (ix x3 (IntKind.i64.wrap (x2 - (2 : Int)))) ((17 : Int) :: (19 : Int) :: ([] : List Int))) (shr IntKind.u32 (ix x3 (IntKind.i64.wrap (x2 - (2 : Int)))) (10 : Int))))) ∧ x1 (x2 + (1 : Int)) (x3.set x2.toNat (IntKind.u32.wrap (IntKind.u32.wrap (IntKind.u32.wrap (ix x3 (IntKind.i64.wrap (x2 - (16 : Int))) + ix x3 (IntKind.i64.wrap (x2 - (7 : Int)))) + bxor IntKind.u32 (turnsOf (ix x3 (IntKind.i64.wrap (x2 - (15 : Int)))) ((7 : Int) :: (18 : Int) :: ([] : List Int))) (shr IntKind.u32 (ix x3 (IntKind.i64.wrap (x2 - (15 : Int)))) (3 : Int))) + bxor IntKind.u32 (turnsOf (ix x3 (IntKind.i64.wrap (x2 - (2 : Int)))) ((17 : Int) :: (19 : Int) :: ([] : List Int))) (shr IntKind.u32 (ix x3 (IntKind.i64.wrap (x2 - (2 : Int)))) (10 : Int))))) < x1 x2 x3) ∧ ((Ty.int IntKind.u32).kd.wf (turnsOf (ix x3 (IntKind.i64.wrap (x2 - (15 : Int)))) ((7 : Int) :: (18 : Int) :: ([] : List Int))) → (Ty.int IntKind.u32).kd.wf (turnsOf (ix x3 (IntKind.i64.wrap (x2 - (2 : Int)))) ((17 : Int) :: (19 : Int) :: ([] : List Int))) → ((0 : Int) ≤ x2 ∧ x2 < ((64 : Nat) : Int)) ∧ x2 < (9223372036854775807 : Int) ∧ x0 (x2 + (1 : Int)) (x3.set x2.toNat (IntKind.u32.wrap (IntKind.u32.wrap (IntKind.u32.wrap (ix x3 (IntKind.i64.wrap (x2 - (16 : Int))) + ix x3 (IntKind.i64.wrap (x2 - (7 : Int)))) + bxor IntKind.u32 (turnsOf (ix x3 (IntKind.i64.wrap (x2 - (15 : Int)))) ((7 : Int) :: (18 : Int) :: ([] : List Int))) (shr IntKind.u32 (ix x3 (IntKind.i64.wrap (x2 - (15 : Int)))) (3 : Int))) + bxor IntKind.u32 (turnsOf (ix x3 (IntKind.i64.wrap (x2 - (2 : Int)))) ((17 : Int) :: (19 : Int) :: ([] : List Int))) (shr IntKind.u32 (ix x3 (IntKind.i64.wrap (x2 - (2 : Int)))) (10 : Int))))) ∧ x1 (x2 + (1 : Int)) (x3.set x2.toNat (IntKind.u32.wrap (IntKind.u32.wrap (IntKind.u32.wrap (ix x3 (IntKind.i64.wrap (x2 - (16 : Int))) + ix x3 (IntKind.i64.wrap (x2 - (7 : Int)))) + bxor IntKind.u32 (turnsOf (ix x3 (IntKind.i64.wrap (x2 - (15 : Int)))) ((7 : Int) :: (18 : Int) :: ([] : List Int))) (shr IntKind.u32 (ix x3 (IntKind.i64.wrap (x2 - (15 : Int)))) (3 : Int))) + bxor IntKind.u32 (turnsOf (ix x3 (IntKind.i64.wrap (x2 - (2 : Int)))) ((17 : Int) :: (19 : Int) :: ([] : List Int))) (shr IntKind.u32 (ix x3 (IntKind.i64.wrap (x2 - (2 : Int)))) (10 : Int))))) < x1 x2 x3) ∧ True) ∧ ((Ty.int IntKind.u32).kd.wf (turnsOf (ix x3 (IntKind.i64.wrap (x2 - (15 : Int)))) ((7 : Int) :: (18 : Int) :: ([] : List Int))) → (Ty.int IntKind.u32).kd.wf (turnsOf (ix x3 (IntKind.i64.wrap (x2 - (2 : Int)))) ((17 : Int) :: (19 : Int) :: ([] : List Int))) → ((0 : Int) ≤ x2 ∧ x2 < ((64 : Nat) : Int)) ∧ x2 < (9223372036854775807 : Int) ∧ x0 (x2 + (1 : Int)) (x3.set x2.toNat (IntKind.u32.wrap (IntKind.u32.wrap (IntKind.u32.wrap (ix x3 (IntKind.i64.wrap (x2 - (16 : Int))) + ix x3 (IntKind.i64.wrap (x2 - (7 : Int)))) + bxor IntKind.u32 (turnsOf (ix x3 (IntKind.i64.wrap (x2 - (15 : Int)))) ((7 : Int) :: (18 : Int) :: ([] : List Int))) (shr IntKind.u32 (ix x3 (IntKind.i64.wrap (x2 - (15 : Int)))) (3 : Int))) + bxor IntKind.u32 (turnsOf (ix x3 (IntKind.i64.wrap (x2 - (2 : Int)))) ((17 : Int) :: (19 : Int) :: ([] : List Int))) (shr IntKind.u32 (ix x3 (IntKind.i64.wrap (x2 - (2 : Int)))) (10 : Int))))) ∧ x1 (x2 + (1 : Int)) (x3.set x2.toNat (IntKind.u32.wrap (IntKind.u32.wrap (IntKind.u32.wrap (ix x3 (IntKind.i64.wrap (x2 - (16 : Int))) + ix x3 (IntKind.i64.wrap (x2 - (7 : Int)))) + bxor IntKind.u32 (turnsOf (ix x3 (IntKind.i64.wrap (x2 - (15 : Int)))) ((7 : Int) :: (18 : Int) :: ([] : List Int))) (shr IntKind.u32 (ix x3 (IntKind.i64.wrap (x2 - (15 : Int)))) (3 : Int))) + bxor IntKind.u32 (turnsOf (ix x3 (IntKind.i64.wrap (x2 - (2 : Int)))) ((17 : Int) :: (19 : Int) :: ([] : List Int))) (shr IntKind.u32 (ix x3 (IntKind.i64.wrap (x2 - (2 : Int)))) (10 : Int))))) < x1 x2 x3) ∧ True)) ∧ (¬x2 < (64 : Int) → (Ty.arr (64 : Nat) (Ty.int IntKind.u32)).kd.wf shaK → ∃ (x9 : Int → List Int → Prop), ∃ (x10 : Int → List Int → Nat), x9 (0 : Int) a0_s ∧ ∀ (x11 : Int) (x12 : List Int), x9 x11 x12 → (Kd.int IntKind.i64).wf x11 → (Ty.arr (8 : Nat) (Ty.int IntKind.u32)).kd.wf x12 → (x11 < (64 : Int) → ((0 : Int) ≤ x11 ∧ x11 < ((64 : Nat) : Int)) ∧ ((0 : Int) ≤ x11 ∧ x11 < ((64 : Nat) : Int)) ∧ ((Ty.int IntKind.u32).kd.wf (turnsOf (ix x12 (4 : Int)) ((6 : Int) :: (11 : Int) :: (25 : Int) :: ([] : List Int))) → (Ty.int IntKind.u32).kd.wf (turnsOf (ix x12 (0 : Int)) ((2 : Int) :: (13 : Int) :: (22 : Int) :: ([] : List Int))) → x11 < (9223372036854775807 : Int) ∧ x9 (x11 + (1 : Int)) (IntKind.u32.wrap (IntKind.u32.wrap (IntKind.u32.wrap (IntKind.u32.wrap (IntKind.u32.wrap (ix x12 (7 : Int) + turnsOf (ix x12 (4 : Int)) ((6 : Int) :: (11 : Int) :: (25 : Int) :: ([] : List Int))) + bxor IntKind.u32 (band IntKind.u32 (ix x12 (4 : Int)) (ix x12 (5 : Int))) (band IntKind.u32 (bxor IntKind.u32 (if IntKind.u32.signed = true then (-1 : Int) else IntKind.u32.max) (ix x12 (4 : Int))) (ix x12 (6 : Int)))) + ix shaK x11) + ix x3 x11) + IntKind.u32.wrap (turnsOf (ix x12 (0 : Int)) ((2 : Int) :: (13 : Int) :: (22 : Int) :: ([] : List Int)) + bxor IntKind.u32 (bxor IntKind.u32 (band IntKind.u32 (ix x12 (0 : Int)) (ix x12 (1 : Int))) (band IntKind.u32 (ix x12 (0 : Int)) (ix x12 (2 : Int)))) (band IntKind.u32 (ix x12 (1 : Int)) (ix x12 (2 : Int))))) :: ix x12 (0 : Int) :: ix x12 (1 : Int) :: ix x12 (2 : Int) :: IntKind.u32.wrap (ix x12 (3 : Int) + IntKind.u32.wrap (IntKind.u32.wrap (IntKind.u32.wrap (IntKind.u32.wrap (ix x12 (7 : Int) + turnsOf (ix x12 (4 : Int)) ((6 : Int) :: (11 : Int) :: (25 : Int) :: ([] : List Int))) + bxor IntKind.u32 (band IntKind.u32 (ix x12 (4 : Int)) (ix x12 (5 : Int))) (band IntKind.u32 (bxor IntKind.u32 (if IntKind.u32.signed = true then (-1 : Int) else IntKind.u32.max) (ix x12 (4 : Int))) (ix x12 (6 : Int)))) + ix shaK x11) + ix x3 x11)) :: ix x12 (4 : Int) :: ix x12 (5 : Int) :: ix x12 (6 : Int) :: ([] : List Int)) ∧ x10 (x11 + (1 : Int)) (IntKind.u32.wrap (IntKind.u32.wrap (IntKind.u32.wrap (IntKind.u32.wrap (IntKind.u32.wrap (ix x12 (7 : Int) + turnsOf (ix x12 (4 : Int)) ((6 : Int) :: (11 : Int) :: (25 : Int) :: ([] : List Int))) + bxor IntKind.u32 (band IntKind.u32 (ix x12 (4 : Int)) (ix x12 (5 : Int))) (band IntKind.u32 (bxor IntKind.u32 (if IntKind.u32.signed = true then (-1 : Int) else IntKind.u32.max) (ix x12 (4 : Int))) (ix x12 (6 : Int)))) + ix shaK x11) + ix x3 x11) + IntKind.u32.wrap (turnsOf (ix x12 (0 : Int)) ((2 : Int) :: (13 : Int) :: (22 : Int) :: ([] : List Int)) + bxor IntKind.u32 (bxor IntKind.u32 (band IntKind.u32 (ix x12 (0 : Int)) (ix x12 (1 : Int))) (band IntKind.u32 (ix x12 (0 : Int)) (ix x12 (2 : Int)))) (band IntKind.u32 (ix x12 (1 : Int)) (ix x12 (2 : Int))))) :: ix x12 (0 : Int) :: ix x12 (1 : Int) :: ix x12 (2 : Int) :: IntKind.u32.wrap (ix x12 (3 : Int) + IntKind.u32.wrap (IntKind.u32.wrap (IntKind.u32.wrap (IntKind.u32.wrap (ix x12 (7 : Int) + turnsOf (ix x12 (4 : Int)) ((6 : Int) :: (11 : Int) :: (25 : Int) :: ([] : List Int))) + bxor IntKind.u32 (band IntKind.u32 (ix x12 (4 : Int)) (ix x12 (5 : Int))) (band IntKind.u32 (bxor IntKind.u32 (if IntKind.u32.signed = true then (-1 : Int) else IntKind.u32.max) (ix x12 (4 : Int))) (ix x12 (6 : Int)))) + ix shaK x11) + ix x3 x11)) :: ix x12 (4 : Int) :: ix x12 (5 : Int) :: ix x12 (6 : Int) :: ([] : List Int)) < x10 x11 x12)) ∧ (¬x11 < (64 : Int) → ∃ (x17 : Int → List Int → Prop), ∃ (x18 : Int → List Int → Nat), x17 (0 : Int) a0_s ∧ ∀ (x19 : Int) (x20 : List Int), x17 x19 x20 → (Kd.int IntKind.i64).wf x19 → (Ty.arr (8 : Nat) (Ty.int IntKind.u32)).kd.wf x20 → (x19 < (8 : Int) → ((0 : Int) ≤ x19 ∧ x19 < ((8 : Nat) : Int)) ∧ ((0 : Int) ≤ x19 ∧ x19 < ((8 : Nat) : Int)) ∧ ((0 : Int) ≤ x19 ∧ x19 < ((8 : Nat) : Int)) ∧ x19 < (9223372036854775807 : Int) ∧ x17 (x19 + (1 : Int)) (x20.set x19.toNat (IntKind.u32.wrap (ix x20 x19 + ix x12 x19))) ∧ x18 (x19 + (1 : Int)) (x20.set x19.toNat (IntKind.u32.wrap (ix x20 x19 + ix x12 x19))) < x18 x19 x20) ∧ (¬x19 < (8 : Int) → Q x20)))
theorem take_ok {a0_s : List Int} {a1_b : List UInt8} (w_0 : (Ty.kd (.arr 8 (.int .u32))).wf a0_s) (w_1 : (Ty.kd (.sl .byte)).wf a1_b) (hp : a1_b.length = 64) : take_VC a0_s a1_b (fun o0 => o0 = (takeW a0_s a1_b)) := by
  have wr : ∀ a : Int, -1000 ≤ a → a ≤ 1000 → IntKind.i64.wrap a = a := fun a h1 h2 => wrap_id (wf64 (by omega) (by omega))
  unfold take_VC
  refine ⟨fun i w => ∃ n : Nat, i = (n : Int) ∧ n ≤ 64 ∧ w = wordsN a1_b n, fun i _ => 64 - i.toNat, ⟨0, rfl, by omega, rfl⟩, ?_⟩
  rintro i w ⟨n, rfl, hn, rfl⟩ _ _
  refine ⟨fun hlt => ⟨fun h16 => ?_, fun h16 => ?_⟩, fun hge _ => ?_⟩
  · rw [wr (4 * (n : Int)) (by omega) (by omega), wr (4 * (n : Int) + 1) (by omega) (by omega), wr (4 * (n : Int) + 2) (by omega) (by omega), wr (4 * (n : Int) + 3) (by omega) (by omega)]
    refine ⟨by omega, by omega, by omega, by omega, by omega, by omega, ⟨n + 1, by omega, by omega, ?_⟩, ?_⟩
    · simp only [wordsN, Int.toNat_natCast]
      rw [if_pos (by omega)]
      rfl
    · show 64 - ((n : Int) + 1).toNat < 64 - (n : Int).toNat
      omega
  · rw [wr ((n : Int) - 16) (by omega) (by omega), wr ((n : Int) - 7) (by omega) (by omega), wr ((n : Int) - 15) (by omega) (by omega), wr ((n : Int) - 2) (by omega) (by omega)]
    iterate 14 (all_goals (try intros); all_goals (try omega); all_goals (try (refine And.intro ?_ ?_)))
    all_goals first | trivial | omega | exact ⟨n + 1, by omega, by omega, by simp only [wordsN, Int.toNat_natCast]; rw [if_neg (by omega)]; rfl⟩ | (show 64 - ((n : Int) + 1).toNat < 64 - (n : Int).toNat; omega)
  · have : n = 64 := by omega
    subst this
    refine ⟨fun i x => ∃ n : Nat, i = (n : Int) ∧ n ≤ 64 ∧ x = roundsN (wordsN a1_b 64) a0_s n, fun i _ => 64 - i.toNat, ⟨0, rfl, by omega, rfl⟩, ?_⟩
    rintro i x ⟨n, rfl, hn, rfl⟩ _ _
    refine ⟨fun hlt => ?_, fun hge => ?_⟩
    · iterate 14 (all_goals (try intros); all_goals (try omega); all_goals (try (refine And.intro ?_ ?_)))
      all_goals first | trivial | omega | exact ⟨n + 1, by omega, by omega, rfl⟩ | (show 64 - ((n : Int) + 1).toNat < 64 - (n : Int).toNat; omega)
    · have : n = 64 := by omega
      subst this
      refine ⟨fun i s => ∃ n : Nat, i = (n : Int) ∧ n ≤ 8 ∧ s = addN a0_s (roundsN (wordsN a1_b 64) a0_s 64) n, fun i _ => 8 - i.toNat, ⟨0, rfl, by omega, rfl⟩, ?_⟩
      rintro i s ⟨n, rfl, hn, rfl⟩ _ _
      refine ⟨fun hlt => ?_, fun hge => ?_⟩
      · iterate 14 (all_goals (try intros); all_goals (try omega); all_goals (try (refine And.intro ?_ ?_)))
        all_goals first | trivial | omega | exact ⟨n + 1, by omega, by omega, by simp [addN]⟩ | (show 8 - ((n : Int) + 1).toNat < 8 - (n : Int).toNat; omega)
      · have : n = 8 := by omega
        subst this
        rfl
theorem take_eq : (∀ a, take_C.pre a → PM.wfP take_C.pm a (fvc take_X 200 136 take_C a (eqO take_C a))) = (∀ a : (List Int) × (List UInt8) × Unit, ((a.2.1).length = 64) → (Ty.kd (.arr 8 (.int .u32))).wf a.1 → (Ty.kd (.sl .byte)).wf a.2.1 → take_VC a.1 a.2.1 (fun o0 => o0 = (takeW (a.1) (a.2.1)))) := by kernel_rfl
theorem take_k : take_C.valid Try.prog 136 := ctr_of (X := take_X) (ok_of seat_ok (fun b hb => by cases hb; exact bkT_ok) fns_ok ⟨turns_k, rounds_k, trivial⟩) 200 (take_eq.mpr fun a hp w_0 w_1 => @take_ok a.1 a.2.1 w_0 w_1 hp)
end Go.Proofs.Ytmjjkpiglbpkhaa

/- Each function that stands here: what it is asked and leaves (_C), its condition (_VC), that it holds (_ok), its contract (_c). -/
set_option linter.unusedVariables false
set_option maxRecDepth 100000
set_option maxHeartbeats 20000000
namespace Go.Proofs.Ytmjjkpiglbpkhaa
open Go Go.RowKit Go.Inc
noncomputable def HWrite_C : Ctr := ⟨[.bx (.pr (.arr 8 (.int .u32)) (.pr (.int .u64) (.sl .byte))) true, .v (.sl (.sl .byte))], [], some (fun a => (fun (a0_h : (List Int) × Int × List UInt8) (a1_parts : List (List UInt8)) => ((1 + a1_parts.length) * 24 ≤ 140737488355328 ∧ (a0_h.2.2 ++ a1_parts.flatten).length ≤ 140737488355328 : Prop)) a.1 a.2.1), fun a => (fun (a0_h : (List Int) × Int × List UInt8) (a1_parts : List (List UInt8)) => ((()), ((hWrite a0_h a1_parts), ()))) a.1 a.2.1⟩
noncomputable def HWrite_X : Fx := ⟨seat, some bkT, fns, [(134, Concat_C), (135, first_C), (136, take_C)], [], [(2, [0], [])], [(6, [0, 1, 2, 3, 4, 5, 6, 7, 8, 9, 10, 11, 12], [.o 0 2, .o 1 2, .o 2 2, .o 3 2, .o 4 2, .o 5 2, .o 6 2, .o 7 2, .o 8 1])]⟩
def HWrite_VC (a0_h : (List Int) × Int × List UInt8) (a1_parts : List (List UInt8)) (Q : ((List Int) × Int × List UInt8) → Prop) : Prop :=
  ((a0_h.snd.snd :: ([] : List (List UInt8))).length + a1_parts.length) * (24 : Nat) ≤ (140737488355328 : Nat) ∧ (a0_h.snd.snd :: ([] : List (List UInt8)) ++ a1_parts).flatten.length ≤ (140737488355328 : Nat) ∧ (Ty.byte.kd.sl.wf (a0_h.snd.snd :: ([] : List (List UInt8)) ++ a1_parts).flatten → ∃ (x0 : List Int × Int × List UInt8 → Prop), ∃ (x1 : List Int × Int × List UInt8 → Nat), x0 (a0_h.fst, a0_h.snd.fst, (a0_h.snd.snd :: ([] : List (List UInt8)) ++ a1_parts).flatten) ∧ ∀ (x2 : List Int × Int × List UInt8), x0 x2 → ((Ty.arr (8 : Nat) (Ty.int IntKind.u32)).pr ((Ty.int IntKind.u64).pr Ty.byte.sl)).kd.wf x2 → ((64 : Int) ≤ (x2.snd.snd.length : Int) → (x2.snd.fst = (0 : Int) → (Ty.arr (8 : Nat) (Ty.int IntKind.u32)).kd.wf shaH → ((0 : Int) ≤ (64 : Int) ∧ (64 : Int) ≤ (x2.snd.snd.length : Int)) ∧ (List.take (Int.toNat (64 : Int)) x2.snd.snd).length = (64 : Nat) ∧ ((0 : Int) ≤ (64 : Int) ∧ (64 : Int) ≤ (x2.snd.snd.length : Int)) ∧ x0 (takeW shaH (List.take (Int.toNat (64 : Int)) x2.snd.snd), IntKind.u64.wrap (x2.snd.fst + (1 : Int)), List.drop (Int.toNat (64 : Int)) x2.snd.snd) ∧ x1 (takeW shaH (List.take (Int.toNat (64 : Int)) x2.snd.snd), IntKind.u64.wrap (x2.snd.fst + (1 : Int)), List.drop (Int.toNat (64 : Int)) x2.snd.snd) < x1 x2) ∧ (¬x2.snd.fst = (0 : Int) → ((0 : Int) ≤ (64 : Int) ∧ (64 : Int) ≤ (x2.snd.snd.length : Int)) ∧ (List.take (Int.toNat (64 : Int)) x2.snd.snd).length = (64 : Nat) ∧ ((0 : Int) ≤ (64 : Int) ∧ (64 : Int) ≤ (x2.snd.snd.length : Int)) ∧ x0 (takeW x2.fst (List.take (Int.toNat (64 : Int)) x2.snd.snd), IntKind.u64.wrap (x2.snd.fst + (1 : Int)), List.drop (Int.toNat (64 : Int)) x2.snd.snd) ∧ x1 (takeW x2.fst (List.take (Int.toNat (64 : Int)) x2.snd.snd), IntKind.u64.wrap (x2.snd.fst + (1 : Int)), List.drop (Int.toNat (64 : Int)) x2.snd.snd) < x1 x2)) ∧ (¬(64 : Int) ≤ (x2.snd.snd.length : Int) → Q x2))
theorem HWrite_ok {a0_h : (List Int) × Int × List UInt8} {a1_parts : List (List UInt8)} (w_0 : (Ty.kd (.pr (.arr 8 (.int .u32)) (.pr (.int .u64) (.sl .byte)))).wf a0_h) (w_1 : (Ty.kd (.sl (.sl .byte))).wf a1_parts) (hp : (1 + a1_parts.length) * 24 ≤ 140737488355328 ∧ (a0_h.2.2 ++ a1_parts.flatten).length ≤ 140737488355328) : HWrite_VC a0_h a1_parts (fun o0 => o0 = (hWrite a0_h a1_parts)) := by
  obtain ⟨h1, h2⟩ := hp
  unfold HWrite_VC
  refine ⟨by simp only [List.length_cons, List.length_nil]; omega, by simpa using h2, fun _ => ⟨fun b => eat b.1 b.2.1 b.2.2 = hWrite a0_h a1_parts, fun b => b.2.2.length, by simp [hWrite], ?_⟩⟩
  rintro ⟨s, n, r⟩ hI hwf
  refine ⟨fun h64 => ?_, fun h64 => ?_⟩
  · have hl : 64 ≤ r.length := by
      have h : (64 : Int) ≤ (r.length : Int) := h64
      omega
    have ht : (r.take 64).length = 64 := by rw [List.length_take]; omega
    have hd : (r.drop 64).length < r.length := by rw [List.length_drop]; omega
    dsimp only at hI ⊢
    rw [eat, if_pos hl] at hI
    refine ⟨fun h0 _ => ⟨⟨by omega, by omega⟩, ht, ⟨by omega, by omega⟩, ?_, hd⟩, fun h0 => ⟨⟨by omega, by omega⟩, ht, ⟨by omega, by omega⟩, ?_, hd⟩⟩
    · rw [if_pos h0] at hI
      exact hI
    · rw [if_neg h0] at hI
      exact hI
  · have hl : ¬ (64 ≤ r.length) := fun h => h64 (by show (64 : Int) ≤ (r.length : Int); omega)
    dsimp only at hI ⊢
    rw [eat, if_neg hl] at hI
    exact hI
theorem HWrite_eq : (∀ a, HWrite_C.pre a → PM.wfP HWrite_C.pm a (fvc HWrite_X 200 124 HWrite_C a (eqO HWrite_C a))) = (∀ a : ((List Int) × Int × List UInt8) × (List (List UInt8)) × Unit, ((1 + (a.2.1).length) * 24 ≤ 140737488355328 ∧ ((a.1).2.2 ++ (a.2.1).flatten).length ≤ 140737488355328) → (Ty.kd (.pr (.arr 8 (.int .u32)) (.pr (.int .u64) (.sl .byte)))).wf a.1 → (Ty.kd (.sl (.sl .byte))).wf a.2.1 → HWrite_VC a.1 a.2.1 (fun o0 => o0 = (hWrite (a.1) (a.2.1)))) := by kernel_rfl
theorem HWrite_k : HWrite_C.valid Try.prog 124 := ctr_of (X := HWrite_X) (ok_of seat_ok (fun b hb => by cases hb; exact bkT_ok) fns_ok ⟨Concat_k, first_k, take_k, trivial⟩) 200 (HWrite_eq.mpr fun a hp w_0 w_1 => @HWrite_ok a.1 a.2.1 w_0 w_1 hp)
noncomputable def HSum_C : Ctr := ⟨[.bx (.pr (.arr 8 (.int .u32)) (.pr (.int .u64) (.sl .byte))) false], [.v (.arr 32 .byte)], some (fun a => (fun (a0_h : (List Int) × Int × List UInt8) => (a0_h.2.2.length < 64 : Prop)) a.1), fun a => (fun (a0_h : (List Int) × Int × List UInt8) => (((hSum a0_h), ()), (()))) a.1⟩
noncomputable def HSum_X : Fx := ⟨seat, some bkT, fns, [(123, New_C), (137, HCopy_C), (138, HLen_C), (139, high_C), (124, HWrite_C)], [], [(8, [8], [])], [(5, [0, 1, 2, 3, 4, 5, 6, 7, 8, 9, 10, 11, 12], [.o 0 2, .o 2 2, .o 3 2, .o 4 2, .o 5 2, .o 6 2, .o 7 2, .o 8 2, .o 10 2, .o 11 2, .par [1, 9, 12] (.alt 1 0 (.alt 9 0 (.one 12 0 .fin) (.alt 12 0 (.one 9 0 .fin) .fin)) (.alt 9 0 (.alt 1 0 (.one 12 0 .fin) (.alt 12 0 (.one 1 0 .fin) .fin)) (.alt 12 0 (.alt 1 0 (.one 9 0 .fin) (.alt 9 0 (.one 1 0 .fin) .fin)) .fin))), .o 13 0, .o 14 1]), (10, [0, 1, 2, 3, 4, 5, 6, 7, 8, 9, 10, 11, 12], [.o 0 2, .o 1 2, .o 2 2, .o 3 2, .o 4 2, .o 5 0, .o 6 2, .o 7 1])]⟩
def HSum_VC (a0_h : (List Int) × Int × List UInt8) (Q : (List UInt8) → Prop) : Prop :=
  ((Ty.arr (8 : Nat) (Ty.int IntKind.u32)).pr ((Ty.int IntKind.u64).pr Ty.byte.sl)).kd.wf (List.replicate (8 : Nat) (0 : Int), (0 : Int), ([] : List UInt8)) → a0_h.snd.snd.length ≤ (140737488355328 : Nat) ∧ (((Ty.arr (8 : Nat) (Ty.int IntKind.u32)).pr ((Ty.int IntKind.u64).pr Ty.byte.sl)).kd.wf a0_h → (Ty.int IntKind.u64).kd.wf (hLen a0_h) → ((((0 : Int) ≤ (IntKind.i64.wrap ((119 : Int) - (a0_h.snd.snd.length : Int))).tmod (64 : Int) ∧ (IntKind.i64.wrap ((119 : Int) - (a0_h.snd.snd.length : Int))).tmod (64 : Int) ≤ (IntKind.i64.wrap ((119 : Int) - (a0_h.snd.snd.length : Int))).tmod (64 : Int) ∧ ((1 : Nat) : Int) * (IntKind.i64.wrap ((119 : Int) - (a0_h.snd.snd.length : Int))).tmod (64 : Int) ≤ (281474976710656 : Int) ∧ (IntKind.i64.wrap ((119 : Int) - (a0_h.snd.snd.length : Int))).tmod (64 : Int) ≤ (281474976710656 : Int)) ∧ (Ty.byte.kd.sl.wf (be (IntKind.u64.wrap ((8 : Int) * hLen a0_h)).toNat (8 : Nat)) → (((1 : Nat) + ((toB (128 : Int) :: ([] : List UInt8)) :: List.replicate ((IntKind.i64.wrap ((119 : Int) - (a0_h.snd.snd.length : Int))).tmod (64 : Int)).toNat Ty.byte.kd.z :: be (IntKind.u64.wrap ((8 : Int) * hLen a0_h)).toNat (8 : Nat) :: ([] : List (List UInt8))).length) * (24 : Nat) ≤ (140737488355328 : Nat) ∧ (a0_h.snd.snd ++ ((toB (128 : Int) :: ([] : List UInt8)) :: List.replicate ((IntKind.i64.wrap ((119 : Int) - (a0_h.snd.snd.length : Int))).tmod (64 : Int)).toNat Ty.byte.kd.z :: be (IntKind.u64.wrap ((8 : Int) * hLen a0_h)).toNat (8 : Nat) :: ([] : List (List UInt8))).flatten).length ≤ (140737488355328 : Nat)) ∧ ∃ (x0 : Int → List UInt8 → Prop), ∃ (x1 : Int → List UInt8 → Nat), x0 (0 : Int) (Ty.arr (32 : Nat) Ty.byte).kd.z ∧ ∀ (x2 : Int) (x3 : List UInt8), x0 x2 x3 → (Kd.int IntKind.i64).wf x2 → (Ty.arr (32 : Nat) Ty.byte).kd.wf x3 → (x2 < (8 : Int) → ((0 : Int) ≤ x2 ∧ x2 < ((8 : Nat) : Int)) ∧ ((0 : Int) ≤ IntKind.i64.wrap ((4 : Int) * x2) ∧ IntKind.i64.wrap ((4 : Int) * x2) ≤ ((32 : Nat) : Int) ∧ ((32 : Nat) : Int) ≤ ((32 : Nat) : Int) ∧ IntKind.i64.wrap ((4 : Int) * x2) < ((32 : Nat) : Int)) ∧ (Ty.byte.kd.sl.wf (be (ix (hWrite a0_h ((toB (128 : Int) :: ([] : List UInt8)) :: List.replicate ((IntKind.i64.wrap ((119 : Int) - (a0_h.snd.snd.length : Int))).tmod (64 : Int)).toNat Ty.byte.kd.z :: be (IntKind.u64.wrap ((8 : Int) * hLen a0_h)).toNat (8 : Nat) :: ([] : List (List UInt8)))).fst x2).toNat (8 : Nat)) → ((0 : Int) ≤ (4 : Int) ∧ (4 : Int) ≤ ((be (ix (hWrite a0_h ((toB (128 : Int) :: ([] : List UInt8)) :: List.replicate ((IntKind.i64.wrap ((119 : Int) - (a0_h.snd.snd.length : Int))).tmod (64 : Int)).toNat Ty.byte.kd.z :: be (IntKind.u64.wrap ((8 : Int) * hLen a0_h)).toNat (8 : Nat) :: ([] : List (List UInt8)))).fst x2).toNat (8 : Nat)).length : Int)) ∧ x2 < (9223372036854775807 : Int) ∧ x0 (x2 + (1 : Int)) (List.take (IntKind.i64.wrap ((4 : Int) * x2)).toNat x3 ++ List.take (((32 : Nat) : Int).toNat - (IntKind.i64.wrap ((4 : Int) * x2)).toNat) (List.drop (Int.toNat (4 : Int)) (be (ix (hWrite a0_h ((toB (128 : Int) :: ([] : List UInt8)) :: List.replicate ((IntKind.i64.wrap ((119 : Int) - (a0_h.snd.snd.length : Int))).tmod (64 : Int)).toNat Ty.byte.kd.z :: be (IntKind.u64.wrap ((8 : Int) * hLen a0_h)).toNat (8 : Nat) :: ([] : List (List UInt8)))).fst x2).toNat (8 : Nat))) ++ List.drop ((IntKind.i64.wrap ((4 : Int) * x2)).toNat + min (List.drop (Int.toNat (4 : Int)) (be (ix (hWrite a0_h ((toB (128 : Int) :: ([] : List UInt8)) :: List.replicate ((IntKind.i64.wrap ((119 : Int) - (a0_h.snd.snd.length : Int))).tmod (64 : Int)).toNat Ty.byte.kd.z :: be (IntKind.u64.wrap ((8 : Int) * hLen a0_h)).toNat (8 : Nat) :: ([] : List (List UInt8)))).fst x2).toNat (8 : Nat))).length (((32 : Nat) : Int).toNat - (IntKind.i64.wrap ((4 : Int) * x2)).toNat)) x3) ∧ x1 (x2 + (1 : Int)) (List.take (IntKind.i64.wrap ((4 : Int) * x2)).toNat x3 ++ List.take (((32 : Nat) : Int).toNat - (IntKind.i64.wrap ((4 : Int) * x2)).toNat) (List.drop (Int.toNat (4 : Int)) (be (ix (hWrite a0_h ((toB (128 : Int) :: ([] : List UInt8)) :: List.replicate ((IntKind.i64.wrap ((119 : Int) - (a0_h.snd.snd.length : Int))).tmod (64 : Int)).toNat Ty.byte.kd.z :: be (IntKind.u64.wrap ((8 : Int) * hLen a0_h)).toNat (8 : Nat) :: ([] : List (List UInt8)))).fst x2).toNat (8 : Nat))) ++ List.drop ((IntKind.i64.wrap ((4 : Int) * x2)).toNat + min (List.drop (Int.toNat (4 : Int)) (be (ix (hWrite a0_h ((toB (128 : Int) :: ([] : List UInt8)) :: List.replicate ((IntKind.i64.wrap ((119 : Int) - (a0_h.snd.snd.length : Int))).tmod (64 : Int)).toNat Ty.byte.kd.z :: be (IntKind.u64.wrap ((8 : Int) * hLen a0_h)).toNat (8 : Nat) :: ([] : List (List UInt8)))).fst x2).toNat (8 : Nat))).length (((32 : Nat) : Int).toNat - (IntKind.i64.wrap ((4 : Int) * x2)).toNat)) x3) < x1 x2 x3)) ∧ (¬x2 < (8 : Int) → Q x3))) ∧ (Ty.byte.kd.sl.wf (be (IntKind.u64.wrap ((8 : Int) * hLen a0_h)).toNat (8 : Nat)) → ((0 : Int) ≤ (IntKind.i64.wrap ((119 : Int) - (a0_h.snd.snd.length : Int))).tmod (64 : Int) ∧ (IntKind.i64.wrap ((119 : Int) - (a0_h.snd.snd.length : Int))).tmod (64 : Int) ≤ (IntKind.i64.wrap ((119 : Int) - (a0_h.snd.snd.length : Int))).tmod (64 : Int) ∧ ((1 : Nat) : Int) * (IntKind.i64.wrap ((119 : Int) - (a0_h.snd.snd.length : Int))).tmod (64 : Int) ≤ (281474976710656 : Int) ∧ (IntKind.i64.wrap ((119 : Int) - (a0_h.snd.snd.length : Int))).tmod (64 : Int) ≤ (281474976710656 : Int)) ∧ (((1 : Nat) + ((toB (128 : Int) :: ([] : List UInt8)) :: List.replicate ((IntKind.i64.wrap ((119 : Int) - (a0_h.snd.snd.length : Int))).tmod (64 : Int)).toNat Ty.byte.kd.z :: be (IntKind.u64.wrap ((8 : Int) * hLen a0_h)).toNat (8 : Nat) :: ([] : List (List UInt8))).length) * (24 : Nat) ≤ (140737488355328 : Nat) ∧ (a0_h.snd.snd ++ ((toB (128 : Int) :: ([] : List UInt8)) :: List.replicate ((IntKind.i64.wrap ((119 : Int) - (a0_h.snd.snd.length : Int))).tmod (64 : Int)).toNat Ty.byte.kd.z :: be (IntKind.u64.wrap ((8 : Int) * hLen a0_h)).toNat (8 : Nat) :: ([] : List (List UInt8))).flatten).length ≤ (140737488355328 : Nat)) ∧ ∃ (x0 : Int → List UInt8 → Prop), ∃ (x1 : Int → List UInt8 → Nat), x0 (0 : Int) (Ty.arr (32 : Nat) Ty.byte).kd.z ∧ ∀ (x2 : Int) (x3 : List UInt8), x0 x2 x3 → (Kd.int IntKind.i64).wf x2 → (Ty.arr (32 : Nat) Ty.byte).kd.wf x3 → (x2 < (8 : Int) → ((0 : Int) ≤ x2 ∧ x2 < ((8 : Nat) : Int)) ∧ ((0 : Int) ≤ IntKind.i64.wrap ((4 : Int) * x2) ∧ IntKind.i64.wrap ((4 : Int) * x2) ≤ ((32 : Nat) : Int) ∧ ((32 : Nat) : Int) ≤ ((32 : Nat) : Int) ∧ IntKind.i64.wrap ((4 : Int) * x2) < ((32 : Nat) : Int)) ∧ (Ty.byte.kd.sl.wf (be (ix (hWrite a0_h ((toB (128 : Int) :: ([] : List UInt8)) :: List.replicate ((IntKind.i64.wrap ((119 : Int) - (a0_h.snd.snd.length : Int))).tmod (64 : Int)).toNat Ty.byte.kd.z :: be (IntKind.u64.wrap ((8 : Int) * hLen a0_h)).toNat (8 : Nat) :: ([] : List (List UInt8)))).fst x2).toNat (8 : Nat)) → ((0 : Int) ≤ (4 : Int) ∧ (4 : Int) ≤ ((be (ix (hWrite a0_h ((toB (128 : Int) :: ([] : List UInt8)) :: List.replicate ((IntKind.i64.wrap ((119 : Int) - (a0_h.snd.snd.length : Int))).tmod (64 : Int)).toNat Ty.byte.kd.z :: be (IntKind.u64.wrap ((8 : Int) * hLen a0_h)).toNat (8 : Nat) :: ([] : List (List UInt8)))).fst x2).toNat (8 : Nat)).length : Int)) ∧ x2 < (9223372036854775807 : Int) ∧ x0 (x2 + (1 : Int)) (List.take (IntKind.i64.wrap ((4 : Int) * x2)).toNat x3 ++ List.take (((32 : Nat) : Int).toNat - (IntKind.i64.wrap ((4 : Int) * x2)).toNat) (List.drop (Int.toNat (4 : Int)) (be (ix (hWrite a0_h ((toB (128 : Int) :: ([] : List UInt8)) :: List.replicate ((IntKind.i64.wrap ((119 : Int) - (a0_h.snd.snd.length : Int))).tmod (64 : Int)).toNat Ty.byte.kd.z :: be (IntKind.u64.wrap ((8 : Int) * hLen a0_h)).toNat (8 : Nat) :: ([] : List (List UInt8)))).fst x2).toNat (8 : Nat))) ++ List.drop ((IntKind.i64.wrap ((4 : Int) * x2)).toNat + min (List.drop (Int.toNat (4 : Int)) (be (ix (hWrite a0_h ((toB (128 : Int) :: ([] : List UInt8)) :: List.replicate ((IntKind.i64.wrap ((119 : Int) - (a0_h.snd.snd.length : Int))).tmod (64 : Int)).toNat Ty.byte.kd.z :: be (IntKind.u64.wrap ((8 : Int) * hLen a0_h)).toNat (8 : Nat) :: ([] : List (List UInt8)))).fst x2).toNat (8 : Nat))).length (((32 : Nat) : Int).toNat - (IntKind.i64.wrap ((4 : Int) * x2)).toNat)) x3) ∧ x1 (x2 + (1 : Int)) (List.take (IntKind.i64.wrap ((4 : Int) * x2)).toNat x3 ++ List.take (((32 : Nat) : Int).toNat - (IntKind.i64.wrap ((4 : Int) * x2)).toNat) (List.drop (Int.toNat (4 : Int)) (be (ix (hWrite a0_h ((toB (128 : Int) :: ([] : List UInt8)) :: List.replicate ((IntKind.i64.wrap ((119 : Int) - (a0_h.snd.snd.length : Int))).tmod (64 : Int)).toNat Ty.byte.kd.z :: be (IntKind.u64.wrap ((8 : Int) * hLen a0_h)).toNat (8 : Nat) :: ([] : List (List UInt8)))).fst x2).toNat (8 : Nat))) ++ List.drop ((IntKind.i64.wrap ((4 : Int) * x2)).toNat + min (List.drop (Int.toNat (4 : Int)) (be (ix (hWrite a0_h ((toB (128 : Int) :: ([] : List UInt8)) :: List.replicate ((IntKind.i64.wrap ((119 : Int) - (a0_h.snd.snd.length : Int))).tmod (64 : Int)).toNat Ty.byte.kd.z :: be (IntKind.u64.wrap ((8 : Int) * hLen a0_h)).toNat (8 : Nat) :: ([] : List (List UInt8)))).fst x2).toNat (8 : Nat))).length (((32 : Nat) : Int).toNat - (IntKind.i64.wrap ((4 : Int) * x2)).toNat)) x3) < x1 x2 x3)) ∧ (¬x2 < (8 : Int) → Q x3)) ∧ True) ∧ (((0 : Int) ≤ (IntKind.i64.wrap ((119 : Int) - (a0_h.snd.snd.length : Int))).tmod (64 : Int) ∧ (IntKind.i64.wrap ((119 : Int) - (a0_h.snd.snd.length : Int))).tmod (64 : Int) ≤ (IntKind.i64.wrap ((119 : Int) - (a0_h.snd.snd.length : Int))).tmod (64 : Int) ∧ ((1 : Nat) : Int) * (IntKind.i64.wrap ((119 : Int) - (a0_h.snd.snd.length : Int))).tmod (64 : Int) ≤ (281474976710656 : Int) ∧ (IntKind.i64.wrap ((119 : Int) - (a0_h.snd.snd.length : Int))).tmod (64 : Int) ≤ (281474976710656 : Int)) ∧ (Ty.byte.kd.sl.wf (be (IntKind.u64.wrap ((8 : Int) * hLen a0_h)).toNat (8 : Nat)) → (((1 : Nat) + ((toB (128 : Int) :: ([] : List UInt8)) :: List.replicate ((IntKind.i64.wrap ((119 : Int) - (a0_h.snd.snd.length : Int))).tmod (64 : Int)).toNat Ty.byte.kd.z :: be (IntKind.u64.wrap ((8 : Int) * hLen a0_h)).toNat (8 : Nat) :: ([] : List (List UInt8))).length) * (24 : Nat) ≤ (140737488355328 : Nat) ∧ (a0_h.snd.snd ++ ((toB (128 : Int) :: ([] : List UInt8)) :: List.replicate ((IntKind.i64.wrap ((119 : Int) - (a0_h.snd.snd.length : Int))).tmod (64 : Int)).toNat Ty.byte.kd.z :: be (IntKind.u64.wrap ((8 : Int) * hLen a0_h)).toNat (8 : Nat) :: ([] : List (List UInt8))).flatten).length ≤ (140737488355328 : Nat)) ∧ ∃ (x0 : Int → List UInt8 → Prop), ∃ (x1 : Int → List UInt8 → Nat), x0 (0 : Int) (Ty.arr (32 : Nat) Ty.byte).kd.z ∧ ∀ (x2 : Int) (x3 : List UInt8), x0 x2 x3 → (Kd.int IntKind.i64).wf x2 → (Ty.arr (32 : Nat) Ty.byte).kd.wf x3 → (x2 < (8 : Int) → ((0 : Int) ≤ x2 ∧ x2 < ((8 : Nat) : Int)) ∧ ((0 : Int) ≤ IntKind.i64.wrap ((4 : Int) * x2) ∧ IntKind.i64.wrap ((4 : Int) * x2) ≤ ((32 : Nat) : Int) ∧ ((32 : Nat) : Int) ≤ ((32 : Nat) : Int) ∧ IntKind.i64.wrap ((4 : Int) * x2) < ((32 : Nat) : Int)) ∧ (Ty.byte.kd.sl.wf (be (ix (hWrite a0_h ((toB (128 : Int) :: ([] : List UInt8)) :: List.replicate ((IntKind.i64.wrap ((119 : Int) - (a0_h.snd.snd.length : Int))).tmod (64 : Int)).toNat Ty.byte.kd.z :: be (IntKind.u64.wrap ((8 : Int) * hLen a0_h)).toNat (8 : Nat) :: ([] : List (List UInt8)))).fst x2).toNat (8 : Nat)) → ((0 : Int) ≤ (4 : Int) ∧ (4 : Int) ≤ ((be (ix (hWrite a0_h ((toB (128 : Int) :: ([] : List UInt8)) :: List.replicate ((IntKind.i64.wrap ((119 : Int) - (a0_h.snd.snd.length : Int))).tmod (64 : Int)).toNat Ty.byte.kd.z :: be (IntKind.u64.wrap ((8 : Int) * hLen a0_h)).toNat (8 : Nat) :: ([] : List (List UInt8)))).fst x2).toNat (8 : Nat)).length : Int)) ∧ x2 < (9223372036854775807 : Int) ∧ x0 (x2 + (1 : Int)) (List.take (IntKind.i64.wrap ((4 : Int) * x2)).toNat x3 ++ List.take (((32 : Nat) : Int).toNat - (IntKind.i64.wrap ((4 : Int) * x2)).toNat) (List.drop (Int.toNat (4 : Int)) (be (ix (hWrite a0_h ((toB (128 : Int) :: ([] : List UInt8)) :: List.replicate ((IntKind.i64.wrap ((119 : Int) - (a0_h.snd.snd.length : Int))).tmod (64 : Int)).toNat Ty.byte.kd.z :: be (IntKind.u64.wrap ((8 : Int) * hLen a0_h)).toNat (8 : Nat) :: ([] : List (List UInt8)))).fst x2).toNat (8 : Nat))) ++ List.drop ((IntKind.i64.wrap ((4 : Int) * x2)).toNat + min (List.drop (Int.toNat (4 : Int)) (be (ix (hWrite a0_h ((toB (128 : Int) :: ([] : List UInt8)) :: List.replicate ((IntKind.i64.wrap ((119 : Int) - (a0_h.snd.snd.length : Int))).tmod (64 : Int)).toNat Ty.byte.kd.z :: be (IntKind.u64.wrap ((8 : Int) * hLen a0_h)).toNat (8 : Nat) :: ([] : List (List UInt8)))).fst x2).toNat (8 : Nat))).length (((32 : Nat) : Int).toNat - (IntKind.i64.wrap ((4 : Int) * x2)).toNat)) x3) ∧ x1 (x2 + (1 : Int)) (List.take (IntKind.i64.wrap ((4 : Int) * x2)).toNat x3 ++ List.take (((32 : Nat) : Int).toNat - (IntKind.i64.wrap ((4 : Int) * x2)).toNat) (List.drop (Int.toNat (4 : Int)) (be (ix (hWrite a0_h ((toB (128 : Int) :: ([] : List UInt8)) :: List.replicate ((IntKind.i64.wrap ((119 : Int) - (a0_h.snd.snd.length : Int))).tmod (64 : Int)).toNat Ty.byte.kd.z :: be (IntKind.u64.wrap ((8 : Int) * hLen a0_h)).toNat (8 : Nat) :: ([] : List (List UInt8)))).fst x2).toNat (8 : Nat))) ++ List.drop ((IntKind.i64.wrap ((4 : Int) * x2)).toNat + min (List.drop (Int.toNat (4 : Int)) (be (ix (hWrite a0_h ((toB (128 : Int) :: ([] : List UInt8)) :: List.replicate ((IntKind.i64.wrap ((119 : Int) - (a0_h.snd.snd.length : Int))).tmod (64 : Int)).toNat Ty.byte.kd.z :: be (IntKind.u64.wrap ((8 : Int) * hLen a0_h)).toNat (8 : Nat) :: ([] : List (List UInt8)))).fst x2).toNat (8 : Nat))).length (((32 : Nat) : Int).toNat - (IntKind.i64.wrap ((4 : Int) * x2)).toNat)) x3) < x1 x2 x3)) ∧ (¬x2 < (8 : Int) → Q x3)) ∧ (Ty.byte.kd.sl.wf (be (IntKind.u64.wrap ((8 : Int) * hLen a0_h)).toNat (8 : Nat)) → (((1 : Nat) + ((toB (128 : Int) :: ([] : List UInt8)) :: List.replicate ((IntKind.i64.wrap ((119 : Int) - (a0_h.snd.snd.length : Int))).tmod (64 : Int)).toNat Ty.byte.kd.z :: be (IntKind.u64.wrap ((8 : Int) * hLen a0_h)).toNat (8 : Nat) :: ([] : List (List UInt8))).length) * (24 : Nat) ≤ (140737488355328 : Nat) ∧ (a0_h.snd.snd ++ ((toB (128 : Int) :: ([] : List UInt8)) :: List.replicate ((IntKind.i64.wrap ((119 : Int) - (a0_h.snd.snd.length : Int))).tmod (64 : Int)).toNat Ty.byte.kd.z :: be (IntKind.u64.wrap ((8 : Int) * hLen a0_h)).toNat (8 : Nat) :: ([] : List (List UInt8))).flatten).length ≤ (140737488355328 : Nat)) ∧ ∃ (x0 : Int → List UInt8 → Prop), ∃ (x1 : Int → List UInt8 → Nat), x0 (0 : Int) (Ty.arr (32 : Nat) Ty.byte).kd.z ∧ ∀ (x2 : Int) (x3 : List UInt8), x0 x2 x3 → (Kd.int IntKind.i64).wf x2 → (Ty.arr (32 : Nat) Ty.byte).kd.wf x3 → (x2 < (8 : Int) → ((0 : Int) ≤ x2 ∧ x2 < ((8 : Nat) : Int)) ∧ ((0 : Int) ≤ IntKind.i64.wrap ((4 : Int) * x2) ∧ IntKind.i64.wrap ((4 : Int) * x2) ≤ ((32 : Nat) : Int) ∧ ((32 : Nat) : Int) ≤ ((32 : Nat) : Int) ∧ IntKind.i64.wrap ((4 : Int) * x2) < ((32 : Nat) : Int)) ∧ (Ty.byte.kd.sl.wf (be (ix (hWrite a0_h ((toB (128 : Int) :: ([] : List UInt8)) :: List.replicate ((IntKind.i64.wrap ((119 : Int) - (a0_h.snd.snd.length : Int))).tmod (64 : Int)).toNat Ty.byte.kd.z :: be (IntKind.u64.wrap ((8 : Int) * hLen a0_h)).toNat (8 : Nat) :: ([] : List (List UInt8)))).fst x2).toNat (8 : Nat)) → ((0 : Int) ≤ (4 : Int) ∧ (4 : Int) ≤ ((be (ix (hWrite a0_h ((toB (128 : Int) :: ([] : List UInt8)) :: List.replicate ((IntKind.i64.wrap ((119 : Int) - (a0_h.snd.snd.length : Int))).tmod (64 : Int)).toNat Ty.byte.kd.z :: be (IntKind.u64.wrap ((8 : Int) * hLen a0_h)).toNat (8 : Nat) :: ([] : List (List UInt8)))).fst x2).toNat (8 : Nat)).length : Int)) ∧ x2 < (9223372036854775807 : Int) ∧ x0 (x2 + (1 : Int)) (List.take (IntKind.i64.wrap ((4 : Int) * x2)).toNat x3 ++ List.take (((32 : Nat) : Int).toNat - (IntKind.i64.wrap ((4 : Int) * x2)).toNat) (List.drop (Int.toNat (4 : Int)) (be (ix (hWrite a0_h ((toB (128 : Int) :: ([] : List UInt8)) :: List.replicate ((IntKind.i64.wrap ((119 : Int) - (a0_h.snd.snd.length : Int))).tmod (64 : Int)).toNat Ty.byte.kd.z :: be (IntKind.u64.wrap ((8 : Int) * hLen a0_h)).toNat (8 : Nat) :: ([] : List (List UInt8)))).fst x2).toNat (8 : Nat))) ++ List.drop ((IntKind.i64.wrap ((4 : Int) * x2)).toNat + min (List.drop (Int.toNat (4 : Int)) (be (ix (hWrite a0_h ((toB (128 : Int) :: ([] : List UInt8)) :: List.replicate ((IntKind.i64.wrap ((119 : Int) - (a0_h.snd.snd.length : Int))).tmod (64 : Int)).toNat Ty.byte.kd.z :: be (IntKind.u64.wrap ((8 : Int) * hLen a0_h)).toNat (8 : Nat) :: ([] : List (List UInt8)))).fst x2).toNat (8 : Nat))).length (((32 : Nat) : Int).toNat - (IntKind.i64.wrap ((4 : Int) * x2)).toNat)) x3) ∧ x1 (x2 + (1 : Int)) (List.take (IntKind.i64.wrap ((4 : Int) * x2)).toNat x3 ++ List.take (((32 : Nat) : Int).toNat - (IntKind.i64.wrap ((4 : Int) * x2)).toNat) (List.drop (Int.toNat (4 : Int)) (be (ix (hWrite a0_h ((toB (128 : Int) :: ([] : List UInt8)) :: List.replicate ((IntKind.i64.wrap ((119 : Int) - (a0_h.snd.snd.length : Int))).tmod (64 : Int)).toNat Ty.byte.kd.z :: be (IntKind.u64.wrap ((8 : Int) * hLen a0_h)).toNat (8 : Nat) :: ([] : List (List UInt8)))).fst x2).toNat (8 : Nat))) ++ List.drop ((IntKind.i64.wrap ((4 : Int) * x2)).toNat + min (List.drop (Int.toNat (4 : Int)) (be (ix (hWrite a0_h ((toB (128 : Int) :: ([] : List UInt8)) :: List.replicate ((IntKind.i64.wrap ((119 : Int) - (a0_h.snd.snd.length : Int))).tmod (64 : Int)).toNat Ty.byte.kd.z :: be (IntKind.u64.wrap ((8 : Int) * hLen a0_h)).toNat (8 : Nat) :: ([] : List (List UInt8)))).fst x2).toNat (8 : Nat))).length (((32 : Nat) : Int).toNat - (IntKind.i64.wrap ((4 : Int) * x2)).toNat)) x3) < x1 x2 x3)) ∧ (¬x2 < (8 : Int) → Q x3)) ∧ True) ∧ (Ty.byte.kd.sl.wf (be (IntKind.u64.wrap ((8 : Int) * hLen a0_h)).toNat (8 : Nat)) → (((0 : Int) ≤ (IntKind.i64.wrap ((119 : Int) - (a0_h.snd.snd.length : Int))).tmod (64 : Int) ∧ (IntKind.i64.wrap ((119 : Int) - (a0_h.snd.snd.length : Int))).tmod (64 : Int) ≤ (IntKind.i64.wrap ((119 : Int) - (a0_h.snd.snd.length : Int))).tmod (64 : Int) ∧ ((1 : Nat) : Int) * (IntKind.i64.wrap ((119 : Int) - (a0_h.snd.snd.length : Int))).tmod (64 : Int) ≤ (281474976710656 : Int) ∧ (IntKind.i64.wrap ((119 : Int) - (a0_h.snd.snd.length : Int))).tmod (64 : Int) ≤ (281474976710656 : Int)) ∧ (((1 : Nat) + ((toB (128 : Int) :: ([] : List UInt8)) :: List.replicate ((IntKind.i64.wrap ((119 : Int) - (a0_h.snd.snd.length : Int))).tmod (64 : Int)).toNat Ty.byte.kd.z :: be (IntKind.u64.wrap ((8 : Int) * hLen a0_h)).toNat (8 : Nat) :: ([] : List (List UInt8))).length) * (24 : Nat) ≤ (140737488355328 : Nat) ∧ (a0_h.snd.snd ++ ((toB (128 : Int) :: ([] : List UInt8)) :: List.replicate ((IntKind.i64.wrap ((119 : Int) - (a0_h.snd.snd.length : Int))).tmod (64 : Int)).toNat Ty.byte.kd.z :: be (IntKind.u64.wrap ((8 : Int) * hLen a0_h)).toNat (8 : Nat) :: ([] : List (List UInt8))).flatten).length ≤ (140737488355328 : Nat)) ∧ ∃ (x0 : Int → List UInt8 → Prop), ∃ (x1 : Int → List UInt8 → Nat), x0 (0 : Int) (Ty.arr (32 : Nat) Ty.byte).kd.z ∧ ∀ (x2 : Int) (x3 : List UInt8), x0 x2 x3 → (Kd.int IntKind.i64).wf x2 → (Ty.arr (32 : Nat) Ty.byte).kd.wf x3 → (x2 < (8 : Int) → ((0 : Int) ≤ x2 ∧ x2 < ((8 : Nat) : Int)) ∧ ((0 : Int) ≤ IntKind.i64.wrap ((4 : Int) * x2) ∧ IntKind.i64.wrap ((4 : Int) * x2) ≤ ((32 : Nat) : Int) ∧ ((32 : Nat) : Int) ≤ ((32 : Nat) : Int) ∧ IntKind.i64.wrap ((4 : Int) * x2) < ((32 : Nat) : Int)) ∧ (Ty.byte.kd.sl.wf (be (ix (hWrite a0_h ((toB (128 : Int) :: ([] : List UInt8)) :: List.replicate ((IntKind.i64.wrap ((119 : Int) - (a0_h.snd.snd.length : Int))).tmod (64 : Int)).toNat Ty.byte.kd.z :: be (IntKind.u64.wrap ((8 : Int) * hLen a0_h)).toNat (8 : Nat) :: ([] : List (List UInt8)))).fst x2).toNat (8 : Nat)) → ((0 : Int) ≤ (4 : Int) ∧ (4 : Int) ≤ ((be (ix (hWrite a0_h ((toB (128 : Int) :: ([] : List UInt8)) :: List.replicate ((IntKind.i64.wrap ((119 : Int) - (a0_h.snd.snd.length : Int))).tmod (64 : Int)).toNat Ty.byte.kd.z :: be (IntKind.u64.wrap ((8 : Int) * hLen a0_h)).toNat (8 : Nat) :: ([] : List (List UInt8)))).fst x2).toNat (8 : Nat)).length : Int)) ∧ x2 < (9223372036854775807 : Int) ∧ x0 (x2 + (1 : Int)) (List.take (IntKind.i64.wrap ((4 : Int) * x2)).toNat x3 ++ List.take (((32 : Nat) : Int).toNat - (IntKind.i64.wrap ((4 : Int) * x2)).toNat) (List.drop (Int.toNat (4 : Int)) (be (ix (hWrite a0_h ((toB (128 : Int) :: ([] : List UInt8)) :: List.replicate ((IntKind.i64.wrap ((119 : Int) - (a0_h.snd.snd.length : Int))).tmod (64 : Int)).toNat Ty.byte.kd.z :: be (IntKind.u64.wrap ((8 : Int) * hLen a0_h)).toNat (8 : Nat) :: ([] : List (List UInt8)))).fst x2).toNat (8 : Nat))) ++ List.drop ((IntKind.i64.wrap ((4 : Int) * x2)).toNat + min (List.drop (Int.toNat (4 : Int)) (be (ix (hWrite a0_h ((toB (128 : Int) :: ([] : List UInt8)) :: List.replicate ((IntKind.i64.wrap ((119 : Int) - (a0_h.snd.snd.length : Int))).tmod (64 : Int)).toNat Ty.byte.kd.z :: be (IntKind.u64.wrap ((8 : Int) * hLen a0_h)).toNat (8 : Nat) :: ([] : List (List UInt8)))).fst x2).toNat (8 : Nat))).length (((32 : Nat) : Int).toNat - (IntKind.i64.wrap ((4 : Int) * x2)).toNat)) x3) ∧ x1 (x2 + (1 : Int)) (List.take (IntKind.i64.wrap ((4 : Int) * x2)).toNat x3 ++ List.take (((32 : Nat) : Int).toNat - (IntKind.i64.wrap ((4 : Int) * x2)).toNat) (List.drop (Int.toNat (4 : Int)) (be (ix (hWrite a0_h ((toB (128 : Int) :: ([] : List UInt8)) :: List.replicate ((IntKind.i64.wrap ((119 : Int) - (a0_h.snd.snd.length : Int))).tmod (64 : Int)).toNat Ty.byte.kd.z :: be (IntKind.u64.wrap ((8 : Int) * hLen a0_h)).toNat (8 : Nat) :: ([] : List (List UInt8)))).fst x2).toNat (8 : Nat))) ++ List.drop ((IntKind.i64.wrap ((4 : Int) * x2)).toNat + min (List.drop (Int.toNat (4 : Int)) (be (ix (hWrite a0_h ((toB (128 : Int) :: ([] : List UInt8)) :: List.replicate ((IntKind.i64.wrap ((119 : Int) - (a0_h.snd.snd.length : Int))).tmod (64 : Int)).toNat Ty.byte.kd.z :: be (IntKind.u64.wrap ((8 : Int) * hLen a0_h)).toNat (8 : Nat) :: ([] : List (List UInt8)))).fst x2).toNat (8 : Nat))).length (((32 : Nat) : Int).toNat - (IntKind.i64.wrap ((4 : Int) * x2)).toNat)) x3) < x1 x2 x3)) ∧ (¬x2 < (8 : Int) → Q x3)) ∧ (((0 : Int) ≤ (IntKind.i64.wrap ((119 : Int) - (a0_h.snd.snd.length : Int))).tmod (64 : Int) ∧ (IntKind.i64.wrap ((119 : Int) - (a0_h.snd.snd.length : Int))).tmod (64 : Int) ≤ (IntKind.i64.wrap ((119 : Int) - (a0_h.snd.snd.length : Int))).tmod (64 : Int) ∧ ((1 : Nat) : Int) * (IntKind.i64.wrap ((119 : Int) - (a0_h.snd.snd.length : Int))).tmod (64 : Int) ≤ (281474976710656 : Int) ∧ (IntKind.i64.wrap ((119 : Int) - (a0_h.snd.snd.length : Int))).tmod (64 : Int) ≤ (281474976710656 : Int)) ∧ (((1 : Nat) + ((toB (128 : Int) :: ([] : List UInt8)) :: List.replicate ((IntKind.i64.wrap ((119 : Int) - (a0_h.snd.snd.length : Int))).tmod (64 : Int)).toNat Ty.byte.kd.z :: be (IntKind.u64.wrap ((8 : Int) * hLen a0_h)).toNat (8 : Nat) :: ([] : List (List UInt8))).length) * (24 : Nat) ≤ (140737488355328 : Nat) ∧ (a0_h.snd.snd ++ ((toB (128 : Int) :: ([] : List UInt8)) :: List.replicate ((IntKind.i64.wrap ((119 : Int) - (a0_h.snd.snd.length : Int))).tmod (64 : Int)).toNat Ty.byte.kd.z :: be (IntKind.u64.wrap ((8 : Int) * hLen a0_h)).toNat (8 : Nat) :: ([] : List (List UInt8))).flatten).length ≤ (140737488355328 : Nat)) ∧ ∃ (x0 : Int → List UInt8 → Prop), ∃ (x1 : Int → List UInt8 → Nat), x0 (0 : Int) (Ty.arr (32 : Nat) Ty.byte).kd.z ∧ ∀ (x2 : Int) (x3 : List UInt8), x0 x2 x3 → (Kd.int IntKind.i64).wf x2 → (Ty.arr (32 : Nat) Ty.byte).kd.wf x3 → (x2 < (8 : Int) → ((0 : Int) ≤ x2 ∧ x2 < ((8 : Nat) : Int)) ∧ ((0 : Int) ≤ IntKind.i64.wrap ((4 : Int) * x2) ∧ IntKind.i64.wrap ((4 : Int) * x2) ≤ ((32 : Nat) : Int) ∧ ((32 : Nat) : Int) ≤ ((32 : Nat) : Int) ∧ IntKind.i64.wrap ((4 : Int) * x2) < ((32 : Nat) : Int)) ∧ (Ty.byte.kd.sl.wf (be (ix (hWrite a0_h ((toB (128 : Int) :: ([] : List UInt8)) :: List.replicate ((IntKind.i64.wrap ((119 : Int) - (a0_h.snd.snd.length : Int))).tmod (64 : Int)).toNat Ty.byte.kd.z :: be (IntKind.u64.wrap ((8 : Int) * hLen a0_h)).toNat (8 : Nat) :: ([] : List (List UInt8)))).fst x2).toNat (8 : Nat)) → ((0 : Int) ≤ (4 : Int) ∧ (4 : Int) ≤ ((be (ix (hWrite a0_h ((toB (128 : Int) :: ([] : List UInt8)) :: List.replicate ((IntKind.i64.wrap ((119 : Int) - (a0_h.snd.snd.length : Int))).tmod (64 : Int)).toNat Ty.byte.kd.z :: be (IntKind.u64.wrap ((8 : Int) * hLen a0_h)).toNat (8 : Nat) :: ([] : List (List UInt8)))).fst x2).toNat (8 : Nat)).length : Int)) ∧ x2 < (9223372036854775807 : Int) ∧ x0 (x2 + (1 : Int)) (List.take (IntKind.i64.wrap ((4 : Int) * x2)).toNat x3 ++ List.take (((32 : Nat) : Int).toNat - (IntKind.i64.wrap ((4 : Int) * x2)).toNat) (List.drop (Int.toNat (4 : Int)) (be (ix (hWrite a0_h ((toB (128 : Int) :: ([] : List UInt8)) :: List.replicate ((IntKind.i64.wrap ((119 : Int) - (a0_h.snd.snd.length : Int))).tmod (64 : Int)).toNat Ty.byte.kd.z :: be (IntKind.u64.wrap ((8 : Int) * hLen a0_h)).toNat (8 : Nat) :: ([] : List (List UInt8)))).fst x2).toNat (8 : Nat))) ++ List.drop ((IntKind.i64.wrap ((4 : Int) * x2)).toNat + min (List.drop (Int.toNat (4 : Int)) (be (ix (hWrite a0_h ((toB (128 : Int) :: ([] : List UInt8)) :: List.replicate ((IntKind.i64.wrap ((119 : Int) - (a0_h.snd.snd.length : Int))).tmod (64 : Int)).toNat Ty.byte.kd.z :: be (IntKind.u64.wrap ((8 : Int) * hLen a0_h)).toNat (8 : Nat) :: ([] : List (List UInt8)))).fst x2).toNat (8 : Nat))).length (((32 : Nat) : Int).toNat - (IntKind.i64.wrap ((4 : Int) * x2)).toNat)) x3) ∧ x1 (x2 + (1 : Int)) (List.take (IntKind.i64.wrap ((4 : Int) * x2)).toNat x3 ++ List.take (((32 : Nat) : Int).toNat - (IntKind.i64.wrap ((4 : Int) * x2)).toNat) (List.drop (Int.toNat (4 : Int)) (be (ix (hWrite a0_h ((toB (128 : Int) :: ([] : List UInt8)) :: List.replicate ((IntKind.i64.wrap ((119 : Int) - (a0_h.snd.snd.length : Int))).tmod (64 : Int)).toNat Ty.byte.kd.z :: be (IntKind.u64.wrap ((8 : Int) * hLen a0_h)).toNat (8 : Nat) :: ([] : List (List UInt8)))).fst x2).toNat (8 : Nat))) ++ List.drop ((IntKind.i64.wrap ((4 : Int) * x2)).toNat + min (List.drop (Int.toNat (4 : Int)) (be (ix (hWrite a0_h ((toB (128 : Int) :: ([] : List UInt8)) :: List.replicate ((IntKind.i64.wrap ((119 : Int) - (a0_h.snd.snd.length : Int))).tmod (64 : Int)).toNat Ty.byte.kd.z :: be (IntKind.u64.wrap ((8 : Int) * hLen a0_h)).toNat (8 : Nat) :: ([] : List (List UInt8)))).fst x2).toNat (8 : Nat))).length (((32 : Nat) : Int).toNat - (IntKind.i64.wrap ((4 : Int) * x2)).toNat)) x3) < x1 x2 x3)) ∧ (¬x2 < (8 : Int) → Q x3)) ∧ True) ∧ True)
theorem HSum_ok {a0_h : (List Int) × Int × List UInt8} (w_0 : (Ty.kd (.pr (.arr 8 (.int .u32)) (.pr (.int .u64) (.sl .byte)))).wf a0_h) (hp : a0_h.2.2.length < 64) : HSum_VC a0_h (fun o0 => o0 = (hSum a0_h)) := by
  have wr : ∀ a : Int, -1000 ≤ a → a ≤ 1000 → IntKind.i64.wrap a = a := fun a h1 h2 => wrap_id (wf64 (by omega) (by omega))
  have hk : Int.tmod (IntKind.i64.wrap (119 - (a0_h.2.2.length : Int))) 64 = ((119 - (a0_h.2.2.length : Int)) % 64) := by
    rw [wr _ (by omega) (by omega), Int.tmod_eq_emod_of_nonneg (by omega)]
  have hsum : ∀ n, (sumN (hWrite a0_h (padOf a0_h)).1 n).length = 32 := by
    intro n
    induction n with
    | zero => simp [sumN]
    | succ n ih =>
      simp only [sumN, List.length_append, List.length_take, List.length_drop, ih, be_length]
      omega
  have hp' : [[toB 128], List.replicate ((119 - (a0_h.2.2.length : Int)) % 64).toNat Ty.byte.kd.z, be (IntKind.u64.wrap (8 * hLen a0_h)).toNat 8] = padOf a0_h := by unfold padOf; rw [hk]; rfl
  unfold HSum_VC
  rw [hk, hp']
  intro _
  refine ⟨by omega, fun _ _ => ?_⟩
  repeat' (first | apply And.intro | intro _)
  all_goals first | trivial | omega | (simp only [← hp', List.length_cons, List.length_nil, List.length_append, List.flatten_cons, List.flatten_nil, List.length_replicate, be_length]; omega) | skip
  all_goals
    refine ⟨fun i b => ∃ n : Nat, i = (n : Int) ∧ n ≤ 8 ∧ b = sumN (hWrite a0_h (padOf a0_h)).1 n, fun i _ => 8 - i.toNat, ⟨0, rfl, by omega, rfl⟩, ?_⟩
    rintro i b ⟨n, rfl, hn, rfl⟩ _ _
    refine ⟨fun hlt => ?_, fun hge => ?_⟩
    · rw [wr (4 * (n : Int)) (by omega) (by omega)]
      have e4 : (4 * (n : Int)).toNat = 4 * n := by omega
      rw [e4]
      refine ⟨⟨by omega, hlt⟩, ⟨by omega, by omega, by omega, by omega⟩, fun _ => ⟨⟨by omega, by rw [be_length]; omega⟩, by omega, ⟨n + 1, by omega, by omega, rfl⟩, ?_⟩⟩
      show 8 - ((n : Int) + 1).toNat < 8 - (n : Int).toNat
      omega
    · have : n = 8 := by omega
      subst this
      rfl
theorem HSum_eq : (∀ a, HSum_C.pre a → PM.wfP HSum_C.pm a (fvc HSum_X 200 125 HSum_C a (eqO HSum_C a))) = (∀ a : ((List Int) × Int × List UInt8) × Unit, ((a.1).2.2.length < 64) → (Ty.kd (.pr (.arr 8 (.int .u32)) (.pr (.int .u64) (.sl .byte)))).wf a.1 → HSum_VC a.1 (fun o0 => o0 = (hSum (a.1)))) := by kernel_rfl
theorem HSum_k : HSum_C.valid Try.prog 125 := ctr_of (X := HSum_X) (ok_of seat_ok (fun b hb => by cases hb; exact bkT_ok) fns_ok ⟨New_k, HCopy_k, HLen_k, high_k, HWrite_k, trivial⟩) 200 (HSum_eq.mpr fun a hp w_0 => @HSum_ok a.1 w_0 hp)
noncomputable def ShaSum_C : Ctr := ⟨[.v (.sl (.sl .byte))], [.v (.arr 32 .byte)], some (fun a => (fun (a0_parts : List (List UInt8)) => ((1 + a0_parts.length) * 24 ≤ 140737488355328 ∧ a0_parts.flatten.length ≤ 140737488355328 : Prop)) a.1), fun a => (fun (a0_parts : List (List UInt8)) => (((sha256 a0_parts), ()), (()))) a.1⟩
noncomputable def ShaSum_X : Fx := ⟨seat, some bkT, fns, [(123, New_C), (124, HWrite_C), (125, HSum_C)], [], [], []⟩
def ShaSum_VC (a0_parts : List (List UInt8)) (Q : (List UInt8) → Prop) : Prop :=
  ((Ty.arr (8 : Nat) (Ty.int IntKind.u32)).pr ((Ty.int IntKind.u64).pr Ty.byte.sl)).kd.wf (List.replicate (8 : Nat) (0 : Int), (0 : Int), ([] : List UInt8)) → (((1 : Nat) + a0_parts.length) * (24 : Nat) ≤ (140737488355328 : Nat) ∧ (([] : List UInt8) ++ a0_parts.flatten).length ≤ (140737488355328 : Nat)) ∧ (hWrite (List.replicate (8 : Nat) (0 : Int), (0 : Int), ([] : List UInt8)) a0_parts).snd.snd.length < (64 : Nat) ∧ ((Ty.arr (32 : Nat) Ty.byte).kd.wf (hSum (hWrite (List.replicate (8 : Nat) (0 : Int), (0 : Int), ([] : List UInt8)) a0_parts)) → Q (hSum (hWrite (List.replicate (8 : Nat) (0 : Int), (0 : Int), ([] : List UInt8)) a0_parts)))
theorem ShaSum_ok {a0_parts : List (List UInt8)} (w_0 : (Ty.kd (.sl (.sl .byte))).wf a0_parts) (hp : (1 + a0_parts.length) * 24 ≤ 140737488355328 ∧ a0_parts.flatten.length ≤ 140737488355328) : ShaSum_VC a0_parts (fun o0 => o0 = (sha256 a0_parts)) := by
  unfold ShaSum_VC
  exact fun _ => ⟨⟨hp.1, hp.2⟩, eat_rest _ _ _, fun _ => rfl⟩
theorem ShaSum_eq : (∀ a, ShaSum_C.pre a → PM.wfP ShaSum_C.pm a (fvc ShaSum_X 200 110 ShaSum_C a (eqO ShaSum_C a))) = (∀ a : (List (List UInt8)) × Unit, ((1 + (a.1).length) * 24 ≤ 140737488355328 ∧ (a.1).flatten.length ≤ 140737488355328) → (Ty.kd (.sl (.sl .byte))).wf a.1 → ShaSum_VC a.1 (fun o0 => o0 = (sha256 (a.1)))) := by kernel_rfl
theorem ShaSum_k : ShaSum_C.valid Try.prog 110 := ctr_of (X := ShaSum_X) (ok_of seat_ok (fun b hb => by cases hb; exact bkT_ok) fns_ok ⟨New_k, HWrite_k, HSum_k, trivial⟩) 200 (ShaSum_eq.mpr fun a hp w_0 => @ShaSum_ok a.1 w_0 hp)
end Go.Proofs.Ytmjjkpiglbpkhaa

/- What the old form asks of the new: Clone, Equal, Preimage, sha.Sum. -/
set_option linter.unusedVariables false
set_option maxRecDepth 100000
set_option maxHeartbeats 2000000
namespace Go.Proofs.Ytmjjkpiglbpkhaa
open Go Go.RowKit Go.Inc
theorem relL1 {θ : Th} {n : Nat} {K : Ghost} {s : SVal} {v : Value} (h : s.rel θ n K v) : SVal.relL θ n K [s] [v] := ⟨v, [], rfl, h, rfl⟩
theorem relL2 {θ : Th} {n : Nat} {K : Ghost} {s s' : SVal} {v v' : Value} (h : s.rel θ n K v) (h' : s'.rel θ n K v') : SVal.relL θ n K [s, s'] [v, v'] := ⟨v, [v'], rfl, h, relL1 h'⟩
theorem Clone_c {w0 : World} {K0 : Ghost} {a0_s_v : Value} {a0_s : (List UInt8)} (hM0 : Models w0 K0) (h_a0_s : kd_l_u8.V K0 a0_s a0_s_v) (hp : a0_s.length ≤ 140737488355328) : Calls Try.prog 69 #[a0_s_v] w0 (fun e w' => ∃ (K' : Ghost) (r0 : Value), e = .returned r0 ∧ Ext NX w0 K0 w' K' ∧ Models w' K' ∧ Own Kd.byte 5 w' K' a0_s r0 ∧ (∀ g, ob r0 = some g → w0.heap.size ≤ g)) :=
  un_ow (k := .byte) Clone_k (fun _ => rfl) (a := (a0_s, ())) (vs := [a0_s_v]) hp hM0 fun θ => relL1 (SVal.of_rel (t := .sl .byte) h_a0_s)
theorem Equal_c {w0 : World} {K0 : Ghost} {a0_a_v : Value} {a0_a : (List UInt8)} {a1_b_v : Value} {a1_b : (List UInt8)} (hM0 : Models w0 K0) (h_a0_a : kd_l_u8.V K0 a0_a a0_a_v) (h_a1_b : kd_l_u8.V K0 a1_b a1_b_v) : Calls Try.prog 85 #[a0_a_v, a1_b_v] w0 (fun e w' => ∃ (K' : Ghost) (r0 : Value), e = .returned r0 ∧ Ext NX w0 K0 w' K' ∧ Models w' K' ∧ Kd.bool.V K' (decide (a0_a = a1_b)) r0) :=
  un_v (t := .bool) Equal_k (fun _ => rfl) (fun _ => rfl) (a := (a0_a, a1_b, ())) (vs := [a0_a_v, a1_b_v]) trivial hM0 fun θ => relL2 (SVal.of_rel (t := .sl .byte) h_a0_a) (SVal.of_rel (t := .sl .byte) h_a1_b)
theorem Preimage_c {w0 : World} {K0 : Ghost} {a0_kind_v : Value} {a0_kind : Int} {a1_parts_v : Value} {a1_parts : (List (List UInt8))} (hM0 : Models w0 K0) (h_a0_kind : (Kd.int .i64).V K0 a0_kind a0_kind_v) (h_a1_parts : kd_l_l_u8.V K0 a1_parts a1_parts_v) (hp : 1 + blobRoom a1_parts ≤ 140737488355328) : Calls Try.prog 98 #[a0_kind_v, a1_parts_v] w0 (fun e w' => ∃ (K' : Ghost) (r0 : Value), e = .returned r0 ∧ Ext NX w0 K0 w' K' ∧ Models w' K' ∧ Own Kd.byte 5 w' K' (preimage a0_kind a1_parts) r0 ∧ (∀ g, ob r0 = some g → w0.heap.size ≤ g)) :=
  un_ow (k := .byte) Preimage_k (fun _ => rfl) (a := (a0_kind, a1_parts, ())) (vs := [a0_kind_v, a1_parts_v]) hp hM0 fun θ => relL2 (SVal.of_rel (t := .int .i64) h_a0_kind) (SVal.of_rel (t := .sl (.sl .byte)) h_a1_parts)
theorem ShaSum_c {w0 : World} {K0 : Ghost} {a0_parts_v : Value} {a0_parts : (List (List UInt8))} (hM0 : Models w0 K0) (h_a0_parts : kd_l_l_u8.V K0 a0_parts a0_parts_v) (hp : (1 + a0_parts.length) * 24 ≤ 140737488355328 ∧ a0_parts.flatten.length ≤ 140737488355328) : Calls Try.prog 110 #[a0_parts_v] w0 (fun e w' => ∃ (K' : Ghost) (r0 : Value), e = .returned r0 ∧ Ext NX w0 K0 w' K' ∧ Models w' K' ∧ (Kd.arr 32 Kd.byte).V K' (sha256 a0_parts) r0) :=
  un_v (t := .arr 32 .byte) ShaSum_k (fun _ => rfl) (fun _ => rfl) (a := (a0_parts, ())) (vs := [a0_parts_v]) hp hM0 fun θ => relL1 (SVal.of_rel (t := .sl (.sl .byte)) h_a0_parts)
end Go.Proofs.Ytmjjkpiglbpkhaa
