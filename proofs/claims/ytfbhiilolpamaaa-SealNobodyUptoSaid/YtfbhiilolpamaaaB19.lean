/-
  BASE 19: a region whose order is drawn: one walk, in an order that a Bool lets in, serves all. What only reckons or reads what nobody in the region turns is taken first; an operation that turns something comes up alone.
-/
import Derived.Test.YtfbhiilolpamaaaB18
set_option linter.unusedVariables false
namespace Go.Inc
open Go Go.RowKit

theorem lt_sub {a b n : Nat} (e : a = b) (h : b < n) : a < n := by omega
theorem lt_eq {a b n : Nat} {p : Prop} (h : b < n) (e : a = b) (h2 : n ≤ a) : p := by omega
theorem lt_eq' {a b n : Nat} {p : Prop} (h : a < n) (e : a = b) (h2 : n ≤ b) : p := by omega
theorem nilS {A : Option Addr} {g : Nat} {p : Prop} (h : ob (.slice A 0 0) = some g) : p := by cases A <;> cases h
theorem nilM {g : Nat} {p : Prop} (h : mb (.map none) = some g) : p := by cases h
/-- worlds that may come: nothing old turned but blocks X -/
def SX (X : Nat → Prop) (w : World) (K : Ghost) : World → Prop := fun w' => ∃ K', Ext X w K w' K' ∧ Models w' K'
theorem SX.self {X : Nat → Prop} {w : World} {K : Ghost} (hM : Models w K) : SX X w K w := ⟨K, Ext.refl _ _ _, hM⟩
theorem SX.back {X : Nat → Prop} {w w1 : World} {K K1 : Ghost} (h : Ext X w K w1 K1) {w' : World} (h' : SX X w1 K1 w') : SX X w K w' := by
  obtain ⟨K', hE, hM⟩ := h'
  exact ⟨K', h.trans hE, hM⟩
theorem SX.ofN {X : Nat → Prop} {w w' : World} {K : Ghost} (h : SX NX w K w') : SX X w K w' := by
  obtain ⟨K', hE, hM⟩ := h
  exact ⟨K', hE.ofN, hM⟩
def dstOf (ops : Array Oper) (i : Nat) : Option Nat := (ops[i]?).bind (·.dst)
/-- a flag: 0, 1: comes up alone (turns nothing old; may turn X); 2, 3: is taken first (may read whatever; nothing of X) -/
def lv (f : Nat) : Bool := Nat.beq f 1 || Nat.beq f 3
def tk (f : Nat) : Bool := Nat.ble 2 f
theorem l3 {al : Bool} : lv 3 = false → al = true := fun h => by cases h
theorem l1 {al : Bool} : lv 1 = false → al = true := fun h => by cases h
theorem l0 {f : Nat} : lv f = false → true = true := fun _ => rfl
def reachB (ops : Array Oper) (i : Nat) : Nat → Nat → Bool
  | 0, _ => false
  | fuel + 1, j => match ops[j]? with
    | some o => o.after.any fun e => Region.binds .any e && (Nat.beq e.on i || reachB ops i fuel e.on)
    | none => false
/-- an order: one by one; or, where some that turn something come up in whatever order, a tree of these -/
inductive Tr where
  | fin | one (i f : Nat) (r : Tr) | alt (i f : Nat) (s m : Tr)
inductive It where
  | o (i f : Nat) | par (js : List Nat) (t : Tr)
def lvT : Tr → Nat → Option Bool
  | .fin, _ => none
  | .one i f r, j => if Nat.beq i j then some (lv f) else lvT r j
  | .alt i f s m, j => if Nat.beq i j then some (lv f) else (lvT s j).orElse fun _ => lvT m j
def lvOf : List It → Nat → Bool
  | [], _ => true
  | .o i f :: r, j => bif Nat.beq i j then lv f else lvOf r j
  | .par _ t :: r, j => match lvT t j with
    | some b => b
    | none => lvOf r j
def headB (ops : Array Oper) (all : List It) (i f : Nat) (listed : Array Bool) : Bool :=
  (bif tk f then (Region.ready .any ops listed).contains i && Region.free .any ops listed i && (lv f || (List.range ops.size).all fun j => listed.getD j true || Nat.beq j i || reachB ops i ops.size j || !lvOf all j) else (Region.ready .any ops listed) == [i]) && (lvOf all i == lv f)
def Tr.sz : Tr → Nat
  | .fin => 0
  | .one _ _ r => r.sz + 1
  | .alt _ _ s m => s.sz + m.sz + 1
def Tr.heads : Tr → List Nat
  | .alt i _ _ m => i :: m.heads
  | _ => []
def ordT (ops : Array Oper) (all : List It) (L : Array Bool) : Bool → Tr → Array Bool → Nat → Bool
  | _, .fin, listed, d => Nat.beq d 0 && listed == L
  | _, .one i f r, listed, d + 1 => headB ops all i f listed && ordT ops all L true r (listed.setIfInBounds i true) d
  | b, .alt i f s m, listed, d + 1 => (!b || (i :: m.heads) == Region.ready .any ops listed) && !tk f && (lvOf all i == lv f) && ordT ops all L true s (listed.setIfInBounds i true) d &&
      (match m with | .alt .. => ordT ops all L false m listed (d + 1) | _ => true)
  | _, _, _, 0 => false
def setAll (listed : Array Bool) (js : List Nat) : Array Bool := js.foldl (fun l j => l.setIfInBounds j true) listed
def ordB (ops : Array Oper) (all : List It) : List It → Array Bool → Bool
  | [], listed => (Region.ready .any ops listed).isEmpty
  | .o i f :: r, listed => headB ops all i f listed && ordB ops all r (listed.setIfInBounds i true)
  | .par js t :: r, listed => ordT ops all (setAll listed js) true t listed js.length && ordB ops all r (setAll listed js)
def cnt : List It → Nat
  | [] => 0
  | .o _ _ :: r => cnt r + 1
  | .par js _ :: r => js.length + cnt r
def ordOk (ops : Array Oper) (ord : List It) : Bool := Region.noSelect ops && Nat.beq (cnt ord) ops.size && ordB ops ord ord (Array.replicate ops.size false)
abbrev SF := Bool → World → Prop
abbrev Fin' := SF → Env → World → Prop
def stepC (P : Program) (n : Nat) (ops : Array Oper) (i f : Nat) (C : Fin') : Fin' := fun S ρ w => ∃ o, ops[i]? = some o ∧ dstOk n o.dst = true ∧
      ((Region.wanted o (yieldE ops ρ) = true ∧
        ((tk f = true ∧ S (lv f) w ∧ ∃ v, (∀ w', S (lv f) w' → (execOp (ev ρ) o).run P w' = .ok (.value v) w') ∧ C S (updO ρ o.dst v) w) ∨
         (tk f = false ∧ Step P o ρ w fun v w' => ∃ S' : SF, (∀ b w, S' b w → S b w) ∧ (∀ w, S' false w → S' true w) ∧ S' (lv f) w' ∧ C S' (updO ρ o.dst v) w'))) ∨
       (Region.wanted o (yieldE ops ρ) = false ∧ S (lv f) w ∧ C S (updO ρ o.dst undef) w))
def WT (P : Program) (n : Nat) (ops : Array Oper) (F : Fin') : Tr → Fin'
  | .fin => F
  | .one i f r => stepC P n ops i f (WT P n ops F r)
  | .alt i f s m => fun S ρ w => stepC P n ops i f (WT P n ops F s) S ρ w ∧ (match m with | .alt .. => WT P n ops F m S ρ w | _ => True)
def WO (P : Program) (n : Nat) (ops : Array Oper) (F : Fin') : List It → Fin'
  | [] => F
  | .o i f :: r => stepC P n ops i f (WO P n ops F r)
  | .par _ t :: r => WT P n ops (WO P n ops F r) t
/-- every order, S j shown behind operation j -/
def wpAnyJ (P : Program) (ops : Array Oper) (Q : Exit → Act → World → Prop) (S : Nat → World → Prop) : Nat → Array Bool → Act → World → Prop
  | 0, listed, a, w => Region.ready .any ops listed = [] ∧ Q .normal a w
  | fuel + 1, listed, a, w =>
    (Region.ready .any ops listed = [] → Q .normal a w) ∧
    ∀ i ∈ Region.ready .any ops listed, wpOp P ops Q i (fun a' w' => S i w' ∧ wpAnyJ P ops Q S fuel (listed.setIfInBounds i true) a' w') a w
/-- what has come up, and all that it waits for -/
def ClosedA (ops : Array Oper) (listed : Array Bool) : Prop := ∀ j o, ops[j]? = some o → listed.getD j true = true → ∀ e ∈ o.after, Region.binds .any e = true → listed.getD e.on false = true
section
variable {P : Program} {n : Nat} {ops : Array Oper}
theorem stepC.mono {i f : Nat} {C C' : Fin'} (hC : ∀ S ρ w, C S ρ w → C' S ρ w) {S : SF} {ρ : Env} {w : World} (h : stepC P n ops i f C S ρ w) : stepC P n ops i f C' S ρ w := by
  obtain ⟨o, hi, hd, h⟩ := h
  refine ⟨o, hi, hd, ?_⟩
  rcases h with ⟨hw, ⟨ht, hS, v, hv, hr⟩ | ⟨ht, hs⟩⟩ | ⟨hw, hS, hr⟩
  · exact .inl ⟨hw, .inl ⟨ht, hS, v, hv, hC _ _ _ hr⟩⟩
  · exact .inl ⟨hw, .inr ⟨ht, hs.mono fun v w' ⟨S', h1, h3, h4, h5⟩ => ⟨S', h1, h3, h4, hC _ _ _ h5⟩⟩⟩
  · exact .inr ⟨hw, hS, hC _ _ _ hr⟩
theorem WT.mono {F F' : Fin'} (hF : ∀ S ρ w, F S ρ w → F' S ρ w) : ∀ {t : Tr} {S : SF} {ρ : Env} {w : World}, WT P n ops F t S ρ w → WT P n ops F' t S ρ w
  | .fin, S, ρ, w, h => hF S ρ w h
  | .one i f r, S, ρ, w, h => stepC.mono (fun _ _ _ => WT.mono hF) h
  | .alt i f s m, S, ρ, w, h => by
    refine ⟨stepC.mono (fun _ _ _ => WT.mono hF) h.1, ?_⟩
    have h2 := h.2
    cases m with
    | fin => trivial
    | one => trivial
    | alt a b c d => exact WT.mono hF h2
theorem WO_app {F F1 : Fin'} {l2 : List It} : ∀ {l1 : List It} {S : SF} {ρ : Env} {w : World}, WO P n ops F1 l1 S ρ w → (∀ S' ρ' w', F1 S' ρ' w' → WO P n ops F l2 S' ρ' w') → WO P n ops F (l1 ++ l2) S ρ w
  | [], S, ρ, w, h, h2 => h2 S ρ w h
  | .o i f :: r, S, ρ, w, h, h2 => stepC.mono (fun _ _ _ h => WO_app h h2) h
  | .par js t :: r, S, ρ, w, h, h2 => WT.mono (fun _ _ _ h => WO_app h h2) h
theorem wpAny_of_J {Q : Exit → Act → World → Prop} {S : Nat → World → Prop} : ∀ (fuel : Nat) (listed : Array Bool) (a : Act) (w : World), wpAnyJ P ops Q S fuel listed a w → wpAny P .any ops Q fuel listed a w
  | 0, _, _, _, h => h
  | fuel + 1, _, _, _, h => ⟨h.1, fun i hi => wpOp_mono (fun a' w' h' => wpAny_of_J fuel _ a' w' h'.2) (h.2 i hi)⟩
theorem wpAnyJ_weaker {Q : Exit → Act → World → Prop} {S S' : Nat → World → Prop} (h : ∀ j w, S' j w → S j w) : ∀ (fuel : Nat) (listed : Array Bool) (a : Act) (w : World), wpAnyJ P ops Q S' fuel listed a w → wpAnyJ P ops Q S fuel listed a w
  | 0, _, _, _, hh => hh
  | fuel + 1, _, _, _, hh => ⟨hh.1, fun i hi => wpOp_mono (fun a' w' h' => ⟨h _ _ h'.1, wpAnyJ_weaker h fuel _ a' w' h'.2⟩) (hh.2 i hi)⟩
theorem reach_spec {listed : Array Bool} (hc : ClosedA ops listed) {i : Nat} : ∀ (fuel j : Nat) (o : Oper), ops[j]? = some o → (∀ e ∈ o.after, Region.binds .any e = true → listed.getD e.on false = true) → reachB ops i fuel j = true → listed.getD i false = true
  | 0, j, o, _, _, h => by simp [reachB] at h
  | fuel + 1, j, o, ho, hall, h => by
    simp only [reachB, ho] at h
    obtain ⟨e, he, hb⟩ := Array.any_eq_true'.1 h
    simp only [Bool.and_eq_true, Bool.or_eq_true] at hb
    have hl := hall e he hb.1
    rcases hb.2 with h1 | h1
    · have := Nat.eq_of_beq_eq_true h1
      rw [← this]
      exact hl
    · cases hm : ops[e.on]? with
      | none =>
        cases fuel with
        | zero => simp [reachB] at h1
        | succ fuel => simp [reachB, hm] at h1
      | some o' =>
        refine reach_spec hc fuel e.on o' hm (hc e.on o' hm ?_) h1
        rcases Nat.lt_or_ge e.on listed.size with h' | h'
        · simp [h'] at hl ⊢; exact hl
        · simp [Array.getElem?_eq_none h']
theorem ClosedA.set {listed : Array Bool} (hc : ClosedA ops listed) {i : Nat} (hi : i ∈ Region.ready .any ops listed) : ClosedA ops (listed.setIfInBounds i true) := by
  intro j o ho hj e he hb
  obtain ⟨_, o', ho', hall⟩ := mem_ready.1 hi
  by_cases e0 : j = i
  · subst e0
    rw [ho] at ho'
    cases ho'
    exact getD_set_true (hall e he hb)
  · rw [getD_set_ne true (Ne.symm e0)] at hj
    exact getD_set_true (hc j o ho hj e he hb)
theorem wpAnyJ_first {Q : Exit → Act → World → Prop} {S : Nat → World → Prop} {N : World → Prop} {i : Nat} {oi : Oper} {v : Value} (hi : ops[i]? = some oi) (hsel : ∀ (j : Nat) (o : Oper) cs b, ops[j]? = some o → o.op ≠ .select cs b)
    (hQ : ∀ c a w, Q (.panic c) (a.put oi.dst v) w → Q (.panic c) a w) (hSi : ∀ w, N w → S i w) :
    ∀ (fuel : Nat) (listed : Array Bool) (a : Act) (w : World),
      (∀ j oj, ops[j]? = some oj → j ≠ i → listed.getD j true = false → (∀ e ∈ oj.after, Region.binds .any e = true → e.on ≠ i) → oi.apart ops oj = true) →
      (∀ j, j < ops.size → j ≠ i → listed.getD j true = false → reachB ops i ops.size j = false → ∀ w', S j w' → N w') → ClosedA ops listed →
      i ∈ Region.ready .any ops listed → YieldsIf P ops N oi v a → N w →
      wpAnyJ P ops Q S fuel (listed.setIfInBounds i true) (a.put oi.dst v) w → wpAnyJ P ops Q S (fuel + 1) listed a w := by
  intro fuel
  induction fuel with
  | zero =>
    intro listed a w _ _ _ hr hy hN H
    refine ⟨fun h => (by rw [h] at hr; cases hr), fun j hj => ?_⟩
    by_cases hji : j = i
    · subst hji; exact hy.wpOp hi hN ⟨hSi w hN, H⟩
    · have := ready_mono hj hji
      rw [H.1] at this
      cases this
  | succ fuel ih =>
    intro listed a w hfree hind hcl hr hy hN H
    refine ⟨fun h => (by rw [h] at hr; cases hr), fun j hj => ?_⟩
    by_cases hji : j = i
    · subst hji; exact hy.wpOp hi hN ⟨hSi w hN, H⟩
    · have h1 := H.2 j (ready_mono hj hji)
      obtain ⟨hjun, oj, hoj, hall⟩ := mem_ready.1 hj
      have hiun : listed.getD i false ≠ true := by
        have h0 := (mem_ready.1 hr).1
        intro h1
        rcases Nat.lt_or_ge i listed.size with h' | h'
        · simp [h'] at h0 h1; rw [h0] at h1; cases h1
        · simp [Array.getElem?_eq_none h'] at h1
      have hnot : ∀ e ∈ oj.after, Region.binds .any e = true → e.on ≠ i := fun e he hb heq => hiun (heq ▸ hall e he hb)
      have hre : reachB ops i ops.size j = false := by
        cases h0 : reachB ops i ops.size j with
        | false => rfl
        | true => exact absurd (reach_spec hcl _ j oj hoj hall h0) hiun
      have hjN := hind j (Array.getElem?_eq_some_iff.1 hoj).1 hji hjun hre
      have h2 := wpOp_putIf hoj (hfree j oj hoj hji hjun hnot) (fun cs b => hsel i oi cs b hi) (fun cs b => hsel j oj cs b hoj) hQ hy h1
      have hun' : ∀ k, (listed.setIfInBounds j true).getD k true = false → listed.getD k true = false := fun k hun => by
        by_cases hjk : j = k
        · subst hjk; exact hjun
        · rw [getD_set_ne true hjk] at hun; exact hun
      refine wpOp_mono (fun a' w' h3 => ⟨h3.2.1, ih (listed.setIfInBounds j true) a' w' (fun k ok hk hki hun hno => hfree k ok hk hki (hun' k hun) hno) (fun k hk hki hun hrk => hind k hk hki (hun' k hun) hrk) (hcl.set hj) (ready_mono hr (Ne.symm hji)) h3.1 (hjN _ h3.2.1) ?_⟩) h2
      rw [Array.setIfInBounds_comm _ _ hji]
      exact h3.2.2
/-- the ending: only as it should be -/
def nrmQ (Q : Post) : Post := fun e ρ w => e = .normal ∧ Q .normal ρ w
theorem eff_wpOp {Q : Post} {i f : Nat} {C : Fin'} {S : SF} {ρ : Env} {w : World} (ht : tk f = false) (hS : ∀ w, S false w → S true w) (h : stepC P n ops i f C S ρ w) {a : Act} (ha : Fits n ρ a) {K : Act → World → Prop}
    (hK : ∀ S' ρ' a' w', (∀ b w, S' b w → S b w) → (∀ w, S' false w → S' true w) → S' (lv f) w' → Fits n ρ' a' → C S' ρ' w' → K a' w') : wpOp P ops (lift n (nrmQ Q)) i K a w := by
  obtain ⟨o, hi, hd, h⟩ := h
  unfold wpOp
  simp only [hi]
  rcases h with ⟨hw, ⟨ht', _⟩ | ⟨-, hst⟩⟩ | ⟨hw, hSw, hr⟩
  · rw [ht] at ht'; cases ht'
  · rw [if_pos (by rw [ha.yielded]; exact hw)]
    exact .inl (hst.wp ha fun v w' ⟨S', h1, h2, h3, h4⟩ => hK S' _ _ w' h1 h2 h3 (ha.updO hd v) h4)
  · rw [if_neg (by rw [ha.yielded]; simp [hw])]
    exact hK S _ _ w (fun _ _ h => h) hS hSw (ha.updO hd undef) hr
theorem head_sound {Q : Post} (all : List It) (hs : Region.noSelect ops = true) {i f : Nat} {listed : Array Bool} {fuel : Nat} {C : Fin'} {S : SF} {ρ : Env} {w : World} (hck : headB ops all i f listed = true) (hcl : ClosedA ops listed) (hS : ∀ w, S false w → S true w) (h : stepC P n ops i f C S ρ w)
    (hC : ∀ S' ρ' w', ClosedA ops (listed.setIfInBounds i true) → (∀ w, S' false w → S' true w) → C S' ρ' w' → ∀ a, Fits n ρ' a → wpAnyJ P ops (lift n (nrmQ Q)) (fun j => S' (lvOf all j)) fuel (listed.setIfInBounds i true) a w') :
    ∀ a, Fits n ρ a → wpAnyJ P ops (lift n (nrmQ Q)) (fun j => S (lvOf all j)) (fuel + 1) listed a w := fun a ha => by
  simp only [headB, Bool.and_eq_true] at hck
  obtain ⟨hck1, hlv⟩ := hck
  have hlv : lvOf all i = lv f := by simpa using hlv
  cases ht : tk f with
  | true =>
    obtain ⟨o, hi, hd, h⟩ := h
    have hQ' : ∀ v c (a : Act) w, lift n (nrmQ Q) (.panic c) (a.put o.dst v) w → lift n (nrmQ Q) (.panic c) a w := fun v c a w ⟨_, _, h, _⟩ => by cases h
    rw [ht] at hck1
    simp only [cond_true, Bool.and_eq_true] at hck1
    obtain ⟨⟨hrd, hfr⟩, hind⟩ := hck1
    have hrd' : i ∈ Region.ready .any ops listed := by simpa using hrd
    have hN : ∀ j, j < ops.size → j ≠ i → listed.getD j true = false → reachB ops i ops.size j = false → ∀ w', S (lvOf all j) w' → S (lv f) w' := fun j hj hji hun hre w' hw' => by
      cases hf : lv f with
      | true => cases hl : lvOf all j with
        | true => rw [hl] at hw'; exact hw'
        | false => rw [hl] at hw'; exact hS _ hw'
      | false =>
        rw [hf, Bool.false_or] at hind
        have := List.all_eq_true.1 hind j (List.mem_range.2 hj)
        simp only [hun, hre, Bool.or_false, Bool.false_or, Bool.or_eq_true, Bool.not_eq_true'] at this
        rcases this with h1 | h1
        · exact absurd (Nat.eq_of_beq_eq_true h1) hji
        · rw [h1] at hw'; exact hw'
    rcases h with ⟨hw, ⟨-, hSw, v, hv, hr⟩ | ⟨ht', _⟩⟩ | ⟨hw, hSw, hr⟩
    · refine wpAnyJ_first hi (Region.noSelect_spec hs) (hQ' v) (N := S (lv f)) (fun w hw => by rw [hlv]; exact hw) fuel listed a w (Region.free_spec hi hfr) hN hcl hrd' (.inl ⟨by rw [ha.yielded]; exact hw, fun w' hw' => by rw [ha.eval]; exact hv w' hw'⟩) hSw ?_
      exact hC S _ w (hcl.set hrd') hS hr _ (ha.updO hd v)
    · rw [ht] at ht'; cases ht'
    · refine wpAnyJ_first hi (Region.noSelect_spec hs) (hQ' undef) (N := S (lv f)) (fun w hw => by rw [hlv]; exact hw) fuel listed a w (Region.free_spec hi hfr) hN hcl hrd' (.inr ⟨by rw [ha.yielded]; exact hw, rfl⟩) hSw ?_
      exact hC S _ w (hcl.set hrd') hS hr _ (ha.updO hd undef)
  | false =>
    rw [ht] at hck1
    simp only [cond_false, beq_iff_eq] at hck1
    have hrd' : i ∈ Region.ready .any ops listed := by rw [hck1]; simp
    refine ⟨fun h0 => (by rw [hck1] at h0; cases h0), fun j hj => ?_⟩
    rw [hck1, List.mem_singleton] at hj
    subst hj
    refine eff_wpOp ht hS h ha fun S' ρ' a' w' h1 h2 h3 hf' hc => ⟨(by show S (lvOf all j) w'; rw [hlv]; exact h1 _ _ h3), ?_⟩
    exact wpAnyJ_weaker (fun j w => h1 _ w) _ _ _ _ (hC S' ρ' w' (hcl.set hrd') h2 hc a' hf')
theorem WT_alts {all : List It} {F : Fin'} {L : Array Bool} {S : SF} {ρ : Env} {w : World} {listed : Array Bool} {d : Nat} {b : Bool} : ∀ {t : Tr}, ordT ops all L b t listed (d + 1) = true → WT P n ops F t S ρ w → ∀ j ∈ t.heads, ∃ f s, tk f = false ∧ lvOf all j = lv f ∧ ordT ops all L true s (listed.setIfInBounds j true) d = true ∧ stepC P n ops j f (WT P n ops F s) S ρ w ∧ s.sz < t.sz
  | .fin, _, _, j, hj => by cases hj
  | .one i f r, _, _, j, hj => by cases hj
  | .alt i f s m, hck, h, j, hj => by
    simp only [ordT, Bool.and_eq_true] at hck
    obtain ⟨⟨⟨⟨_, h1⟩, h2⟩, h3⟩, h4⟩ := hck
    rcases List.mem_cons.1 hj with rfl | hj
    · exact ⟨f, s, by simpa using h1, by simpa using h2, h3, h.1, by simp only [Tr.sz]; omega⟩
    · cases m with
      | fin => cases hj
      | one => cases hj
      | alt a b c e =>
        obtain ⟨f', s', q1, q2, q3, q4, q5⟩ := WT_alts (t := .alt a b c e) h4 h.2 j hj
        exact ⟨f', s', q1, q2, q3, q4, by simp only [Tr.sz] at q5 ⊢; omega⟩
theorem WT_sound {Q : Post} (all : List It) (hs : Region.noSelect ops = true) {F : Fin'} {L : Array Bool} {fuel : Nat}
    (hF : ∀ S ρ w, ClosedA ops L → (∀ w, S false w → S true w) → F S ρ w → ∀ a, Fits n ρ a → wpAnyJ P ops (lift n (nrmQ Q)) (fun j => S (lvOf all j)) fuel L a w) :
    ∀ (t : Tr) {d : Nat} {listed : Array Bool} {S : SF} {ρ : Env} {w : World}, ordT ops all L true t listed d = true → ClosedA ops listed → (∀ w, S false w → S true w) → WT P n ops F t S ρ w → ∀ a, Fits n ρ a → wpAnyJ P ops (lift n (nrmQ Q)) (fun j => S (lvOf all j)) (d + fuel) listed a w
  | .fin, d, listed, S, ρ, w, hck, hcl, hS, h, a, ha => by
    simp only [ordT, Bool.and_eq_true, beq_iff_eq] at hck
    obtain ⟨h0, rfl⟩ := hck
    have := Nat.eq_of_beq_eq_true h0
    subst this
    rw [Nat.zero_add]
    exact hF S ρ w hcl hS h a ha
  | .one i f r, 0, listed, S, ρ, w, hck, hcl, hS, h, a, ha => by simp [ordT] at hck
  | .one i f r, d + 1, listed, S, ρ, w, hck, hcl, hS, h, a, ha => by
    simp only [ordT, Bool.and_eq_true] at hck
    rw [show d + 1 + fuel = d + fuel + 1 from by omega]
    exact head_sound all hs hck.1 hcl hS h (fun S' ρ' w' hcl' hS' h' => WT_sound all hs hF r hck.2 hcl' hS' h') a ha
  | .alt i f s m, 0, listed, S, ρ, w, hck, hcl, hS, h, a, ha => by simp [ordT] at hck
  | .alt i f s m, d + 1, listed, S, ρ, w, hck, hcl, hS, h, a, ha => by
    have hrd : (i :: m.heads) = Region.ready .any ops listed := by
      simp only [ordT, Bool.and_eq_true, Bool.not_true, Bool.false_or, beq_iff_eq] at hck
      exact hck.1.1.1.1
    rw [show d + 1 + fuel = d + fuel + 1 from by omega]
    refine ⟨fun h0 => (by rw [← hrd] at h0; cases h0), fun j hj => ?_⟩
    obtain ⟨f', s', q1, q2, q3, q4, q5⟩ := WT_alts hck h j (by show j ∈ i :: m.heads; rw [hrd]; exact hj)
    refine eff_wpOp q1 hS q4 ha fun S' ρ' a' w' h1 h2 h3 hf' hc => ⟨(by show S (lvOf all j) w'; rw [q2]; exact h1 _ _ h3), ?_⟩
    exact wpAnyJ_weaker (fun j w => h1 _ w) _ _ _ _ (WT_sound all hs hF s' q3 (hcl.set hj) h2 hc a' hf')
termination_by t => t.sz
decreasing_by
  all_goals first
    | assumption
    | (simp only [Tr.sz]; omega)
theorem WO_sound {Q : Post} (all : List It) (hs : Region.noSelect ops = true) : ∀ {ord : List It} {listed : Array Bool} {S : SF} {ρ : Env} {w : World}, ordB ops all ord listed = true → ClosedA ops listed → (∀ w, S false w → S true w) → WO P n ops (fun _ ρ w => Q .normal ρ w) ord S ρ w →
    ∀ a, Fits n ρ a → wpAnyJ P ops (lift n (nrmQ Q)) (fun j => S (lvOf all j)) (cnt ord) listed a w
  | [], listed, S, ρ, w, hck, hcl, hS, h, a, ha => ⟨by simpa [ordB] using hck, ρ, ha, rfl, h⟩
  | .o i f :: r, listed, S, ρ, w, hck, hcl, hS, h, a, ha => by
    simp only [ordB, Bool.and_eq_true] at hck
    exact head_sound all hs hck.1 hcl hS h (fun S' ρ' w' hcl' hS' h' => WO_sound all hs hck.2 hcl' hS' h') a ha
  | .par js t :: r, listed, S, ρ, w, hck, hcl, hS, h, a, ha => by
    simp only [ordB, Bool.and_eq_true] at hck
    exact WT_sound all hs (fun S' ρ' w' hcl' hS' h' => WO_sound all hs hck.2 hcl' hS' h') t hck.1 hcl hS h a ha
/-- what is held: at level 1 nothing but X is turned; at level 0, while it counts, nothing -/
def SL (X : Nat → Prop) (w : World) (K : Ghost) (al : Bool) : SF := fun b => bif b then SX X w K else bif al then SX NX w K else fun _ => False
theorem SL.up {X : Nat → Prop} {w : World} {K : Ghost} {al : Bool} (w' : World) (h : SL X w K al false w') : SL X w K al true w' := by
  cases al with
  | true => exact SX.ofN h
  | false => exact h.elim
theorem WP_ordD {Q : Post} {id : Nat} {ρ : Env} {w : World} {K : Ghost} (X : Nat → Prop) (ord : List It) (hm : P.follows .mixedOrders = true) (hck : ordOk ops ord = true) (hM : Models w K)
    (h : ∀ w', Ext NX w K w' K → Models w' K → WO P n ops (fun _ ρ w => Q .normal ρ w) ord (SL X w' K true) ρ w') : WP P n (.region id ops true) Q ρ w := fun a ha => by
  simp only [ordOk, Bool.and_eq_true] at hck
  have hlen := Nat.eq_of_beq_eq_true hck.1.2
  have h1 := WO_sound ord hck.1.1 hck.2 (fun j o ho hj => by
    have hlt := (Array.getElem?_eq_some_iff.1 ho).1
    simp [hlt] at hj) SL.up (h _ (Ext.drew _ _) hM.drew) a ha
  rw [hlen] at h1
  refine wp_mono (wp_region_any hm (wpAny_of_J _ _ _ _ h1)) ?_
  rintro e a' w' ⟨ρ', hf, rfl, hq⟩
  exact ⟨ρ', hf, hq⟩
theorem WO_nil {F : Fin'} {S : SF} {ρ : Env} {w : World} (h : F S ρ w) : WO P n ops F [] S ρ w := h
/-- a region that is carried out in its own order -/
def ordL (ord : List It) : Nat → Bool
  | n => match ord with | [] => true | .o i _ :: r => Nat.beq i n && ordL r (n + 1) | .par _ _ :: _ => false
theorem WO_list {Q : Post} : ∀ {ord : List It} {k : Nat} {S : SF} {ρ : Env} {w : World}, ordL ord k = true → WO P n ops (fun _ ρ w => Q .normal ρ w) ord S ρ w → ∀ a, Fits n ρ a → wpOps P ops (lift n Q) (List.range' k (cnt ord)) a w
  | [], k, S, ρ, w, hck, h, a, ha => by
    simp only [cnt, List.range'_zero, wpOps]
    exact ⟨ρ, ha, h⟩
  | .par _ _ :: _, k, S, ρ, w, hck, h, a, ha => by simp [ordL] at hck
  | .o i t :: r, k, S, ρ, w, hck, ⟨o, hi, hd, h⟩, a, ha => by
    simp only [ordL, Bool.and_eq_true] at hck
    have he := Nat.eq_of_beq_eq_true hck.1
    subst he
    rw [cnt, List.range'_succ]
    simp only [wpOps, hi]
    rw [ha.yielded]
    rcases h with ⟨hw, h⟩ | ⟨hw, -, hr⟩
    · rw [if_pos hw]
      refine .inl ?_
      rcases h with ⟨-, hS, v, hv, hr⟩ | ⟨-, hst⟩
      · exact (Step.value (N := fun v' w' => v' = v ∧ w' = w) (hv w hS) ⟨rfl, rfl⟩).wp ha fun v' w' ⟨e1, e2⟩ => by
          subst e1; subst e2
          exact WO_list hck.2 hr _ (ha.updO hd v')
      · exact hst.wp ha fun v w' ⟨S', h1, h2, h3, h4⟩ => WO_list hck.2 h4 _ (ha.updO hd v)
    · rw [if_neg (by simp [hw])]
      exact WO_list hck.2 hr _ (ha.updO hd undef)
theorem WP_own {Q : Post} {id : Nat} {ρ : Env} {w : World} {K : Ghost} (X : Nat → Prop) (ord : List It) (hck : (ordL ord 0 && Nat.beq (cnt ord) ops.size) = true) (hM : Models w K)
    (h : WO P n ops (fun _ ρ w => Q .normal ρ w) ord (SL X w K true) ρ w) : WP P n (.region id ops false) Q ρ w := fun a ha => by
  simp only [Bool.and_eq_true] at hck
  have hlen := Nat.eq_of_beq_eq_true hck.2
  refine wp_region ?_
  rw [List.range_eq_range', ← hlen]
  exact WO_list hck.1 h a ha
end
section
variable {P : Program} {n : Nat} {C' : Fin'} {ops : Array Oper} {o : Oper} {ρ : Env} {w : World} {K : Ghost} {X : Nat → Prop} {i : Nat}
variable {α β : Type} {k : Kd α}
theorem gN (h : o.guard = none) : Region.wanted o (yieldE ops ρ) = true := by simp [Region.wanted, h]
theorem gY {j : Nat} {want b : Bool} {d : Nat} (hg : o.guard = some (j, want)) (hd : dstOf ops j = some d) (hv : ρ d = .bool b) (hb : b = want) : Region.wanted o (yieldE ops ρ) = true := by
  have hy : yieldE ops ρ j = some b := by
    unfold dstOf at hd
    unfold yieldE
    rw [hd]
    simp only [hv]
  simp [Region.wanted, hg, hy, hb]
theorem gF {j : Nat} {want b : Bool} {d : Nat} (hg : o.guard = some (j, want)) (hd : dstOf ops j = some d) (hv : ρ d = .bool b) (hb : b = !want) : Region.wanted o (yieldE ops ρ) = false := by
  have hy : yieldE ops ρ j = some b := by
    unfold dstOf at hd
    unfold yieldE
    rw [hd]
    simp only [hv]
  cases want <;> simp [Region.wanted, hg, hy, hb]
theorem gU {j : Nat} {want : Bool} {d : Nat} (hg : o.guard = some (j, want)) (hd : dstOf ops j = some d) (hv : ρ d = undef) : Region.wanted o (yieldE ops ρ) = false := by
  have hy : yieldE ops ρ j = none := by
    unfold dstOf at hd
    unfold yieldE
    rw [hd]
    simp only [hv]
    rfl
  simp [Region.wanted, hg, hy]
theorem SL.at {al : Bool} (hM : Models w K) {f : Nat} (h : lv f = false → al = true) : SL X w K al (lv f) w := by
  unfold SL
  cases hf : lv f with
  | true => exact SX.self hM
  | false => rw [h hf]; exact SX.self hM
theorem SL.down {X : Nat → Prop} {w w1 : World} {K K1 : Ghost} (h : Ext NX w K w1 K1) {al : Bool} (b : Bool) (w' : World) (h' : SL X w1 K1 al b w') : SL X w K al b w' := by
  cases b with
  | true => exact SX.back h.ofN h'
  | false => cases al with
    | true => exact SX.back h h'
    | false => exact h'
theorem SL.down1 {X : Nat → Prop} {w w1 : World} {K K1 : Ghost} (h : Ext X w K w1 K1) {al : Bool} (b : Bool) (w' : World) (h' : SL X w1 K1 false b w') : SL X w K al b w' := by
  cases b with
  | true => exact SX.back h h'
  | false => exact h'.elim
theorem WO_skip (f : Nat) {al : Bool} (hM : Models w K) (hl : lv f = false → al = true) (hi : ops[i]? = some o) (hg : Region.wanted o (yieldE ops ρ) = false) (hd : dstOk n o.dst = true) (h : C' (SL X w K al) (updO ρ o.dst undef) w) : stepC P n ops i f C' (SL X w K al) ρ w := ⟨o, hi, hd, .inr ⟨hg, SL.at hM hl, h⟩⟩
theorem WO_eff {al : Bool} (hi : ops[i]? = some o) (hg : Region.wanted o (yieldE ops ρ) = true) (hd : dstOk n o.dst = true)
    (h : Step P o ρ w fun v w' => ∃ K', Ext X w K w' K' ∧ Models w' K' ∧ C' (SL X w' K' false) (updO ρ o.dst v) w') : stepC P n ops i 1 C' (SL X w K al) ρ w :=
  ⟨o, hi, hd, .inl ⟨hg, .inr ⟨rfl, h.mono fun v w' ⟨K', hE, hM, hr⟩ => ⟨SL X w' K' false, SL.down1 hE, SL.up, SX.self hM, hr⟩⟩⟩⟩
theorem WO_eff0 (hi : ops[i]? = some o) (hg : Region.wanted o (yieldE ops ρ) = true) (hd : dstOk n o.dst = true)
    (h : Step P o ρ w fun v w' => ∃ K', Ext NX w K w' K' ∧ Models w' K' ∧ C' (SL X w' K' true) (updO ρ o.dst v) w') : stepC P n ops i 0 C' (SL X w K true) ρ w :=
  ⟨o, hi, hd, .inl ⟨hg, .inr ⟨rfl, h.mono fun v w' ⟨K', hE, hM, hr⟩ => ⟨SL X w' K' true, SL.down hE, SL.up, SX.self hM, hr⟩⟩⟩⟩
theorem WO_held {al : Bool} {v : Value} (hM : Models w K) (h : ∀ w' K', Ext X w K w' K' → Models w' K' → (execOp (ev ρ) o).run P w' = .ok (.value v) w') (hi : ops[i]? = some o) (hg : Region.wanted o (yieldE ops ρ) = true) (hd : dstOk n o.dst = true)
    (hn : C' (SL X w K al) (updO ρ o.dst v) w) : stepC P n ops i 3 C' (SL X w K al) ρ w :=
  ⟨o, hi, hd, .inl ⟨hg, .inl ⟨rfl, SX.self hM, v, fun w' ⟨K', hE, hM⟩ => h w' K' hE hM, hn⟩⟩⟩
theorem WO_held0 {v : Value} (hM : Models w K) (h : ∀ w' K', Ext NX w K w' K' → Models w' K' → (execOp (ev ρ) o).run P w' = .ok (.value v) w') (hi : ops[i]? = some o) (hg : Region.wanted o (yieldE ops ρ) = true) (hd : dstOk n o.dst = true)
    (hn : C' (SL X w K true) (updO ρ o.dst v) w) : stepC P n ops i 2 C' (SL X w K true) ρ w :=
  ⟨o, hi, hd, .inl ⟨hg, .inl ⟨rfl, SX.self hM, v, fun w' ⟨K', hE, hM⟩ => h w' K' hE hM, hn⟩⟩⟩
theorem WO_held1 {v : Value} {al : Bool} {f : Nat} (hf : tk f = false) (hl : lv f = false → al = true) (hM : Models w K) (h : ∀ w' K', Ext NX w K w' K' → Models w' K' → (execOp (ev ρ) o).run P w' = .ok (.value v) w') (hi : ops[i]? = some o) (hg : Region.wanted o (yieldE ops ρ) = true) (hd : dstOk n o.dst = true)
    (hn : C' (SL X w K al) (updO ρ o.dst v) w) : stepC P n ops i f C' (SL X w K al) ρ w :=
  ⟨o, hi, hd, .inl ⟨hg, .inr ⟨hf, Step.value (h w K (Ext.refl _ _ _) hM) ⟨SL X w K al, fun _ _ h => h, SL.up, SL.at hM hl, hn⟩⟩⟩⟩
/-- what only reckons; whatever its flag -/
theorem WO_pure (v : Value) {al : Bool} {f : Nat} (ht : tk f = true) (hl : lv f = false → al = true) (hM : Models w K) (h : ∀ w' : World, (execOp (ev ρ) o).run P w' = .ok (.value v) w') (hi : ops[i]? = some o) (hg : Region.wanted o (yieldE ops ρ) = true) (hd : dstOk n o.dst = true)
    (hn : C' (SL X w K al) (updO ρ o.dst v) w) : stepC P n ops i f C' (SL X w K al) ρ w := ⟨o, hi, hd, .inl ⟨hg, .inl ⟨ht, SL.at hM hl, v, fun w' _ => h w', hn⟩⟩⟩
end
section
variable {P : Program} {n : Nat} {C' : Fin'} {ops : Array Oper} {o : Oper} {ρ : Env} {w : World} {K : Ghost} {X : Nat → Prop} {i : Nat}
variable {α : Type} {k : Kd α}
theorem WO_V {K0 : Ghost} {x : α} {al : Bool} {f : Nat} (ht : tk f = true) (hl : lv f = false → al = true) (hM : Models w K) (h : ∃ v, (∀ w' : World, (execOp (ev ρ) o).run P w' = .ok (.value v) w') ∧ k.V K0 x v) (hi : ops[i]? = some o) (hg : Region.wanted o (yieldE ops ρ) = true) (hd : dstOk n o.dst = true)
    (hn : ∀ v, k.V K0 x v → C' (SL X w K al) (updO ρ o.dst v) w) : stepC P n ops i f C' (SL X w K al) ρ w := by
  obtain ⟨v, hr, hV⟩ := h
  exact WO_pure v ht hl hM hr hi hg hd (hn v hV)
theorem WO_P {K0 : Ghost} {x : α} {al : Bool} {f : Nat} (ht : tk f = true) (hl : lv f = false → al = true) (hM : Models w K) (h : ∃ bl off, (∀ w' : World, (execOp (ev ρ) o).run P w' = .ok (.value (.pointer (some ⟨bl, off, none⟩))) w') ∧ k.Pt K0 x (.pointer (some ⟨bl, off, none⟩))) (hi : ops[i]? = some o) (hg : Region.wanted o (yieldE ops ρ) = true) (hd : dstOk n o.dst = true)
    (hn : ∀ bl off, k.Pt K0 x (.pointer (some ⟨bl, off, none⟩)) → C' (SL X w K al) (updO ρ o.dst (.pointer (some ⟨bl, off, none⟩))) w) : stepC P n ops i f C' (SL X w K al) ρ w := by
  obtain ⟨bl, off, hr, hV⟩ := h
  exact WO_pure (.pointer (some ⟨bl, off, none⟩)) ht hl hM hr hi hg hd (hn bl off hV)
theorem WO_bq {C : Bool → Prop} {al : Bool} {f : Nat} (ht : tk f = true) (hl : lv f = false → al = true) (hM : Models w K) (h : ∃ r : Bool, (∀ w' : World, (execOp (ev ρ) o).run P w' = .ok (.value (.bool r)) w') ∧ C r) (hi : ops[i]? = some o) (hg : Region.wanted o (yieldE ops ρ) = true) (hd : dstOk n o.dst = true)
    (hn : ∀ r, C r → C' (SL X w K al) (updO ρ o.dst (.bool r)) w) : stepC P n ops i f C' (SL X w K al) ρ w := by
  obtain ⟨r, hr, hV⟩ := h
  exact WO_pure (.bool r) ht hl hM hr hi hg hd (hn r hV)
theorem WO_sA  {al : Bool} {f : Nat} (ht : tk f = true) (hl : lv f = false → al = true) (hM : Models w K) (h : ∃ A, ∀ w' : World, (execOp (ev ρ) o).run P w' = .ok (.value (.slice A 0 0)) w') (hi : ops[i]? = some o) (hg : Region.wanted o (yieldE ops ρ) = true) (hd : dstOk n o.dst = true)
    (hn : ∀ A, C' (SL X w K al) (updO ρ o.dst (.slice A 0 0)) w) : stepC P n ops i f C' (SL X w K al) ρ w := by
  obtain ⟨A, hr⟩ := h
  exact WO_pure (.slice A 0 0) ht hl hM hr hi hg hd (hn A)
theorem WO_L {x : α} {al : Bool} (hM : Models w K) (h : ∃ v, (∀ w' K', Ext X w K w' K' → Models w' K' → (execOp (ev ρ) o).run P w' = .ok (.value v) w') ∧ k.V K x v) (hi : ops[i]? = some o) (hg : Region.wanted o (yieldE ops ρ) = true) (hd : dstOk n o.dst = true)
    (hn : ∀ v, k.V K x v → C' (SL X w K al) (updO ρ o.dst v) w) : stepC P n ops i 3 C' (SL X w K al) ρ w := by
  obtain ⟨v, hr, hV⟩ := h
  exact WO_held hM hr hi hg hd (hn v hV)
theorem WO_L0 {x : α} (hM : Models w K) (h : ∃ v, (∀ w' K', Ext NX w K w' K' → Models w' K' → (execOp (ev ρ) o).run P w' = .ok (.value v) w') ∧ k.V K x v) (hi : ops[i]? = some o) (hg : Region.wanted o (yieldE ops ρ) = true) (hd : dstOk n o.dst = true)
    (hn : ∀ v, k.V K x v → C' (SL X w K true) (updO ρ o.dst v) w) : stepC P n ops i 2 C' (SL X w K true) ρ w := by
  obtain ⟨v, hr, hV⟩ := h
  exact WO_held0 hM hr hi hg hd (hn v hV)
theorem WO_L1 {x : α} {al : Bool} {f : Nat} (hf : tk f = false) (hl : lv f = false → al = true) (hM : Models w K) (h : ∃ v, (∀ w' K', Ext NX w K w' K' → Models w' K' → (execOp (ev ρ) o).run P w' = .ok (.value v) w') ∧ k.V K x v) (hi : ops[i]? = some o) (hg : Region.wanted o (yieldE ops ρ) = true) (hd : dstOk n o.dst = true)
    (hn : ∀ v, k.V K x v → C' (SL X w K al) (updO ρ o.dst v) w) : stepC P n ops i f C' (SL X w K al) ρ w := by
  obtain ⟨v, hr, hV⟩ := h
  exact WO_held1 hf hl hM hr hi hg hd (hn v hV)
theorem WO_LK {x : α} {b : Bool} {al : Bool} (hM : Models w K) (h : ∃ r, (∀ w' K', Ext X w K w' K' → Models w' K' → (execOp (ev ρ) o).run P w' = .ok (.value (.tuple #[r, .bool b])) w') ∧ k.V K x r) (hi : ops[i]? = some o) (hg : Region.wanted o (yieldE ops ρ) = true) (hd : dstOk n o.dst = true)
    (hn : ∀ r, k.V K x r → C' (SL X w K al) (updO ρ o.dst (.tuple #[r, .bool b])) w) : stepC P n ops i 3 C' (SL X w K al) ρ w := by
  obtain ⟨r, hr, hV⟩ := h
  exact WO_held hM hr hi hg hd (hn r hV)
theorem WO_LK0 {x : α} {b : Bool} (hM : Models w K) (h : ∃ r, (∀ w' K', Ext NX w K w' K' → Models w' K' → (execOp (ev ρ) o).run P w' = .ok (.value (.tuple #[r, .bool b])) w') ∧ k.V K x r) (hi : ops[i]? = some o) (hg : Region.wanted o (yieldE ops ρ) = true) (hd : dstOk n o.dst = true)
    (hn : ∀ r, k.V K x r → C' (SL X w K true) (updO ρ o.dst (.tuple #[r, .bool b])) w) : stepC P n ops i 2 C' (SL X w K true) ρ w := by
  obtain ⟨r, hr, hV⟩ := h
  exact WO_held0 hM hr hi hg hd (hn r hV)
theorem WO_LK1 {x : α} {b : Bool} {al : Bool} {f : Nat} (hf : tk f = false) (hl : lv f = false → al = true) (hM : Models w K) (h : ∃ r, (∀ w' K', Ext NX w K w' K' → Models w' K' → (execOp (ev ρ) o).run P w' = .ok (.value (.tuple #[r, .bool b])) w') ∧ k.V K x r) (hi : ops[i]? = some o) (hg : Region.wanted o (yieldE ops ρ) = true) (hd : dstOk n o.dst = true)
    (hn : ∀ r, k.V K x r → C' (SL X w K al) (updO ρ o.dst (.tuple #[r, .bool b])) w) : stepC P n ops i f C' (SL X w K al) ρ w := by
  obtain ⟨r, hr, hV⟩ := h
  exact WO_held1 hf hl hM hr hi hg hd (hn r hV)
end
section
variable {P : Program} {w : World} {ρ : Env} {dst : Option Tmp} {ty : TypeId} {pos : String} {af : Array Edge} {g : Option (Nat × Bool)} {x y z : Operand} {b q r : Bool}
theorem R_pick1 (hz : ev ρ z = .bool b) (hb : b = true) (hx : ev ρ x = .bool q) (he : q = r) : (execOp (ev ρ) ⟨dst, .pick z x y, ty, pos, af, g⟩).run P w = .ok (.value (.bool r)) w := by
  subst hb; subst he
  unfold execOp
  simp only [hz, hx]
  simp [asBool]
theorem R_pick2 (hz : ev ρ z = .bool b) (hb : b = false) (hy : ev ρ y = .bool q) (he : q = r) : (execOp (ev ρ) ⟨dst, .pick z x y, ty, pos, af, g⟩).run P w = .ok (.value (.bool r)) w := by
  subst hb; subst he
  unfold execOp
  simp only [hz, hy]
  simp [asBool]
theorem and_T {p q : Prop} [Decidable p] [Decidable q] (hp : p) : decide q = decide (p ∧ q) := by simp [hp]
theorem and_T' {p : Prop} [Decidable p] {a : Bool} (hp : p) : a = decide (p ∧ a = true) := by simp [hp]
theorem and_F {p q : Prop} [Decidable p] [Decidable q] (hp : ¬ p) : false = decide (p ∧ q) := by simp [hp]
theorem or_T {p q : Prop} [Decidable p] [Decidable q] (hp : p) : true = decide (p ∨ q) := by simp [hp]
theorem or_F {p q : Prop} [Decidable p] [Decidable q] (hp : ¬ p) : decide q = decide (p ∨ q) := by simp [hp]
theorem or_F' {p : Prop} [Decidable p] {a : Bool} (hp : ¬ p) : a = decide (p ∨ a = true) := by simp [hp]
theorem R_notb {a : Bool} {t1 : TypeId} (hx : ev ρ x = .bool a) : (execOp (ev ρ) ⟨dst, .unOp .not t1 x, ty, pos, af, g⟩).run P w = .ok (.value (.bool (decide (¬ (a = true))))) w := by
  rw [R_not hx]
  cases a <;> rfl
theorem ne_new {a b n : Nat} (h : n ≤ a) (h2 : b < n) : ¬ (a = b) := fun e => by omega
end
/-! ### ways that meet -/
section
variable {P : Program} {n : Nat} {Q : Post} {ops : Array Oper} {ρ : Env} {w : World}
def MeetQ (M : List Nat) (J : List (Nat × Value) → World → Prop) (ρ : Env) (Q : Post) : Post
  | .normal, ρ', w' => ∃ l, J l w' ∧ Off M ρ' ρ ∧ Slots ρ' l
  | e, ρ', w' => Q e ρ' w'
theorem WP_meet {c : Code} (M : List Nat) (J : List (Nat × Value) → World → Prop) (h1 : WP P n c (MeetQ M J ρ Q) ρ w) (h2 : ∀ l σ w', J l w' → Q .normal (lay M σ ρ l) w') : WP P n c Q ρ w := by
  refine h1.mono ?_
  rintro e ρ' w' h
  cases e with
  | normal =>
    obtain ⟨l, hJ, hoff, hl⟩ := h
    have he : ρ' = lay M ρ' ρ l := rebase hoff l hl.all
    rw [he]
    exact h2 l ρ' w' hJ
  | exit id => exact h
  | goto l => exact h
  | ret => exact h
  | panic ch => exact h
  | outgrown => exact h
theorem MeetQ.mk {M : List Nat} {J : List (Nat × Value) → World → Prop} {ρ' : Env} (l : List (Nat × Value)) (h1 : J l w) (h2 : Off M ρ' ρ) (h3 : Slots ρ' l) : MeetQ M J ρ Q .normal ρ' w := ⟨l, h1, h2, h3⟩
/-- the same inside a region -/
def MeetF (M : List Nat) (X : Nat → Prop) (al : Bool) (J : List (Nat × Value) → World → Ghost → Prop) (ρ : Env) : Fin' := fun S ρ' w' => ∃ l K', S = SL X w' K' al ∧ J l w' K' ∧ Off M ρ' ρ ∧ Slots ρ' l
theorem WO_meet {F : Fin'} {S : SF} {al : Bool} {l1 l2 : List It} (M : List Nat) (X : Nat → Prop) (J : List (Nat × Value) → World → Ghost → Prop) (h1 : WO P n ops (MeetF M X al J ρ) l1 S ρ w)
    (h2 : ∀ l σ w' K', J l w' K' → WO P n ops F l2 (SL X w' K' al) (lay M σ ρ l) w') : WO P n ops F (l1 ++ l2) S ρ w := by
  refine WO_app h1 ?_
  rintro S' ρ' w' ⟨l, K', rfl, hJ, hoff, hl⟩
  have he : ρ' = lay M ρ' ρ l := rebase hoff l hl.all
  rw [he]
  exact h2 l ρ' w' K' hJ
theorem WO_end {M : List Nat} {X : Nat → Prop} {al : Bool} {J : List (Nat × Value) → World → Ghost → Prop} {ρ' : Env} {S : SF} (l : List (Nat × Value)) (K' : Ghost) (hS : S = SL X w K' al) (h1 : J l w K') (h2 : Off M ρ' ρ) (h3 : Slots ρ' l) : WO P n ops (MeetF M X al J ρ) [] S ρ' w := ⟨l, K', hS, h1, h2, h3⟩
theorem WO_par {F : Fin'} {S : SF} {al : Bool} {js : List Nat} {t : Tr} {l2 : List It} (M : List Nat) (X : Nat → Prop) (J : List (Nat × Value) → World → Ghost → Prop) (h1 : WT P n ops (MeetF M X al J ρ) t S ρ w)
    (h2 : ∀ l σ w' K', J l w' K' → WO P n ops F l2 (SL X w' K' al) (lay M σ ρ l) w') : WO P n ops F (.par js t :: l2) S ρ w := by
  refine WT.mono ?_ h1
  rintro S' ρ' w' ⟨l, K', rfl, hJ, hoff, hl⟩
  have he : ρ' = lay M ρ' ρ l := rebase hoff l hl.all
  rw [he]
  exact h2 l ρ' w' K' hJ
theorem WT_end {M : List Nat} {X : Nat → Prop} {al : Bool} {J : List (Nat × Value) → World → Ghost → Prop} {ρ' : Env} {S : SF} (l : List (Nat × Value)) (K' : Ghost) (hS : S = SL X w K' al) (h1 : J l w K') (h2 : Off M ρ' ρ) (h3 : Slots ρ' l) : WT P n ops (MeetF M X al J ρ) .fin S ρ' w := ⟨l, K', hS, h1, h2, h3⟩
theorem WT_altC {F : Fin'} {S : SF} {i f a b : Nat} {s c d : Tr} (h1 : stepC P n ops i f (WT P n ops F s) S ρ w) (h2 : WT P n ops F (.alt a b c d) S ρ w) : WT P n ops F (.alt i f s (.alt a b c d)) S ρ w := ⟨h1, h2⟩
theorem WT_altL {F : Fin'} {S : SF} {i f : Nat} {s : Tr} (h1 : stepC P n ops i f (WT P n ops F s) S ρ w) : WT P n ops F (.alt i f s .fin) S ρ w := ⟨h1, trivial⟩
end
end Go.Inc
