/-
  BASE 20: pointers to what is known for good, or nil; books of notes as one thing of one's own.
-/
import Derived.Test.YtfbhiilolpamaaaP4
set_option linter.unusedVariables false
namespace Go.Inc
open Go Go.RowKit

/-- a pointer to what is known for good; none: nil -/
def Kd.ptr {α : Type} (k : Kd α) : Kd (Option α) where
  sz := 1
  agg := false
  R := fun K x cs => match x with
    | none => cs = [.pointer none]
    | some y => ∃ v, cs = [v] ∧ k.Pt K y v
  wf := fun x => ∀ y, x = some y → k.wf y
  z := none
  zc := [.pointer none]
  len := fun {K x cs} h => by
    cases x with
    | none => simp [show cs = [.pointer none] from h]
    | some y => obtain ⟨v, rfl, _⟩ := h; rfl
  mono := fun {K K' x cs} hle h => by
    cases x with
    | none => exact h
    | some y => obtain ⟨v, rfl, hP⟩ := h; exact ⟨v, rfl, hP.mono hle⟩
  one := fun {K x cs} h => by
    cases x with
    | none => simp [show cs = [.pointer none] from h, Value.oneCell']
    | some y =>
      obtain ⟨v, rfl, hP⟩ := h
      obtain ⟨b, o, rfl⟩ := hP.form
      simp [Value.oneCell']
  hwf := fun {K x cs} h y hy => by
    subst hy
    obtain ⟨v, rfl, hP⟩ := h
    obtain ⟨b, e, pre, mid, post, hv, hK, hR⟩ := hP
    exact k.hwf hR
  hz := fun _ => rfl
  hs := fun _ => rfl
section
variable {P : Program} {α β : Type} {k : Kd α} {k' : Kd β} {e t : TypeId} {by_ : Nat} {w w' : World} {K K' : Ghost} {ρ : Env}
variable {dst : Option Tmp} {ty : TypeId} {pos : String} {af : Array Edge} {g : Option (Nat × Bool)} {x y z : Operand} {v u : Value}
theorem ptr_V0 : (Kd.ptr k).V K none (.pointer none) := ⟨[.pointer none], rfl, rfl⟩
theorem ptr_V {a : α} (h : k.Pt K a v) : (Kd.ptr k).V K (some a) v := ⟨[v], ⟨v, rfl, h⟩, rfl⟩
theorem ptr_form {a : Option α} (h : (Kd.ptr k).V K a v) : (a = none ∧ v = .pointer none) ∨ ∃ y b o, a = some y ∧ v = .pointer (some ⟨b, o, none⟩) ∧ k.Pt K y v := by
  obtain ⟨cs, h, rfl⟩ := h
  cases a with
  | none => exact .inl ⟨rfl, by rw [show cs = [.pointer none] from h]; rfl⟩
  | some y =>
    obtain ⟨v, rfl, hP⟩ := h
    obtain ⟨b, o, hv⟩ := hP.form
    exact .inr ⟨y, b, o, rfl, hv, hP⟩
theorem ptr_some {a : Option α} (h : (Kd.ptr k).V K a v) (hn : ¬ (a.isNone = true)) : ∃ y b o, a = some y ∧ v = .pointer (some ⟨b, o, none⟩) ∧ k.Pt K y (.pointer (some ⟨b, o, none⟩)) := by
  rcases ptr_form h with ⟨rfl, _⟩ | ⟨y, b, o, h1, rfl, h3⟩
  · exact absurd rfl hn
  · exact ⟨y, b, o, h1, rfl, h3⟩
theorem R_ptrnil {a : Option α} (hx : ev ρ x = v) (hV : (Kd.ptr k).V K a v) (hy : ev ρ y = .pointer none) {t1 t2 t3 : TypeId} (ht : P.underlying t1 = some (.pointer t3)) : (execOp (ev ρ) ⟨dst, .binOp .eql t1 x y t2, ty, pos, af, g⟩).run P w = .ok (.value (.bool a.isNone)) w := by
  rcases ptr_form hV with ⟨rfl, rfl⟩ | ⟨y', b, o, rfl, rfl, _⟩
  · exact R_peq0 hx hy ht
  · exact R_peq hx hy ht
theorem R_ptrnn {a : Option α} (hx : ev ρ x = v) (hV : (Kd.ptr k).V K a v) (hy : ev ρ y = .pointer none) {t1 t2 t3 : TypeId} (ht : P.underlying t1 = some (.pointer t3)) : (execOp (ev ρ) ⟨dst, .binOp .neq t1 x y t2, ty, pos, af, g⟩).run P w = .ok (.value (.bool a.isSome)) w := by
  rcases ptr_form hV with ⟨rfl, rfl⟩ | ⟨y', b, o, rfl, rfl, _⟩
  · exact R_pne0 hx hy ht
  · exact R_pne hx hy ht
end

/-- a map of which nothing is told -/
def Kd.anm : Kd Unit where
  sz := 1
  agg := false
  R := fun _ _ cs => ∃ v, cs = [v] ∧ v.oneCell' = true
  wf := fun _ => True
  z := ()
  zc := [.map none]
  len := fun ⟨_, h, _⟩ => by simp [h]
  mono := fun _ h => h
  one := fun ⟨_, h, h2⟩ => by simp [h, h2]
  hwf := fun _ => trivial
  hz := fun _ => ⟨_, rfl, rfl⟩
  hs := fun _ => rfl
/-! ### books -/
abbrev kdNote : Kd Nt := Kd.pr (Kd.arr 32 Kd.byte) (Kd.sl Kd.byte)
abbrev kdBook : Kd ((Value × Value) × Int) := Kd.pr (Kd.pr Kd.rsl Kd.rmp) (Kd.int .i64)
/-- a book whose notes are known for good -/
abbrev kdBookF : Kd ((List Nt × Unit) × Int) := Kd.pr (Kd.pr (Kd.sl kdNote) Kd.anm) (Kd.int .i64)
/-- a book's notes, and how often it has hashed; none: no book -/
abbrev BookA := Option (List Nt × Int)
def BookB (e : TypeId) (w : World) (K : Ghost) (v : Value) (F : Nat → Prop) (l : List Nt) (c : Int) : Prop :=
  ∃ b pre post lv mv m, v = .pointer (some ⟨b, List.length pre, none⟩) ∧ Bx kdBook w K b pre post ((lv, mv), c) ∧ Own kdNote e w K l lv ∧ Mp (Kd.arr 32 Kd.byte) (Kd.int .i64) w K m mv ∧ BookInv l m ∧
    (∀ g, (g = b ∨ ob lv = some g ∨ mb mv = some g) → F g) ∧ (∀ g, F g → g < w.heap.size)
def BookE (e : TypeId) (w : World) (K : Ghost) (v : Value) (F : Nat → Prop) : BookA → Prop
  | none => v = .pointer none ∧ F = NX
  | some x => BookB e w K v F x.1 x.2
section
variable {e : TypeId} {w w' : World} {K K' : Ghost} {v : Value} {F : Nat → Prop} {x : BookA}
theorem BookE.lt (h : BookE e w K v F x) : ∀ g, F g → g < w.heap.size := by
  cases x with
  | none => intro g hg; rw [h.2] at hg; exact hg.elim
  | some x => obtain ⟨_, _, _, _, _, _, _, _, _, _, _, _, h⟩ := h; exact h
theorem BookE.ext {X : Nat → Prop} (h : BookE e w K v F x) (hE : Ext X w K w' K') (hX : ∀ g, F g → ¬ X g) : BookE e w' K' v F x := by
  cases x with
  | none => exact h
  | some x =>
    obtain ⟨b, pre, post, lv, mv, m, hv, hB, hO, hm, hi, hF, hlt⟩ := h
    exact ⟨b, pre, post, lv, mv, m, hv, hB.ext hE (hX b (hF b (.inl rfl))), hO.ext hE (fun g hg => hX g (hF g (.inr (.inl hg)))), hm.ext hE (fun g hg => hX g (hF g (.inr (.inr hg)))), hi, hF, fun g hg => Nat.lt_of_lt_of_le (hlt g hg) hE.size⟩
theorem BookE.extN (h : BookE e w K v F x) (hE : Ext NX w K w' K') : BookE e w' K' v F x := h.ext hE (fun _ _ h => h)
theorem BookE.nil : BookE e w K (.pointer none) NX none := ⟨rfl, rfl⟩
theorem BookE.new {b : Nat} (h : Bx kdBook w K b [] [] ((.slice none 0 0, .map none), 0)) : BookE e w K (.pointer (some ⟨b, 0, none⟩)) (fun c => c = b) (some ([], 0)) :=
  ⟨b, [], [], .slice none 0 0, .map none, [], rfl, h, Own.nil, .inl ⟨rfl, rfl⟩, fun s => rfl, fun g hg => by
    rcases hg with h | h | h
    · exact h
    · exact nilS h
    · exact nilM h, fun g hg => by subst hg; exact h.lt⟩
theorem BookE.mk {b : Nat} {pre post : List Value} {lv mv : Value} {m : List (List UInt8 × Int)} {l : List Nt} {c : Int} (hB : Bx kdBook w K b pre post ((lv, mv), c)) (hO : Own kdNote e w K l lv) (hm : Mp (Kd.arr 32 Kd.byte) (Kd.int .i64) w K m mv) (hi : BookInv l m) :
    BookE e w K (.pointer (some ⟨b, pre.length, none⟩)) (fun g => g = b ∨ ob lv = some g ∨ mb mv = some g) (some (l, c)) :=
  ⟨b, pre, post, lv, mv, m, rfl, hB, hO, hm, hi, fun _ h => h, fun g hg => by
    rcases hg with rfl | h | h
    · exact hB.lt
    · exact hO.lt g h
    · exact hm.lt g h⟩
/-- what is known of a row of one's own, when its box is given up -/
theorem BookE.freeze (hM : Models w K) (h : BookE e w K v F x) : ∃ K', Ext F w K w K' ∧ Models w K' ∧ (Kd.ptr kdBookF).V K' (x.map fun y => ((y.1, ()), y.2)) v := by
  cases x with
  | none => obtain ⟨rfl, rfl⟩ := h; exact ⟨K, Ext.refl _ _ _, hM, ptr_V0⟩
  | some x =>
    obtain ⟨b, pre, post, lv, mv, m, rfl, ⟨hK, cs, T, hh, hR⟩, hO, hm, hi, hF, hlt⟩ := h
    obtain ⟨c1, c2, rfl, ⟨c3, c4, rfl, h3, h4⟩, h5⟩ := hR
    have hle : K.le (K.set b T (pre ++ (c3 ++ c4 ++ c2) ++ post)) := Ghost.le_set_new hK _ _
    have hOV := hO.V.mono hle
    obtain ⟨e3, _⟩ := h3
    subst e3
    refine ⟨K.set b T (pre ++ ([lv] ++ c4 ++ c2) ++ post), ⟨hle, fun _ _ _ => rfl, fun c _ hc => Ghost.set_other _ _ _ (fun e => hc (hF c (.inl e))), Nat.le_refl _, rfl, rfl, rfl⟩, ?_, ptr_V ⟨b, T, pre, [lv] ++ c4 ++ c2, post, rfl, Ghost.set_same _ _ _ _, ?_⟩⟩
    · intro c t l hc
      by_cases he : c = b
      · subst he
        rw [Ghost.set_same] at hc
        cases hc
        exact ⟨_, _, hh, by rw [List.toList_toArray]; exact List.prefix_refl _⟩
      · rw [Ghost.set_other _ _ _ he] at hc
        exact hM c t l hc
    · exact ⟨[lv] ++ c4, c2, rfl, ⟨[lv], c4, rfl, hOV.un1 rfl, ⟨mv, h4.1, h4.2⟩⟩, h5⟩
end
end Go.Inc
