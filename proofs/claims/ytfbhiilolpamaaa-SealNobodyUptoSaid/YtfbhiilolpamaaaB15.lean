/-
  BASE 15: structs and arrays built; maps.
-/
import Derived.Test.YtfbhiilolpamaaaB14
set_option linter.unusedVariables false
namespace Go.Inc
open Go Go.RowKit

/-- a struct's parts, one laid over the other -/
inductive Parts (P : Program) (K : Ghost) (fs : Array Field) {α : Type} (k : Kd α) : List (Nat × Value) → α → α → Prop
  | nil {X : α} : Parts P K fs k [] X X
  | cons {β : Type} {k' : Kd β} {i by_ off : Nat} {fd : Field} {v : Value} {X Z : α} {y : β} {gg : α → β} {ss : α → β → α} {r : List (Nat × Value)} (hf : fs[i]? = some fd) (ho : fd.offset = off) (hT : TyOk P fd.type k' by_) (F : Foc k k' off gg ss) (hV : k'.V K y v) (hr : Parts P K fs k r (ss X y) Z) : Parts P K fs k ((i, v) :: r) X Z
section
variable {P : Program} {α β γ : Type} {k : Kd α} {k' : Kd β} {e t : TypeId} {by_ : Nat} {w : World} {K : Ghost} {ρ : Env}
variable {dst : Option Tmp} {ty : TypeId} {pos : String} {af : Array Edge} {g : Option (Nat × Bool)} {x y z : Operand} {v u : Value} {ik ik' : IntKind} {a b : Int} {p q : Bool}
theorem fold_set : ∀ (m : List Value) (o s : Nat) (c : Array Value), o + s + m.length ≤ c.size → ((m.zipIdx s).foldl (fun cs (p : Value × Nat) => cs.setIfInBounds (o + p.2) p.1) c).toList = c.toList.take (o + s) ++ m ++ c.toList.drop (o + s + m.length) := by
  intro m
  induction m with
  | nil => intro o s c _; simp
  | cons x m ih =>
    intro o s c hc
    simp only [List.length_cons] at hc
    rw [List.zipIdx_cons, List.foldl_cons, ih o (s + 1) _ (by simp; omega)]
    simp only [Array.toList_setIfInBounds]
    have h1 : (c.toList.set (o + s) x).take (o + (s + 1)) = c.toList.take (o + s) ++ [x] := by
      rw [← Nat.add_assoc, List.take_add_one]
      rw [List.take_set_of_le (Nat.le_refl _)]
      congr 1
      have : o + s < c.toList.length := by simp; omega
      rw [List.getElem?_set_self this]
      rfl
    have h2 : (c.toList.set (o + s) x).drop (o + (s + 1) + m.length) = c.toList.drop (o + s + (m.length + 1)) := by
      rw [List.drop_set_of_lt (by omega)]
      congr 1
      omega
    rw [h1, h2]
    simp
theorem fill_part {c : Array Value} {off : Nat} {pre mid post : List Value} (hc : c.toList = pre ++ mid ++ post) (hp : pre.length = off) (hv : v.cells.toList.length = mid.length) (place : Nat → Option (Nat × Nat)) {i : Nat} (hpl : place i = some (off, mid.length)) (rest : List (Nat × Value)) :
    ∃ c' : Array Value, c'.toList = pre ++ v.cells.toList ++ post ∧ Instr.fill place c ((i, v) :: rest) = Instr.fill place c' rest := by
  have hcs : c.size = pre.length + mid.length + post.length := by
    have := congrArg List.length hc
    simpa [Nat.add_assoc] using this
  have hvs : v.cells.size = mid.length := by simpa using hv
  refine ⟨v.cells.zipIdx.foldl (fun cs (p : Value × Nat) => cs.setIfInBounds (off + p.2) p.1) c, ?_, ?_⟩
  · rw [← Array.foldl_toList, Array.toList_zipIdx, fold_set _ _ _ _ (by rw [hv]; omega), Nat.add_zero, hc, hv, ← hp]
    simp
  · have hcond : ¬ ((decide (v.cells.size ≠ mid.length) || decide (off + v.cells.size > c.size)) = true) := by simp; omega
    simp only [Instr.fill, hpl]
    rw [if_neg hcond]
theorem fill_parts {fs : Array Field} (place : Nat → Option (Nat × Nat)) (hpl : ∀ i fd inf, fs[i]? = some fd → P.info? fd.type = some inf → place i = some (fd.offset, inf.size)) {ps : List (Nat × Value)} {X Z : α} (h : Parts P K fs k ps X Z) :
    ∀ (c : Array Value), k.R K X c.toList → ∃ c', Instr.fill place c ps = some c' ∧ k.R K Z c'.toList := by
  induction h with
  | nil => intro c hR; exact ⟨c, rfl, hR⟩
  | cons hf ho hT F hV hr ih =>
    intro c hR
    obtain ⟨pre, mid, post, hc, hl, hR', hS⟩ := F.foc hR
    have hml := Kd.len _ hR'
    have hvl : (Value.cells _).toList.length = mid.length := (Kd.len _ hV.cells).trans hml.symm
    obtain ⟨c', hc', hfill⟩ := fill_part hc hl hvl place (by
      obtain ⟨inf, _, hinf, hsz, _⟩ := hT.info
      rw [hpl _ _ _ hf hinf, ho, hml, hsz]) _
    rw [hfill]
    exact ih c' (by rw [hc']; exact hS _ _ hV.cells)
theorem mapM_places {fs : List Field} (h : ∀ f ∈ fs, ∃ i, P.info? f.type = some i) : ∃ l, (∀ w : World, (fs.mapM fun f => do pure (f.offset, ← sizeOf f.type) : Sem (List (Nat × Nat))).run P w = .ok l w) ∧ ∀ (i : Nat) (fd : Field) inf, fs[i]? = some fd → P.info? fd.type = some inf → l[i]? = some (fd.offset, inf.size) := by
  induction fs with
  | nil => exact ⟨[], fun w => by simp, fun i fd inf h => by simp at h⟩
  | cons f fs ih =>
    obtain ⟨l, hl, hq⟩ := ih (fun f hf => h f (by simp [hf]))
    obtain ⟨i, hi⟩ := h f (by simp)
    have hs : ∀ w : World, (sizeOf f.type).run P w = .ok i.size w := fun w => by simp [sizeOf, typeInfo, hi]
    refine ⟨(f.offset, i.size) :: l, fun w => ?_, ?_⟩
    · rw [List.mapM_cons]
      simp only [Sem.run_bind, hs w, hl w, Result.andThen_ok, Sem.run_pure]
    · intro j fd inf hj hinf
      cases j with
      | zero =>
        simp at hj
        subst hj
        rw [hi] at hinf
        cases hinf
        rfl
      | succ j => exact hq j fd inf (by simpa using hj) hinf
theorem S_bld {fs : Array Field} {ps : List (Nat × Operand)} {vs : List (Nat × Value)} {Z : α} (hT : TyOk P t k by_) (ha : k.agg = true) (hu : P.underlying t = some (.struct fs)) (hfs : ∀ f ∈ fs.toList, ∃ i, P.info? f.type = some i) (hps : ps.map (fun p => (p.1, ev ρ p.2)) = vs) (h : Parts P K fs k vs k.z Z) :
    ∃ v, (∀ w : World, (execOp (ev ρ) ⟨dst, .build t ps.toArray, ty, pos, af, g⟩).run P w = .ok (.value v) w) ∧ k.V K Z v := by
  obtain ⟨i, z, hi, hsi, hz, hzc, hbi, -⟩ := hT.info
  obtain ⟨l, hl, hq⟩ := mapM_places (P := P) hfs
  obtain ⟨c', hfill, hR⟩ := fill_parts (P := P) (fun j => l.toArray[j]?) (fun j fd inf hj hinf => by simpa using hq j fd inf (by simpa using hj) hinf) h z.cells (by rw [hzc]; exact k.hz K)
  refine ⟨.agg c', fun w => ?_, ⟨c'.toList, hR, by simp [ha]⟩⟩
  have hzr : (zeroValue t).run P w = .ok z w := by simp [zeroValue, typeInfo, hi, hz]
  have key : (Instr.build t vs.toArray).run P w = .ok (.agg c') w := by
    unfold Instr.build
    have hm : (fs.mapM fun f => do pure (f.offset, ← sizeOf f.type) : Sem (Array (Nat × Nat))).run P w = .ok l.toArray w := by
      rw [Array.mapM_eq_mapM_toList]
      rw [← bind_pure_comp]
      simp only [Sem.run_bind, hl, Result.andThen_ok, Sem.run_pure]
    simp only [Sem.run_bind, hzr, Result.andThen_ok, run_underlying hu, hm]
    rw [hfill]
    rfl
  unfold execOp
  simp only [List.map_toArray, hps]
  simp [key]
/-- an array of all its parts -/
theorem S_bldA {l : List (α × Value)} {ps : List (Nat × Operand)} {n : Nat} (hT0 : TyOk P t (Kd.arr n k) by_) {by' : Nat} (hT : TyOk P e k by') (hu : P.underlying t = some (.array n e)) (hps : ps.map (fun p => (p.1, ev ρ p.2)) = ((l.map (·.2)).zipIdx.map fun p => (p.2, p.1))) (hV : ∀ p ∈ l, k.V K p.1 p.2) (hn : l.length = n) :
    ∃ v, (∀ w : World, (execOp (ev ρ) ⟨dst, .build t ps.toArray, ty, pos, af, g⟩).run P w = .ok (.value v) w) ∧ (Kd.arr n k).V K (l.map (·.1)) v := by
  obtain ⟨i, z, hi, hsi, hz, hzc, hbi, -⟩ := hT0.info
  have hzr : ∀ w : World, (zeroValue t).run P w = .ok z w := fun w => by simp [zeroValue, typeInfo, hi, hz]
  have hzs : z.cells.size = n * k.sz := by
    have := (Kd.arr n k).len ((Kd.arr n k).hz K)
    rw [← hzc] at this
    exact (show z.cells.size = (Kd.arr n k).sz by simpa using this)
  obtain ⟨c, hc, mid, hm, hRm⟩ := fill_all (k := k) (K := K) k.sz (fun _ _ => k.len) l 0 [] z.cells hV (by simp) (by simp) (by rw [hzs, hn]; simp) rfl
  refine ⟨.agg c, fun w => ?_, ⟨c.toList, ⟨by simp [hn], by rw [hm]; simpa using hRm⟩, by simp [Kd.arr]⟩⟩
  unfold execOp
  simp only [List.map_toArray, hps]
  have key : (Instr.build t ((l.map (·.2)).zipIdx.map fun p => (p.2, p.1)).toArray).run P w = .ok (.agg c) w := by
    unfold Instr.build
    simp only [Sem.run_bind, hzr w, Result.andThen_ok, run_underlying hu, hT.size]
    simp [hc]
  simp [key]
end
end Go.Inc
