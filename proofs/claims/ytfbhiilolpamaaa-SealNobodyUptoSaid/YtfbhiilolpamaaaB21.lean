/-
  BASE 21: rows of one's own that may be written: of what stands in them nothing is known for good. (Elements are flat: they lead to no other place.)
-/
import Derived.Test.YtfbhiilolpamaaaB20
set_option linter.unusedVariables false
namespace Go.Inc
open Go Go.RowKit
/-- K, with what stands in v's row -/
def kset (K : Ghost) (v : Value) (e : TypeId) (l : List Value) : Ghost := fun b => if ob v = some b then some (e, l) else K b
def Kd.Flat {α : Type} (k : Kd α) : Prop := ∀ (K K' : Ghost) x cs, k.R K x cs → k.R K' x cs
def Rw {α : Type} (k : Kd α) (e : TypeId) (w : World) (K : Ghost) (x : List α) (v : Value) : Prop := (∀ g, ob v = some g → K g = none) ∧ ∃ l, Own k e w (kset K v e l) x v
/-- the place of element i of the slice v -/
def At (v : Value) (i : Int) (sz : Nat) (bl o : Nat) : Prop := ∃ o0 n cap, v = .slice (some ⟨bl, o0, none⟩) n (cap + 1) ∧ o = o0 + i.toNat * sz ∧ i.toNat < n
section
variable {P : Program} {α : Type} {k : Kd α} {e t : TypeId} {by_ : Nat} {w w' : World} {K K' : Ghost} {x y : List α} {v u : Value} {X : Nat → Prop}
theorem kset_ne {l : List Value} {b : Nat} (h : ob v ≠ some b) : kset K v e l b = K b := by simp [kset, h]
theorem kset_le {l : List Value} (h : ∀ g, ob v = some g → K g = none) : K.le (kset K v e l) := fun b t l' hb => by
  have hne : ob v ≠ some b := fun hq => by rw [h b hq] at hb; cases hb
  exact ⟨l', by rw [kset_ne hne]; exact hb, List.prefix_refl _⟩
theorem kset_mono {l : List Value} (hle : K.le K') : (kset K v e l).le (kset K' v e l) := fun b t l' hb => by
  by_cases hq : ob v = some b
  · simp only [kset, hq, if_true] at hb ⊢
    cases hb
    exact ⟨_, rfl, List.prefix_refl _⟩
  · rw [kset_ne hq] at hb
    rw [kset_ne hq]
    exact hle b t l' hb
theorem Own.models {l : List Value} (h : Own k e w (kset K v e l) x v) (hM : Models w K) : Models w (kset K v e l) := fun b t l' hb => by
  by_cases hq : ob v = some b
  · obtain ⟨_, _, h⟩ := h
    rcases h with ⟨A, rfl, rfl⟩ | ⟨g, cap, c, pre, l2, rfl, hg, hnc, hcm, hcs, hK, hp, hR⟩
    · cases A <;> simp [ob] at hq
    · cases cap with
      | zero => simp [ob] at hq
      | succ cap =>
        simp [ob] at hq
        subst hq
        rw [hK] at hb
        cases hb
        exact ⟨c, _, hg, hp⟩
  · rw [kset_ne hq] at hb
    exact hM b t l' hb
theorem Rw.lt (h : Rw k e w K x v) : ∀ g, ob v = some g → g < w.heap.size := by
  obtain ⟨_, l, h⟩ := h
  exact h.lt
theorem Rw.wf (h : Rw k e w K x v) : x.length ≤ LM ∧ ∀ y ∈ x, k.wf y := by
  obtain ⟨_, l, h⟩ := h
  exact h.wf
theorem Rw.len (h : Rw k e w K x v) : x.length ≤ LM := by
  obtain ⟨_, l, h⟩ := h
  exact h.wf.1
theorem ext_kset {l : List Value} (hE : Ext X w K w' K') (hlt : ∀ g, ob v = some g → g < w.heap.size) (hX : ∀ g, ob v = some g → ¬ X g) : Ext X w (kset K v e l) w' (kset K' v e l) :=
  ⟨kset_mono hE.le, hE.heap, fun b hb hx => by
    by_cases hq : ob v = some b
    · simp only [kset, hq, if_true]
    · rw [kset_ne hq, kset_ne hq]; exact hE.ghost b hb hx, hE.size, hE.os, hE.tape, hE.output⟩
theorem Rw.ext (h : Rw k e w K x v) (hE : Ext X w K w' K') (hX : ∀ g, ob v = some g → ¬ X g) : Rw k e w' K' x v := by
  obtain ⟨hn, l, hO⟩ := h
  have hlt := hO.lt
  refine ⟨fun g hg => ?_, l, hO.ext (ext_kset hE hlt hX) hX⟩
  rw [hE.ghost g (hlt g hg) (hX g hg)]
  exact hn g hg
theorem Rw.extN (h : Rw k e w K x v) (hE : Ext NX w K w' K') : Rw k e w' K' x v := h.ext hE (fun _ _ h => h)
/-- what was just made is no longer known for good -/
theorem Own.unk {K2 : Ghost} (hO : Own k e w' K2 x v) (hE : Ext X w K w' K2) (hM : Models w' K2) (hn : ∀ g, ob v = some g → K g = none) (hx : ∀ g, ob v = some g → g < w.heap.size → X g) :
    ∃ K', Rw k e w' K' x v ∧ Ext X w K w' K' ∧ Models w' K' := by
  have key : ∃ l, kset (fun b => if ob v = some b then none else K2 b) v e l = K2 := by
    cases hob : ob v with
    | none => exact ⟨[], by funext b; simp [kset, hob]⟩
    | some g =>
      obtain ⟨l, hl⟩ := hO.known g hob
      refine ⟨l, ?_⟩
      funext b
      by_cases hb : b = g
      · subst hb; simp [kset, hob, hl]
      · have hne : ¬ g = b := fun h => hb h.symm
        simp [kset, hob, hne]
  obtain ⟨l, hl⟩ := key
  refine ⟨fun b => if ob v = some b then none else K2 b, ⟨fun g hg => by simp [hg], l, by rw [hl]; exact hO⟩, ⟨fun b t l' hb => ?_, hE.heap, fun b hb hX => ?_, hE.size, hE.os, hE.tape, hE.output⟩, fun b t l' hb => ?_⟩
  · have hne : ob v ≠ some b := fun h => by rw [hn b h] at hb; cases hb
    simp only [if_neg hne]
    exact hE.le b t l' hb
  · by_cases h : ob v = some b
    · exact absurd (hx b h hb) hX
    · simp only [if_neg h]; exact hE.ghost b hb hX
  · by_cases h : ob v = some b
    · simp [h] at hb
    · simp only [if_neg h] at hb; exact hM b t l' hb
theorem Own.unkN {K2 : Ghost} (hO : Own k e w' K2 x v) (hE : Ext NX w K w' K2) (hM : Models w' K2) (hM0 : Models w K) (hn : ∀ g, ob v = some g → w.heap.size ≤ g) : ∃ K', Rw k e w' K' x v ∧ Ext NX w K w' K' ∧ Models w' K' :=
  hO.unk hE hM (fun g hg => hM0.none_of_ge (hn g hg)) (fun g hg hlt => absurd hlt (Nat.not_lt.2 (hn g hg)))
/-- what stands in it is known for good from now on -/
theorem Rw.freeze (h : Rw k e w K x v) (hM : Models w K) : ∃ K', Own k e w K' x v ∧ Ext (fun b => ob v = some b) w K w K' ∧ Models w K' := by
  obtain ⟨hn, l, hO⟩ := h
  exact ⟨_, hO, ⟨kset_le hn, fun _ _ _ => rfl, fun b _ hb => kset_ne hb, Nat.le_refl _, rfl, rfl, rfl⟩, hO.models hM⟩
theorem Rw.freeze0 (h : Rw k e w K x v) (hM : Models w K) : ∃ w', w' = w ∧ ∃ K', Own k e w' K' x v ∧ Ext (fun b => ob v = some b) w K w' K' ∧ Models w' K' := ⟨w, rfl, h.freeze hM⟩
theorem Rw.cells (h : Rw k e w K x v) (hf : k.Flat) (hM : Models w K) : Cells k w K x v := by
  obtain ⟨hn, l, hO⟩ := h
  obtain ⟨A, cap2, h1, h2, h3, h4⟩ := Cells.ofV (hO.models hM) hO.V
  refine ⟨A, cap2, h1, h2, h3, h4.imp id ?_⟩
  rintro ⟨a, m, ha, hR, hc⟩
  exact ⟨a, m, ha, RL.mono (fun _ _ => hf _ _ _ _) hR, hc⟩
theorem Cells.mono (h : Cells k w K y u) (hle : K.le K') : Cells k w K' y u := by
  obtain ⟨A, cap2, h1, h2, h3, h4⟩ := h
  refine ⟨A, cap2, h1, h2, h3, h4.imp id ?_⟩
  rintro ⟨a, m, ha, hR, hc⟩
  exact ⟨a, m, ha, RL.mono (fun _ _ => k.mono hle) hR, hc⟩
end
section
variable {P : Program} {α : Type} {k : Kd α} {e t : TypeId} {by_ : Nat} {w w' : World} {K K' : Ghost} {X Y : List α} {v u : Value} {ρ : Env}
variable {dst : Option Tmp} {ty : TypeId} {pos : String} {af : Array Edge} {g : Option (Nat × Bool)} {x y z lo hi : Operand} {ik ik' : IntKind}
theorem S_appR {t1 : TypeId} (hM : Models w K) (hx : ev ρ x = v) (hO : Rw k e w K X v) (hy : ev ρ y = u) (hV : Cells k w K Y u) (ht : P.underlying t1 = some (.slice e)) (hT : TyOk P e k by_) (hsz : (Nat.blt 0 k.sz && Nat.blt 0 by_) = true) (hlen : (X.length + Y.length) * by_ ≤ 140737488355328) :
    ∃ v' w' K', (execOp (ev ρ) ⟨dst, .call { callee := .builtin .append, args := #[x, y], argTypes := #[t1, t1] }, ty, pos, af, g⟩).run P w = .ok (.value v') w' ∧ Rw k e w' K' (X ++ Y) v' ∧ Ext (fun b => ob v = some b) w K w' K' ∧ Models w' K' ∧ (ob v' = ob v ∨ ob v' = some w.heap.size) := by
  obtain ⟨hn, l, hO⟩ := hO
  obtain ⟨v', w', K2, hr, h1, h2, h3, h4⟩ := S_appC (dst := dst) (ty := ty) (pos := pos) (af := af) (g := g) (hO.models hM) hx hO hy (hV.mono (kset_le hn)) ht hT hsz hlen
  have hE : Ext (fun b => ob v = some b) w K w' K2 := ⟨(kset_le hn).trans h2.le, h2.heap, fun b hb hx => (h2.ghost b hb hx).trans (kset_ne hx), h2.size, h2.os, h2.tape, h2.output⟩
  obtain ⟨K', a1, a2, a3⟩ := h1.unk hE h3 (fun g hg => by
    rcases h4 with h | h
    · exact hn g (h ▸ hg)
    · rw [h] at hg; cases hg; exact hM.none_of_ge (Nat.le_refl _)) (fun g hg hlt => by
    rcases h4 with h | h
    · exact h ▸ hg
    · rw [h] at hg; cases hg; exact absurd hlt (Nat.lt_irrefl _))
  exact ⟨v', w', K', hr, a1, a2, a3, h4⟩
theorem R_lenR (hx : ev ρ x = v) (h : Rw k e w K X v) {t1 te : TypeId} (hu : P.underlying t1 = some (.slice te)) {w2 : World} :
    (execOp (ev ρ) ⟨dst, .call { callee := .builtin .len, args := #[x], argTypes := #[t1] }, ty, pos, af, g⟩).run P w2 = .ok (.value (.int .i64 (X.length : Int))) w2 := by
  obtain ⟨hn, l, hO⟩ := h
  exact R_len hx hO.V hu
theorem S_ixR {i : Int} {t1 : TypeId} (hx : ev ρ x = v) (h : Rw k e w K X v) (hy : ev ρ y = .int ik i) (hu : P.underlying t1 = some (.slice e)) (hT : TyOk P e k by_) (h0 : 0 ≤ i) (h1 : i < (X.length : Int)) :
    ∃ bl o, (∀ w : World, (execOp (ev ρ) ⟨dst, .indexAddr t1 x y, ty, pos, af, g⟩).run P w = .ok (.value (.pointer (some ⟨bl, o, none⟩))) w) ∧ At v i k.sz bl o := by
  obtain ⟨hn, l, _, _, h⟩ := h
  rcases h with ⟨A, rfl, rfl⟩ | ⟨gg, cap, c, pre, l2, rfl, hg, hnc, hcm, hcs, hK, hp, hR⟩
  · simp at h1; omega
  · cases cap with
    | zero => omega
    | succ cap =>
      refine ⟨gg, pre.length + i.toNat * k.sz, fun w => ?_, pre.length, _, cap, rfl, rfl, by omega⟩
      unfold execOp
      simp only [hx, hy]
      simp [Instr.indexAt, asIntOf, run_underlying hu, hT.size, h0, h1, add_lit]
theorem Rw.pt {i : Int} {bl o : Nat} {l : List Value} [Inhabited α] (h : Own k e w (kset K v e l) X v) (hA : At v i k.sz bl o) : k.Pt (kset K v e l) (ix X i) (.pointer (some ⟨bl, o, none⟩)) := by
  obtain ⟨_, _, h⟩ := h
  obtain ⟨o0, n, cap0, rfl, rfl, hi⟩ := hA
  rcases h with ⟨A, hv, rfl⟩ | ⟨gg, cap, c, pre, mid, hv, hg, hnc, hcm, hcs, hK, hp, hR⟩
  · cases hv
  · cases hv
    have h1 := hi
    have hlen := RL.len (fun _ _ => k.len) hR
    have hge : (i.toNat + 1) * k.sz ≤ mid.length := by rw [hlen]; exact Nat.mul_le_mul_right _ h1
    have hadd : (i.toNat + 1) * k.sz = i.toNat * k.sz + k.sz := by rw [Nat.add_mul, Nat.one_mul]
    refine ⟨bl, e, pre ++ mid.take (i.toNat * k.sz), (mid.drop (i.toNat * k.sz)).take k.sz, mid.drop ((i.toNat + 1) * k.sz), ?_, ?_, ?_⟩
    · rw [List.length_append, List.length_take, Nat.min_eq_left (by omega)]
    · rw [hK, hadd, ← List.drop_drop]
      congr 2
      simp only [List.append_assoc]
      rw [List.take_append_drop, List.take_append_drop]
    · rw [ix_of_lt h1]; exact RL.get (fun _ _ => k.len) hR _ h1
/-- a cut of such a row: what is read through it while the row stays as it is -/
def RCut {α : Type} (k : Kd α) (e : TypeId) (w : World) (K : Ghost) (x : List α) (v : Value) (y : List α) (u : Value) : Prop := (∀ g, ob v = some g → K g = none) ∧ ∃ l, Own k e w (kset K v e l) x v ∧ (Kd.sl k).V (kset K v e l) y u
theorem RCut.ext {Z : Nat → Prop} (h : RCut k e w K X v Y u) (hE : Ext Z w K w' K') (hX : ∀ g, ob v = some g → ¬ Z g) : RCut k e w' K' X v Y u := by
  obtain ⟨hn, l, hO, hV⟩ := h
  have hlt := hO.lt
  refine ⟨fun g hg => ?_, l, hO.ext (ext_kset hE hlt hX) hX, hV.mono (kset_mono hE.le)⟩
  rw [hE.ghost g (hlt g hg) (hX g hg)]
  exact hn g hg
theorem RCut.cells (h : RCut k e w K X v Y u) (hf : k.Flat) (hM : Models w K) : Cells k w K Y u := by
  obtain ⟨hn, l, hO, hV⟩ := h
  obtain ⟨A, cap2, h1, h2, h3, h4⟩ := Cells.ofV (hO.models hM) hV
  refine ⟨A, cap2, h1, h2, h3, h4.imp id ?_⟩
  rintro ⟨a, m, ha, hR, hc⟩
  exact ⟨a, m, ha, RL.mono (fun _ _ => hf _ _ _ _) hR, hc⟩
theorem S_slHR {j : Int} {t1 : TypeId} (hx : ev ρ x = v) (h : Rw k e w K X v) (hu : P.underlying t1 = some (.slice e)) (hT : TyOk P e k by_) (hy : ev ρ hi = .int ik j) (h0 : 0 ≤ j) (h1 : j ≤ (X.length : Int)) :
    ∃ u, (∀ w : World, (execOp (ev ρ) ⟨dst, .slice t1 x none (some hi) none, ty, pos, af, g⟩).run P w = .ok (.value u) w) ∧ RCut k e w K X v (X.take j.toNat) u := by
  obtain ⟨hn, l, hO⟩ := h
  obtain ⟨u, hr, hV⟩ := S_slH (dst := dst) (ty := ty) (pos := pos) (af := af) (g := g) hx hO.V hu hT hy h0 h1
  exact ⟨u, hr, hn, l, hO, hV⟩
theorem S_ldR {i : Int} {bl o : Nat} [Inhabited α] {Z : Nat → Prop} (hf : k.Flat) (hM : Models w K) (hx : ev ρ x = .pointer (some ⟨bl, o, none⟩)) (hT : TyOk P t k by_) (h : Rw k e w K X v) (hA : At v i k.sz bl o) (hZ : ∀ g, ob v = some g → ¬ Z g) :
    ∃ v', (∀ w' K', Ext Z w K w' K' → Models w' K' → (execOp (ev ρ) ⟨dst, .load t x, ty, pos, af, g⟩).run P w' = .ok (.value v') w') ∧ k.V K (ix X i) v' := by
  obtain ⟨hn, l, hO⟩ := h
  obtain ⟨v', hr, cs, hV, hv⟩ := S_ld (dst := dst) (ty := ty) (pos := pos) (af := af) (g := g) (Z := Z) hx hT (Rw.pt hO hA)
  have hlt := hO.lt
  refine ⟨v', fun w' K' hE hM' => hr w' (kset K' v e l) (ext_kset hE hlt hZ) ((hO.ext (ext_kset hE hlt hZ) hZ).models hM'), cs, hf _ _ _ _ hV, hv⟩
theorem S_stR {i : Int} {bl o : Nat} {Yv : α} (hf : k.Flat) (hM : Models w K) (hx : ev ρ x = .pointer (some ⟨bl, o, none⟩)) (hy : ev ρ y = u) (hV : k.V K Yv u) (hT : TyOk P t k by_) (h : Rw k e w K X v) (hA : At v i k.sz bl o) :
    ∃ w', (execOp (ev ρ) ⟨dst, .store t x y, ty, pos, af, g⟩).run P w = .ok .skip w' ∧ Rw k e w' K (X.set i.toNat Yv) v ∧ Ext (fun b => ob v = some b) w K w' K ∧ Models w' K := by
  obtain ⟨hn, l0, hwf, hlm, h⟩ := h
  obtain ⟨o0, n, cap0, rfl, rfl, h1⟩ := hA
  rcases h with ⟨A, hv, rfl⟩ | ⟨gg, cap, c, pre, l, hv, hg, hnc, hcm, hcs, hK, hp, hR⟩
  · cases hv
  · cases hv
    have hKb : K bl = none := hn bl rfl
    have hc := hV.cells
    have hlv := k.len hc
    have hlen := RL.len (fun _ _ => k.len) hR
    obtain ⟨q, hq⟩ := hp
    have hge : (i.toNat + 1) * k.sz ≤ X.length * k.sz := Nat.mul_le_mul_right _ h1
    have hge2 : X.length * k.sz ≤ (cap0 + 1) * k.sz := Nat.mul_le_mul_right _ hnc
    have hadd : (i.toNat + 1) * k.sz = i.toNat * k.sz + k.sz := by rw [Nat.add_mul, Nat.one_mul]
    have hrun := run_storeCells_at P bl (pre.length + i.toNat * k.sz) e u.cells.toList 0 c w hg (by
      simp only [Nat.add_zero]
      omega) (k.one hc)
    have e1 : c.toList.take (pre.length + i.toNat * k.sz) = pre ++ l.take (i.toNat * k.sz) := by
      rw [← hq, List.append_assoc, List.take_append, List.take_of_length_le (by omega), show pre.length + i.toNat * k.sz - pre.length = i.toNat * k.sz by omega, List.take_append_of_le_length (by omega)]
    have e2 : c.toList.drop (pre.length + i.toNat * k.sz + u.cells.toList.length) = l.drop ((i.toNat + 1) * k.sz) ++ q := by
      rw [hlv, ← hq, List.append_assoc, List.drop_append, List.drop_of_length_le (by omega), List.nil_append, show pre.length + i.toNat * k.sz + k.sz - pre.length = (i.toNat + 1) * k.sz by omega, List.drop_append_of_le_length (by omega)]
    simp only [Nat.add_zero, e1, e2] at hrun
    have hsz : u.cells.size = k.sz := hV.size
    have hf' : ∀ K1 K2 : Ghost, ∀ {a b}, RL (k.R K1) a b → RL (k.R K2) a b := fun K1 K2 a b h => RL.mono (fun _ _ => hf _ _ _ _) h
    have hset := RL.set (R := k.R K) (fun _ _ => k.len) hc i.toNat h1 (hf' _ K hR)
    refine ⟨w.setRow bl (pre ++ l.take (i.toNat * k.sz) ++ u.cells.toList ++ (l.drop ((i.toNat + 1) * k.sz) ++ q)).toArray, ?_, ⟨hn, pre ++ (l.take (i.toNat * k.sz) ++ u.cells.toList ++ l.drop ((i.toNat + 1) * k.sz)), fun a ha => ?_, by simpa using hlm, .inr ⟨bl, cap0 + 1, _, pre, l.take (i.toNat * k.sz) ++ u.cells.toList ++ l.drop ((i.toNat + 1) * k.sz), by rw [List.length_set], setRow_heap w bl c _ e _ hg, by simpa using hnc, hcm, ?_, ?_, ⟨q, by simp⟩, ?_⟩⟩,
      Ext.setRow w K bl _ rfl, hM.setRow hKb _⟩
    · unfold execOp
      simp only [hx, hy]
      simp [Instr.storeAt, Instr.sureAddr, storeVar, Sem.run_bind, hT.size, hsz]
      have hr2 := hrun
      simp at hr2
      rw [hr2]
      rfl
    · rcases List.mem_or_eq_of_mem_set ha with h | h
      · exact hwf a h
      · rw [h]; exact k.hwf hc
    · have h3 := congrArg List.length hq
      simp only [List.length_append, Array.length_toList] at h3
      simp only [List.size_toArray, List.length_append, List.length_take, List.length_drop, hlv]
      omega
    · simp [kset, ob]
    · exact hf' _ _ hset
end
section
variable {P : Program} {n : Nat} {Q : Post} {ops : Array Oper} {rest : List Oper} {o : Oper} {ρ : Env} {w : World} {K : Ghost} {N : Value → World → Prop}
variable {α : Type} {k : Kd α} {e : TypeId}
theorem St_SR {X : List α} {u : Value} (h : ∃ v w' K', (execOp (ev ρ) o).run P w = .ok (.value v) w' ∧ Rw k e w' K' X v ∧ Ext (fun b => ob u = some b) w K w' K' ∧ Models w' K' ∧ (ob v = ob u ∨ ob v = some w.heap.size))
    (hn : ∀ v w' K', Rw k e w' K' X v → Ext (fun b => ob u = some b) w K w' K' → Models w' K' → (ob v = ob u ∨ ob v = some w.heap.size) → N v w') : Step P o ρ w N := by
  obtain ⟨v, w', K', hr, h1, h2, h3, h4⟩ := h
  exact Step.value hr (hn v w' K' h1 h2 h3 h4)
theorem St_StR {X : List α} {u : Value} (h : ∃ w', (execOp (ev ρ) o).run P w = .ok .skip w' ∧ Rw k e w' K X u ∧ Ext (fun b => ob u = some b) w K w' K ∧ Models w' K)
    (hn : ∀ w', Rw k e w' K X u → Ext (fun b => ob u = some b) w K w' K → Models w' K → N undef w') : Step P o ρ w N := by
  obtain ⟨w', hr, h1, h2, h3⟩ := h
  exact Step.skip hr (hn w' h1 h2 h3)
theorem WL_PQ {Φ : Nat → Nat → Prop} (h : ∃ bl off, (∀ w : World, (execOp (ev ρ) o).run P w = .ok (.value (.pointer (some ⟨bl, off, none⟩))) w) ∧ Φ bl off) (hg : o.guard = none) (hd : dstOk n o.dst = true) (hn : ∀ bl off, Φ bl off → WL P n ops Q rest (updO ρ o.dst (.pointer (some ⟨bl, off, none⟩))) w) : WL P n ops Q (o :: rest) ρ w := by
  obtain ⟨bl, off, hr, hV⟩ := h
  exact WL_pure _ (hr w) hg hd (hn bl off hV)
theorem WL_Q {Φ : Value → Prop} (h : ∃ v, (∀ w : World, (execOp (ev ρ) o).run P w = .ok (.value v) w) ∧ Φ v) (hg : o.guard = none) (hd : dstOk n o.dst = true) (hn : ∀ v, Φ v → WL P n ops Q rest (updO ρ o.dst v) w) : WL P n ops Q (o :: rest) ρ w := by
  obtain ⟨v, hr, hV⟩ := h
  exact WL_pure v (hr w) hg hd (hn v hV)
end
section
variable {P : Program} {n : Nat} {C' : Fin'} {ops : Array Oper} {o : Oper} {ρ : Env} {w : World} {K : Ghost} {X : Nat → Prop} {i : Nat}
theorem WO_PQ {Φ : Nat → Nat → Prop} {al : Bool} {f : Nat} (ht : tk f = true) (hl : lv f = false → al = true) (hM : Models w K) (h : ∃ bl off, (∀ w' : World, (execOp (ev ρ) o).run P w' = .ok (.value (.pointer (some ⟨bl, off, none⟩))) w') ∧ Φ bl off) (hi : ops[i]? = some o) (hg : Region.wanted o (yieldE ops ρ) = true) (hd : dstOk n o.dst = true)
    (hn : ∀ bl off, Φ bl off → C' (SL X w K al) (updO ρ o.dst (.pointer (some ⟨bl, off, none⟩))) w) : stepC P n ops i f C' (SL X w K al) ρ w := by
  obtain ⟨bl, off, hr, hV⟩ := h
  exact WO_pure (.pointer (some ⟨bl, off, none⟩)) ht hl hM hr hi hg hd (hn bl off hV)
theorem WO_Q {Φ : Value → Prop} {al : Bool} {f : Nat} (ht : tk f = true) (hl : lv f = false → al = true) (hM : Models w K) (h : ∃ v, (∀ w' : World, (execOp (ev ρ) o).run P w' = .ok (.value v) w') ∧ Φ v) (hi : ops[i]? = some o) (hg : Region.wanted o (yieldE ops ρ) = true) (hd : dstOk n o.dst = true)
    (hn : ∀ v, Φ v → C' (SL X w K al) (updO ρ o.dst v) w) : stepC P n ops i f C' (SL X w K al) ρ w := by
  obtain ⟨v, hr, hV⟩ := h
  exact WO_pure v ht hl hM hr hi hg hd (hn v hV)
end
end Go.Inc
