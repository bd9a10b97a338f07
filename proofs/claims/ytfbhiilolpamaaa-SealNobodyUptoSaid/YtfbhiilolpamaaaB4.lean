/-
  BASE 4: types and their kinds; parts of a thing; boxes, pointers into what is known for good; load, store, box, alloc, field.
-/
import Derived.Test.YtfbhiilolpamaaaB3
set_option linter.unusedVariables false
namespace Go.Inc
open Go Go.RowKit

/-- a type of the program, and the kind by which it is told -/
structure TyOk {α : Type} (P : Program) (t : TypeId) (k : Kd α) (bytes : Nat) : Prop where
  info : ∃ i z, P.info? t = some i ∧ i.size = k.sz ∧ i.zero = some z ∧ z.cells.toList = k.zc ∧ i.bytes = bytes ∧ z = (if k.agg then .agg k.zc.toArray else k.zc.headD undef)
  desc : ∃ d, P.underlying t = some d ∧ (match d with | .struct _ | .array _ _ => true | _ => false) = k.agg
section
variable {P : Program} {α β γ : Type} {k : Kd α} {k' : Kd β} {k'' : Kd γ} {t : TypeId} {by_ : Nat} {w : World} {K : Ghost}
theorem TyOk.isAgg (h : TyOk P t k by_) (w : World) : (isAgg t).run P w = .ok k.agg w := by
  obtain ⟨d, hd, ha⟩ := h.desc
  unfold Go.isAgg
  rw [Sem.run_bind, run_underlying hd w]
  rw [← ha]
  cases d <;> rfl
theorem TyOk.size (h : TyOk P t k by_) (w : World) : (sizeOf t).run P w = .ok k.sz w := by
  obtain ⟨i, z, hi, hs, _⟩ := h.info
  simp [sizeOf, typeInfo, hi, hs]
theorem TyOk.zero (h : TyOk P t k by_) : ∃ z, (∀ w : World, (zeroValue t).run P w = .ok z w) ∧ k.V K k.z z := by
  obtain ⟨i, z, hi, hs, hz, _, _, e⟩ := h.info
  exact ⟨z, fun w => by simp [zeroValue, typeInfo, hi, hz], k.zc, k.hz K, e⟩
theorem add_lit (b o j : Nat) : (⟨b, o, none⟩ : Addr).add j = ⟨b, o + j, none⟩ := by
  unfold Addr.add
  split
  · subst_vars; rfl
  · rfl
/-- the value that these cells are -/
def Kd.val (k : Kd α) (cs : List Value) : Value := if k.agg then .agg cs.toArray else cs.headD undef
theorem Kd.val_V {x : α} {cs : List Value} (hR : k.R K x cs) : k.V K x (k.val cs) := ⟨cs, hR, rfl⟩
theorem loadVar_is (hT : TyOk P t k by_) {x : α} {cs : List Value} (a : Addr) (hc : ∀ j u, cs[j]? = some u → w.cell? (a.add j) = some u) (hR : k.R K x cs) :
    (loadVar t a).run P w = .ok (k.val cs) w := by
  have hl := k.len hR
  unfold Kd.val
  cases ha : k.agg with
  | true =>
    have h1 := run_loadCells_list (P := P) w a cs hc
    rw [hl] at h1
    simp [loadVar, Sem.run_bind, hT.isAgg, hT.size, ha, h1]
  | false =>
    rw [k.hs ha] at hl
    obtain ⟨u, rfl⟩ := List.length_eq_one_iff.1 hl
    have hu : w.cell? a = some u := by
      have := hc 0 u rfl
      simpa [Addr.add] using this
    simp [loadVar, Sem.run_bind, hT.isAgg, ha, hu]
theorem loadVar_cells (hT : TyOk P t k by_) {x : α} {cs : List Value} (a : Addr) (hc : ∀ j u, cs[j]? = some u → w.cell? (a.add j) = some u) (hR : k.R K x cs) :
    ∃ v, (loadVar t a).run P w = .ok v w ∧ k.V K x v := ⟨_, loadVar_is hT a hc hR, Kd.val_V hR⟩

/-! ### a part of a thing -/
structure Foc (k : Kd α) (k' : Kd β) (off : Nat) (g : α → β) (s : α → β → α) : Prop where
  foc : ∀ {K x cs}, k.R K x cs → ∃ pre mid post, cs = pre ++ mid ++ post ∧ pre.length = off ∧ k'.R K (g x) mid ∧ ∀ y mid', k'.R K y mid' → k.R K (s x y) (pre ++ mid' ++ post)
theorem Foc.id (k : Kd α) : Foc k k 0 (fun x => x) (fun _ y => y) := ⟨fun {K x cs} h => ⟨[], cs, [], by simp, rfl, h, fun y mid' h' => by simpa using h'⟩⟩
theorem Foc.fst (a : Kd α) (b : Kd β) : Foc (Kd.pr a b) a 0 Prod.fst (fun x y => (y, x.2)) :=
  ⟨fun {K x cs} ⟨c1, c2, e, h1, h2⟩ => ⟨[], c1, c2, by simp [e], rfl, h1, fun y mid' h' => ⟨mid', c2, by simp, h', h2⟩⟩⟩
theorem Foc.snd (a : Kd α) (b : Kd β) : Foc (Kd.pr a b) b a.sz Prod.snd (fun x y => (x.1, y)) :=
  ⟨fun {K x cs} ⟨c1, c2, e, h1, h2⟩ => ⟨c1, c2, [], by simp [e], a.len h1, h2, fun y mid' h' => ⟨c1, mid', by simp, h1, h'⟩⟩⟩
theorem Foc.st (k : Kd α) : Foc (Kd.st k) k 0 (fun x => x) (fun _ y => y) := ⟨fun {K x cs} h => ⟨[], cs, [], by simp, rfl, h, fun y mid' h' => by
  show k.R _ _ ([] ++ mid' ++ [])
  simpa using h'⟩⟩
theorem Foc.trans {o1 o2 : Nat} {g1 : α → β} {s1 : α → β → α} {g2 : β → γ} {s2 : β → γ → β} (h1 : Foc k k' o1 g1 s1) (h2 : Foc k' k'' o2 g2 s2) :
    Foc k k'' (o1 + o2) (fun x => g2 (g1 x)) (fun x y => s1 x (s2 (g1 x) y)) :=
  ⟨fun {K x cs} h => by
    obtain ⟨p1, m1, q1, e1, l1, r1, w1⟩ := h1.foc h
    obtain ⟨p2, m2, q2, e2, l2, r2, w2⟩ := h2.foc r1
    refine ⟨p1 ++ p2, m2, q2 ++ q1, by rw [e1, e2]; simp, by rw [List.length_append, l1, l2], r2, fun y mid' h' => ?_⟩
    have := w1 _ _ (w2 y mid' h')
    simpa using this⟩
/-- an element: the default where there is none -/
def ix {α : Type} [Inhabited α] (l : List α) (i : Int) : α := l.getD i.toNat default
theorem ix_of_lt {α : Type} [Inhabited α] {l : List α} {i : Int} (h : i.toNat < l.length) : ix l i = l[i.toNat] := by
  unfold ix
  simp [h]
theorem Foc.arr [Inhabited α] (n : Nat) (k : Kd α) (i : Int) (h0 : 0 ≤ i) (h1 : i < n) : Foc (Kd.arr n k) k (i.toNat * k.sz) (fun l => ix l i) (fun l y => l.set i.toNat y) :=
  ⟨fun {K x cs} ⟨hl, h⟩ => by
    have hi : i.toNat < x.length := by omega
    have hlen := RL.len (fun _ _ => k.len) h
    have hge : (i.toNat + 1) * k.sz ≤ cs.length := by rw [hlen]; exact Nat.mul_le_mul_right _ hi
    have hadd : (i.toNat + 1) * k.sz = i.toNat * k.sz + k.sz := by rw [Nat.add_mul, Nat.one_mul]
    refine ⟨cs.take (i.toNat * k.sz), (cs.drop (i.toNat * k.sz)).take k.sz, cs.drop ((i.toNat + 1) * k.sz), ?_, ?_, ?_, ?_⟩
    · rw [hadd, List.append_assoc, ← List.drop_drop, List.take_append_drop, List.take_append_drop]
    · rw [List.length_take]; omega
    · rw [ix_of_lt hi]; exact RL.get (fun _ _ => k.len) h _ hi
    · intro y mid' h'
      exact ⟨by simpa using hl, RL.set (R := k.R K) (n := k.sz) (fun _ _ => k.len) h' _ hi h⟩⟩

/-! ### a pointer to what is known for good -/
def Kd.Pt (k : Kd α) (K : Ghost) (x : α) (v : Value) : Prop := ∃ b e pre mid post, v = .pointer (some ⟨b, pre.length, none⟩) ∧ K b = some (e, pre ++ mid ++ post) ∧ k.R K x mid
theorem Kd.Pt.mono {K' : Ghost} {x : α} {v : Value} (h : k.Pt K x v) (hle : K.le K') : k.Pt K' x v := by
  obtain ⟨b, e, pre, mid, post, hv, hK, hR⟩ := h
  obtain ⟨l', h', p, rfl⟩ := hle _ _ _ hK
  exact ⟨b, e, pre, mid, post ++ p, hv, by rw [h']; simp, k.mono hle hR⟩
theorem cells_of_models (hM : Models w K) {b : Nat} {e : TypeId} {pre mid post : List Value} (hK : K b = some (e, pre ++ mid ++ post)) :
    ∀ j u, mid[j]? = some u → w.cell? ((⟨b, pre.length, none⟩ : Addr).add j) = some u := by
  intro j u hu
  obtain ⟨c, fr, hc, p, hp⟩ := hM _ _ _ hK
  rw [add_lit, cell_of_row w b _ c e fr hc, ← Array.getElem?_toList, ← hp]
  simp only [List.append_assoc]
  rw [List.getElem?_append_right (by omega), Nat.add_sub_cancel_left, List.getElem?_append_left ((List.getElem?_eq_some_iff.1 hu).1)]
  exact hu
theorem Kd.Pt.loadH (hT : TyOk P t k by_) {x : α} {a : Addr} (h : k.Pt K x (.pointer (some a))) : ∃ v, (∀ w' K', K.le K' → Models w' K' → (loadVar t a).run P w' = .ok v w') ∧ k.V K x v := by
  obtain ⟨b, e, pre, mid, post, hv, hK, hR⟩ := h
  simp only [Value.pointer.injEq, Option.some.injEq] at hv
  subst hv
  refine ⟨k.val mid, fun w' K' hle hM => ?_, Kd.val_V hR⟩
  obtain ⟨l', h', p, rfl⟩ := hle _ _ _ hK
  have h2 : K' b = some (e, pre ++ mid ++ (post ++ p)) := by rw [h']; simp
  exact loadVar_is hT _ (cells_of_models hM h2) (k.mono hle hR)
theorem Kd.Pt.load (hT : TyOk P t k by_) (hM : Models w K) {x : α} {a : Addr} (h : k.Pt K x (.pointer (some a))) : ∃ v, (loadVar t a).run P w = .ok v w ∧ k.V K x v := by
  obtain ⟨b, e, pre, mid, post, hv, hK, hR⟩ := h
  simp only [Value.pointer.injEq, Option.some.injEq] at hv
  subst hv
  exact loadVar_cells hT _ (cells_of_models hM hK) hR
theorem Kd.Pt.foc {off : Nat} {g : α → β} {s : α → β → α} (F : Foc k k' off g s) {x : α} {b o : Nat} (h : k.Pt K x (.pointer (some ⟨b, o, none⟩))) : k'.Pt K (g x) (.pointer (some ⟨b, o + off, none⟩)) := by
  obtain ⟨b, e, pre, mid, post, hv, hK, hR⟩ := h
  simp only [Value.pointer.injEq, Option.some.injEq, Addr.mk.injEq, and_true] at hv
  obtain ⟨rfl, rfl⟩ := hv
  obtain ⟨p, m, q, rfl, hl, hR', _⟩ := F.foc hR
  exact ⟨b, e, pre ++ p, m, q ++ post, by rw [List.length_append, hl], by rw [hK]; simp, hR'⟩
theorem Kd.Pt.form {x : α} {v : Value} (h : k.Pt K x v) : ∃ b o, v = .pointer (some ⟨b, o, none⟩) := by
  obtain ⟨b, e, pre, mid, post, hv, _⟩ := h
  exact ⟨b, _, hv⟩

/-! ### a box: memory of one's own, that may be written -/
def Bx (k : Kd α) (w : World) (K : Ghost) (b : Nat) (pre post : List Value) (x : α) : Prop :=
  K b = none ∧ ∃ cs T, w.heap[b]? = some (.cells (pre ++ cs ++ post).toArray T (0, 0)) ∧ k.R K x cs
theorem Bx.lt {b : Nat} {pre post : List Value} {x : α} (h : Bx k w K b pre post x) : b < w.heap.size := by
  obtain ⟨_, cs, T, hh, _⟩ := h
  exact (Array.getElem?_eq_some_iff.1 hh).1
theorem Bx.ext {X : Nat → Prop} {w' : World} {K' : Ghost} {b : Nat} {pre post : List Value} {x : α} (h : Bx k w K b pre post x) (hE : Ext X w K w' K') (hX : ¬ X b) : Bx k w' K' b pre post x := by
  have hlt := h.lt
  obtain ⟨hK, cs, T, hh, hR⟩ := h
  exact ⟨(hE.ghost b hlt hX).trans hK, cs, T, hE.cells hh hX, k.mono hE.le hR⟩
theorem Bx.extN {w' : World} {K' : Ghost} {b : Nat} {pre post : List Value} {x : α} (h : Bx k w K b pre post x) (hE : Ext NX w K w' K') : Bx k w' K' b pre post x := h.ext hE (fun h => h)
theorem Bx.new {x : α} (hM : Models w K) (T : TypeId) {cs : List Value} (hR : k.R K x cs) : Bx k (w.alloc (.cells cs.toArray T)) K w.heap.size [] [] x :=
  ⟨hM.none_of_ge (Nat.le_refl _), cs, T, by rw [heap_new]; simp, hR⟩
theorem Bx.loadH (hT : TyOk P t k' by_) {off : Nat} {g : α → β} {s : α → β → α} (F : Foc k k' off g s) {b : Nat} {pre post : List Value} {x : α} (h : Bx k w K b pre post x) :
    ∃ v, (∀ w' K', K.le K' → w'.heap[b]? = w.heap[b]? → (loadVar t ⟨b, pre.length + off, none⟩).run P w' = .ok v w') ∧ k'.V K (g x) v := by
  obtain ⟨hK, cs, T, hh, hR⟩ := h
  obtain ⟨p, m, q, rfl, hl, hR', _⟩ := F.foc hR
  refine ⟨k'.val m, fun w' K' hle he => loadVar_is hT _ (fun j u hu => ?_) (k'.mono hle hR'), Kd.val_V hR'⟩
  rw [add_lit, cell_of_row w' b _ _ T _ (he.trans hh), List.getElem?_toArray]
  simp only [List.append_assoc]
  rw [List.getElem?_append_right (by omega), List.getElem?_append_right (by omega), List.getElem?_append_left (by
    have := (List.getElem?_eq_some_iff.1 hu).1
    omega)]
  rw [← hu]
  congr 1
  omega
theorem Bx.load (hT : TyOk P t k' by_) {off : Nat} {g : α → β} {s : α → β → α} (F : Foc k k' off g s) {b : Nat} {pre post : List Value} {x : α} (h : Bx k w K b pre post x) :
    ∃ v, (loadVar t ⟨b, pre.length + off, none⟩).run P w = .ok v w ∧ k'.V K (g x) v := by
  obtain ⟨hK, cs, T, hh, hR⟩ := h
  obtain ⟨p, m, q, rfl, hl, hR', _⟩ := F.foc hR
  refine loadVar_cells hT _ (fun j u hu => ?_) hR'
  rw [add_lit, cell_of_row w b _ _ T _ hh, List.getElem?_toArray]
  simp only [List.append_assoc]
  rw [List.getElem?_append_right (by omega), List.getElem?_append_right (by omega), List.getElem?_append_left (by
    have := (List.getElem?_eq_some_iff.1 hu).1
    omega)]
  rw [← hu]
  congr 1
  omega
theorem Models.setRow (h : Models w K) {b : Nat} (hb : K b = none) (cs : Array Value) : Models (w.setRow b cs) K := fun c t l hc => by
  obtain ⟨c0, fr, hc0, hp⟩ := h c t l hc
  have hne : c ≠ b := fun e => by subst e; rw [hb] at hc; cases hc
  exact ⟨c0, fr, (setRow_other w b c cs hne).trans hc0, hp⟩
theorem Ext.setRow {X : Nat → Prop} (w : World) (K : Ghost) (b : Nat) (cs : Array Value) (hX : X b) : Ext X w K (w.setRow b cs) K :=
  ⟨Ghost.le.refl K, fun c hc hx => setRow_other w b c cs (fun e => hx (e ▸ hX)), fun _ _ _ => rfl, by simp, rfl, rfl, rfl⟩
theorem Bx.store (hT : TyOk P t k' by_) (hM : Models w K) {off : Nat} {g : α → β} {s : α → β → α} (F : Foc k k' off g s) {b : Nat} {pre post : List Value} {x : α} (h : Bx k w K b pre post x) {y : β} {v : Value} (hv : k'.V K y v) :
    ∃ w', (storeVar t ⟨b, pre.length + off, none⟩ v).run P w = .ok () w' ∧ Bx k w' K b pre post (s x y) ∧ Ext (· = b) w K w' K ∧ Models w' K := by
  obtain ⟨hK, cs, T, hh, hR⟩ := h
  obtain ⟨p, m, q, rfl, hl, hR', hS⟩ := F.foc hR
  have hc := hv.cells
  have hlm := k'.len hR'
  have hlv := k'.len hc
  have hrun := run_storeCells_at P b (pre.length + off) T v.cells.toList 0 _ w hh (by simp at hlv ⊢; omega) (k'.one hc)
  have e1 : (pre ++ (p ++ m ++ q) ++ post).take (pre.length + off) = pre ++ p := by
    rw [show pre.length + off = (pre ++ p).length from by rw [List.length_append, hl]]
    rw [show pre ++ (p ++ m ++ q) ++ post = (pre ++ p) ++ (m ++ q ++ post) from by simp]
    exact List.take_left
  have e2 : (pre ++ (p ++ m ++ q) ++ post).drop (pre.length + off + v.cells.toList.length) = q ++ post := by
    rw [show pre.length + off + v.cells.toList.length = (pre ++ p ++ m).length from by rw [List.length_append, List.length_append, hl, hlm, hlv]]
    rw [show pre ++ (p ++ m ++ q) ++ post = (pre ++ p ++ m) ++ (q ++ post) from by simp]
    exact List.drop_left
  simp only [Nat.add_zero, e1, e2] at hrun
  refine ⟨w.setRow b (pre ++ p ++ v.cells.toList ++ (q ++ post)).toArray, ?_, ⟨hK, p ++ v.cells.toList ++ q, T, ?_, hS y _ hc⟩, Ext.setRow w K b _ rfl, hM.setRow hK _⟩
  · have hsz : v.cells.size = k'.sz := hv.size
    simp [storeVar, Sem.run_bind, hT.size, hsz]
    simpa using hrun
  · rw [setRow_heap w b _ _ T _ hh]
    simp
end
end Go.Inc
