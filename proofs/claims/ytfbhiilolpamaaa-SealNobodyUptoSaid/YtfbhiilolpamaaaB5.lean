/-
  BASE 5: slices: what is known of them, rows of one's own, append, slices built, made, cut, indexed.
-/
import Derived.Test.YtfbhiilolpamaaaB4
set_option linter.unusedVariables false
namespace Go.Inc
open Go Go.RowKit

/-- the block that an append may write -/
def ob : Value → Option Nat
  | .slice (some a) _ (_ + 1) => some a.block
  | _ => none
/-- a slice whose row may be appended to: nobody else knows of what stands behind its end -/
def Own {α : Type} (k : Kd α) (e : TypeId) (w : World) (K : Ghost) (x : List α) (v : Value) : Prop :=
  (∀ y ∈ x, k.wf y) ∧ x.length ≤ LM ∧
  ((∃ A, v = .slice A 0 0 ∧ x = []) ∨
   ∃ g cap c pre l, v = .slice (some ⟨g, pre.length, none⟩) x.length cap ∧ w.heap[g]? = some (.cells c e (0, 0)) ∧ x.length ≤ cap ∧ cap ≤ maxLen ∧ c.size = pre.length + cap * k.sz ∧
     K g = some (e, pre ++ l) ∧ (pre ++ l) <+: c.toList ∧ RL (k.R K) x l)
section
variable {P : Program} {α : Type} {k : Kd α} {e t ty : TypeId} {by_ : Nat} {w w' : World} {K K' : Ghost} {x y : List α} {v u : Value}
theorem Own.nil : Own k e w K [] (.slice none 0 0) := ⟨by simp, by simp [LM], .inl ⟨none, rfl, rfl⟩⟩
theorem Own.V (h : Own k e w K x v) : (Kd.sl k).V K x v := by
  obtain ⟨hwf, hlm, h⟩ := h
  rcases h with ⟨A, rfl, rfl⟩ | ⟨g, cap, c, pre, l, rfl, hg, hnc, hcm, hcs, hK, hp, hR⟩
  · exact ⟨[.slice A 0 0], ⟨A, 0, rfl, by simp, hlm, hwf, .inl rfl⟩, rfl⟩
  · exact ⟨_, ⟨_, cap, rfl, hnc, hlm, hwf, .inr ⟨g, e, pre, l, [], rfl, by simpa using hK, hR⟩⟩, rfl⟩
theorem Own.wf (h : Own k e w K x v) : x.length ≤ LM ∧ ∀ y ∈ x, k.wf y := ⟨h.2.1, h.1⟩
theorem Own.lt (h : Own k e w K x v) : ∀ g, ob v = some g → g < w.heap.size := by
  obtain ⟨hwf, hlm, h⟩ := h
  intro g hg
  rcases h with ⟨A, rfl, rfl⟩ | ⟨g', cap, c, pre, l, rfl, hgg, _⟩
  · cases A <;> simp [ob] at hg
  · cases cap with
    | zero => simp [ob] at hg
    | succ cap =>
      simp [ob] at hg
      subst hg
      exact (Array.getElem?_eq_some_iff.1 hgg).1
theorem Own.known (h : Own k e w K x v) : ∀ g, ob v = some g → ∃ l, K g = some (e, l) := by
  obtain ⟨hwf, hlm, h⟩ := h
  intro g hg
  rcases h with ⟨A, rfl, rfl⟩ | ⟨g', cap, c, pre, l, rfl, hgg, _, _, _, hK, _⟩
  · cases A <;> simp [ob] at hg
  · cases cap with
    | zero => simp [ob] at hg
    | succ cap =>
      simp [ob] at hg
      subst hg
      exact ⟨_, hK⟩
theorem Own.ext {X : Nat → Prop} (h : Own k e w K x v) (hE : Ext X w K w' K') (hX : ∀ g, ob v = some g → ¬ X g) : Own k e w' K' x v := by
  obtain ⟨hwf, hlm, h⟩ := h
  refine ⟨hwf, hlm, ?_⟩
  rcases h with h | ⟨g, cap, c, pre, l, rfl, hg, hnc, hcm, hcs, hK, hp, hR⟩
  · exact .inl h
  · cases cap with
    | zero =>
      have hx : x = [] := List.eq_nil_of_length_eq_zero (by omega)
      subst hx
      exact .inl ⟨_, rfl, rfl⟩
    | succ cap =>
      have hne := hX g rfl
      have hlt := (Array.getElem?_eq_some_iff.1 hg).1
      exact .inr ⟨g, cap + 1, c, pre, l, rfl, hE.cells hg hne, hnc, hcm, hcs, (hE.ghost g hlt hne).trans hK, hp, RL.mono (fun _ _ => k.mono hE.le) hR⟩
theorem Own.extN (h : Own k e w K x v) (hE : Ext NX w K w' K') : Own k e w' K' x v := h.ext hE (fun _ _ h => h)
/-- a row and a box differ -/
theorem Own.box {β : Type} {k' : Kd β} {b : Nat} {pre post : List Value} {z : β} (h : Own k e w K x v) (hB : Bx k' w K b pre post z) : ob v ≠ some b := fun he => by
  obtain ⟨l, hl⟩ := h.known b he
  rw [hB.1] at hl
  cases hl
/-- what a slice's address leads to, cell by cell -/
theorem S_cells (hM : Models w K) {A : Option Addr} {l : List α} (hS : k.S K l A) : l = [] ∨ ∃ b e pre mid post, A = some ⟨b, pre.length, none⟩ ∧ K b = some (e, pre ++ mid ++ post) ∧ RL (k.R K) l mid ∧ ∀ j u, mid[j]? = some u → w.cell? ((⟨b, pre.length, none⟩ : Addr).add j) = some u := by
  rcases hS with h | ⟨b, e, pre, mid, post, hA, hK, hR⟩
  · exact .inl h
  · exact .inr ⟨b, e, pre, mid, post, hA, hK, hR, cells_of_models hM hK⟩
theorem sl_form {l : List α} (h : (Kd.sl k).V K l v) : ∃ A cap, v = .slice A l.length cap ∧ l.length ≤ cap ∧ l.length ≤ LM ∧ (∀ x ∈ l, k.wf x) ∧ k.S K l A := by
  obtain ⟨cs, ⟨A, cap, rfl, h2, h3, h4, h5⟩, rfl⟩ := h
  exact ⟨A, cap, rfl, h2, h3, h4, h5⟩
theorem LM_maxLen {n : Nat} (h : n ≤ LM) : n ≤ maxLen := by simp only [LM, maxLen] at *; omega

/-- a new row -/
theorem own_new (hM : Models w K) (hsz : 0 < k.sz) {l : List Value} {c : Array Value} {cap : Nat} (hR : RL (k.R K) x l) (hwf : ∀ y ∈ x, k.wf y) (hlm : x.length ≤ LM) (hcap : x.length ≤ cap) (hcm : cap ≤ maxLen) (hc : c.size = cap * k.sz) (hp : l <+: c.toList) :
    ∃ K', Own k e (w.alloc (.cells c e)) K' x (.slice (some ⟨w.heap.size, 0, none⟩) x.length cap) ∧ Ext NX w K (w.alloc (.cells c e)) K' ∧ Models (w.alloc (.cells c e)) K' := by
  have hle : K.le (K.set w.heap.size e l) := Ghost.le_set_new (hM.none_of_ge (Nat.le_refl _)) _ _
  refine ⟨K.set w.heap.size e l, ⟨hwf, hlm, .inr ⟨w.heap.size, cap, c, [], l, rfl, heap_new w _, hcap, hcm, by simpa using hc, ?_, by simpa using hp, ?_⟩⟩, Ext.allocRow hM e c l, hM.allocRow e c l hp⟩
  · rw [Ghost.set_same]; rfl
  · exact RL.mono (fun _ _ => k.mono hle) hR

/-- what an append reads -/
def Cells (k : Kd α) (w : World) (K : Ghost) (y : List α) (u : Value) : Prop := ∃ A cap2, u = .slice A y.length cap2 ∧ y.length ≤ LM ∧ (∀ a ∈ y, k.wf a) ∧
  (y = [] ∨ ∃ a mid2, A = some a ∧ RL (k.R K) y mid2 ∧ ∀ j u, mid2[j]? = some u → w.cell? (a.add j) = some u)
theorem Cells.ofV (hM : Models w K) (hV : (Kd.sl k).V K y u) : Cells k w K y u := by
  obtain ⟨A, cap2, rfl, hc2, hlm2, hwf2, hS⟩ := sl_form hV
  refine ⟨A, cap2, rfl, hlm2, hwf2, ?_⟩
  rcases S_cells hM hS with h | ⟨b2, e2, pre2, mid2, post2, rfl, hK2, hR2, hcell2⟩
  · exact .inl h
  · exact .inr ⟨_, mid2, rfl, hR2, hcell2⟩
theorem append_src (ht : P.underlying t = some (.slice e)) (hT : TyOk P e k by_) (hsz : 0 < k.sz) (hM : Models w K) (hO : Own k e w K x v) (hV : Cells k w K y u) (hlen : (x.length + y.length) * by_ ≤ 140737488355328) (hby : 0 < by_) :
    ∃ v' w' K', (Builtin.append_ #[t, t] ty #[v, u]).run P w = .ok v' w' ∧ Own k e w' K' (x ++ y) v' ∧ Ext (fun b => ob v = some b) w K w' K' ∧ Models w' K' ∧ (ob v' = ob v ∨ ob v' = some w.heap.size) := by
  obtain ⟨i, z, hi, hsi, hz, hzc, hbi, -⟩ := hT.info
  obtain ⟨A, cap2, rfl, hlm2, hwf2, hS⟩ := hV
  obtain ⟨hwf, hlm, hO⟩ := hO
  have hxy : x.length + y.length ≤ 140737488355328 := Nat.le_trans (Nat.le_mul_of_pos_right _ hby) hlen
  have hlm' : (x ++ y).length ≤ LM := by rw [List.length_append]; simp only [LM]; omega
  have hwf' : ∀ a ∈ x ++ y, k.wf a := fun a ha => by rcases List.mem_append.1 ha with h | h; exact hwf a h; exact hwf2 a h
  have hzs : z.cells.size = k.sz := by
    have := k.len (k.hz K)
    rw [← hzc] at this
    simpa using this
  -- nothing is appended
  rcases hS with rfl | ⟨adr, mid2, rfl, hR2, hcell2⟩
  · have hfc : ∀ n, (Builtin.firstCells k.sz 0 (.slice A n cap2)).run P w = .ok #[] w := fun n => by
      cases A with
      | none => simp [Builtin.firstCells]
      | some a => simp [Builtin.firstCells, loadCells, loadCellsFrom]
    rcases hO with ⟨A1, rfl, rfl⟩ | ⟨g, cap, c, pre, l, rfl, hg, hnc, hcm, hcs, hK, hp, hR⟩
    · refine ⟨.slice A1 0 0, w, K, ?_, ⟨by simp, by simp [LM], .inl ⟨A1, rfl, rfl⟩⟩, Ext.refl _ _ _, hM, .inl rfl⟩
      cases A1 <;> simp [Builtin.append_, run_underlying ht, sizeOf, typeInfo, hi, Builtin.lenOf, hsi, hfc, storeCells]
    · refine ⟨.slice (some ⟨g, pre.length, none⟩) x.length cap, w, K, ?_, ⟨by simpa using hwf, by simpa using hlm, .inr ⟨g, cap, c, pre, l, by simp, hg, by simpa using hnc, hcm, hcs, hK, hp, by simpa using hR⟩⟩, Ext.refl _ _ _, hM, .inl rfl⟩
      simp [Builtin.append_, run_underlying ht, sizeOf, typeInfo, hi, Builtin.lenOf, hsi, hfc, storeCells, hnc]
  · have hl2 : mid2.length = y.length * k.sz := RL.len (fun _ _ => k.len) hR2
    have h1 : ∀ a ∈ mid2, a.oneCell' = true := RL.one (fun _ _ => k.one) hR2
    have h63 : ((x.length + y.length : Nat) : Int) ≤ 9223372036854775807 := by omega
    -- a new row is made
    have grown : ∀ (old : Nat) (l : List Value), RL (k.R K) x l → ∃ K',
        Own k e (w.drew.alloc (.cells (l.toArray ++ mid2.toArray ++ Builtin.zeroCells z.cells (grownCap w (x.length + y.length) old e - (x.length + y.length))) e)) K' (x ++ y) (.slice (some ⟨w.heap.size, 0, none⟩) (x.length + y.length) (grownCap w (x.length + y.length) old e)) ∧
        Ext NX w K (w.drew.alloc (.cells (l.toArray ++ mid2.toArray ++ Builtin.zeroCells z.cells (grownCap w (x.length + y.length) old e - (x.length + y.length))) e)) K' ∧
        Models (w.drew.alloc (.cells (l.toArray ++ mid2.toArray ++ Builtin.zeroCells z.cells (grownCap w (x.length + y.length) old e - (x.length + y.length))) e)) K' := by
      intro old l hRl
      have hll : l.length = x.length * k.sz := RL.len (fun _ _ => k.len) hRl
      have hge := grownCap_ge w (x.length + y.length) old e
      have hcm := grownCap_le_maxLen w (x.length + y.length) old e (by simp only [maxLen]; omega)
      obtain ⟨K', h1, h2, h3⟩ := own_new (w := w.drew) (K := K) (k := k) (e := e) (x := x ++ y) (l := l ++ mid2) (c := l.toArray ++ mid2.toArray ++ Builtin.zeroCells z.cells (grownCap w (x.length + y.length) old e - (x.length + y.length))) (cap := grownCap w (x.length + y.length) old e)
        hM hsz (RL.append hRl hR2) hwf' hlm' (by rw [List.length_append]; exact hge) hcm (by
          simp only [Array.size_append, List.size_toArray, size_zeroCells, hzs, hll, hl2, ← Nat.add_mul]
          congr 1
          omega) (by simp)
      rw [List.length_append] at h1
      exact ⟨K', h1, (Ext.drew w K).trans h2, h3⟩
    rcases hO with ⟨A1, rfl, rfl⟩ | ⟨g, cap, c, pre, l, rfl, hg, hnc, hcm, hcs, hK, hp, hR⟩
    · obtain ⟨K', g1, g2, g3⟩ := grown 0 [] rfl
      simp only [List.length_nil, Nat.zero_add, List.nil_append, Array.empty_append] at g1 g2 g3 hxy h63 hlen
      by_cases hm : y.length = 0
      · have hy : y = [] := List.eq_nil_of_length_eq_zero hm
        subst hy
        simp [RL] at hR2
        subst hR2
        refine ⟨.slice A1 0 0, w, K, ?_, ⟨by simp, by simp [LM], .inl ⟨A1, rfl, rfl⟩⟩, Ext.refl _ _ _, hM, .inl rfl⟩
        cases A1 <;> simp [Builtin.append_, run_underlying ht, sizeOf, typeInfo, hi, Builtin.lenOf, Builtin.firstCells, loadCells, loadCellsFrom, storeCells]
      · refine ⟨_, _, K', ?_, g1, g2.ofN, g3, .inr ?_⟩
        · cases A1 with
          | none => exact run_append_nil (P := P) w t ty e i z ht hi hz _ y.length cap2 mid2 (by rw [hl2, hsi]) hcell2 (by omega) (by omega) (by rw [hbi]; omega)
          | some a1 =>
            have hr := run_append_grow (P := P) w t ty e i z ht hi hz a1 0 0 [] (by simp) (by simp) _ y.length cap2 mid2 (by rw [hl2, hsi]) hcell2 (by omega) (by simpa using h63) (growslice_fits (by omega) (by rw [hbi]; simpa using hlen))
            simpa using hr
        · have hge := grownCap_ge w y.length 0 e
          cases hgc : grownCap w y.length 0 e with
          | zero => rw [hgc] at hge; omega
          | succ m => rfl
    · by_cases hroom : x.length + y.length ≤ cap
      · -- in place
        have hll : l.length = x.length * k.sz := RL.len (fun _ _ => k.len) hR
        obtain ⟨q, hq⟩ := hp
        have hcl : c.toList.length = pre.length + cap * k.sz := by simpa using hcs
        have hql : (pre ++ l ++ q).length = pre.length + cap * k.sz := by rw [hq]; exact hcl
        simp only [List.length_append] at hql
        have hmul : (x.length + y.length) * k.sz ≤ cap * k.sz := Nat.mul_le_mul_right _ hroom
        rw [Nat.add_mul] at hmul
        have hst := run_storeCells_at P g (pre.length + x.length * k.sz) e mid2 0 c w hg (by
          simp only [Nat.add_zero]
          rw [hcs, hl2]
          omega) h1
        have et : c.toList.take (pre.length + x.length * k.sz) = pre ++ l := by
          rw [← hq, show pre.length + x.length * k.sz = (pre ++ l).length from by rw [List.length_append, hll]]
          exact List.take_left
        simp only [Nat.add_zero, et] at hst
        have hwrite : ∃ K', K' = K.set g e (pre ++ (l ++ mid2)) := ⟨_, rfl⟩
        obtain ⟨K', hK'⟩ := hwrite
        have hle : K.le K' := by rw [hK']; exact Ghost.le_set_more hK ⟨mid2, by simp⟩
        refine ⟨.slice (some ⟨g, pre.length, none⟩) (x.length + y.length) cap, w.setRow g (pre ++ l ++ mid2 ++ c.toList.drop (pre.length + x.length * k.sz + mid2.length)).toArray, K', ?_, ⟨hwf', hlm', .inr ⟨g, cap, _, pre, l ++ mid2, by rw [List.length_append], setRow_heap w g c _ e _ hg, by rw [List.length_append]; exact hroom, hcm, ?_, ?_, ?_, ?_⟩⟩, ?_, ?_, .inl (by cases cap <;> rfl)⟩
        · have hf := run_firstCells_some (P := P) w k.sz y.length _ y.length cap2 mid2 hl2 hcell2
          simp [Builtin.append_, run_underlying ht, sizeOf, typeInfo, hi, Builtin.lenOf, hroom, hsi, hf, add_lit, hst]
        · simp only [List.size_toArray, List.length_append, List.length_drop, hcl, hl2, hll]
          omega
        · rw [hK', Ghost.set_same]
        · rw [List.toList_toArray]
          exact ⟨c.toList.drop (pre.length + x.length * k.sz + mid2.length), by simp⟩
        · exact RL.append (RL.mono (fun _ _ => k.mono hle) hR) (RL.mono (fun _ _ => k.mono hle) hR2)
        · have hne : cap ≠ 0 ∨ (y.length = 0 ∧ x.length = 0) := by omega
          have hobx : ∀ b, b = g → ob (.slice (some ⟨g, pre.length, none⟩) x.length cap) = some b ∨ mid2 = [] := fun b hb => by
            cases cap with
            | zero => right; exact List.eq_nil_of_length_eq_zero (by rw [hl2, show y.length = 0 from by omega, Nat.zero_mul])
            | succ cap => left; subst hb; rfl
          refine ⟨hle, fun b hb hx => ?_, fun b hb hx => ?_, by simp, rfl, rfl, rfl⟩
          · by_cases hbg : b = g
            · subst hbg
              rcases hobx b rfl with h | h
              · exact absurd h hx
              · rw [setRow_heap w b c _ e _ hg, hg, h]
                congr 2
                apply Array.ext'
                rw [List.toList_toArray]
                simp only [List.append_nil, List.length_nil, Nat.add_zero]
                rw [← et, List.take_append_drop]
            · exact setRow_other w g b _ hbg
          · by_cases hbg : b = g
            · subst hbg
              rcases hobx b rfl with h | h
              · exact absurd h hx
              · rw [hK', Ghost.set_same, hK, h]; simp
            · rw [hK', Ghost.set_other _ _ _ hbg]
        · intro b t' l' hb
          rw [hK'] at hb
          by_cases hbg : b = g
          · subst hbg
            rw [Ghost.set_same] at hb
            cases hb
            exact ⟨_, _, setRow_heap w b c _ e _ hg, by rw [List.toList_toArray]; exact ⟨c.toList.drop (pre.length + x.length * k.sz + mid2.length), by simp⟩⟩
          · rw [Ghost.set_other _ _ _ hbg] at hb
            obtain ⟨c0, fr, h0, h00⟩ := hM b t' l' hb
            exact ⟨c0, fr, (setRow_other w g b _ hbg).trans h0, h00⟩
      · obtain ⟨K', g1, g2, g3⟩ := grown cap l hR
        have hll : l.length = x.length * k.sz := RL.len (fun _ _ => k.len) hR
        have holds : ∀ j u, l[j]? = some u → w.cell? ((⟨g, pre.length, none⟩ : Addr).add j) = some u := cells_of_models (post := []) hM (by simpa using hK)
        have hr := run_append_grow (P := P) (ty := ty) w t e i z ht hi hz ⟨g, pre.length, none⟩ x.length cap l (by rw [hll, hsi]) holds _ y.length cap2 mid2 (by rw [hl2, hsi]) hcell2 (by omega) h63 (growslice_fits (by omega) (by rw [hbi]; exact hlen))
        refine ⟨_, _, K', hr, g1, g2.ofN, g3, .inr ?_⟩
        have hge := grownCap_ge w (x.length + y.length) cap e
        cases hgc : grownCap w (x.length + y.length) cap e with
        | zero => rw [hgc] at hge; omega
        | succ m => rfl
theorem append_own (ht : P.underlying t = some (.slice e)) (hT : TyOk P e k by_) (hsz : 0 < k.sz) (hM : Models w K) (hO : Own k e w K x v) (hV : (Kd.sl k).V K y u) (hlen : (x.length + y.length) * by_ ≤ 140737488355328) (hby : 0 < by_) :
    ∃ v' w' K', (Builtin.append_ #[t, t] ty #[v, u]).run P w = .ok v' w' ∧ Own k e w' K' (x ++ y) v' ∧ Ext (fun b => ob v = some b) w K w' K' ∧ Models w' K' ∧ (ob v' = ob v ∨ ob v' = some w.heap.size) := append_src ht hT hsz hM hO (Cells.ofV hM hV) hlen hby
end
end Go.Inc
