/-
  BASE 14: an array's box given up for good; copies into it; structs and arrays built.
-/
import Derived.Test.YtfbhiilolpamaaaB13
set_option linter.unusedVariables false
namespace Go.Inc
open Go Go.RowKit

section
variable {P : Program} {α β γ : Type} {k : Kd α} {k' : Kd β} {e t : TypeId} {by_ : Nat} {w : World} {K : Ghost} {ρ : Env}
variable {dst : Option Tmp} {ty : TypeId} {pos : String} {af : Array Edge} {g : Option (Nat × Bool)} {x y z : Operand} {v u : Value} {ik ik' : IntKind} {a b : Int} {p q : Bool}
/-- a box that is given up: what lies in it is known for good -/
theorem Bx.freeze (hM : Models w K) {bl : Nat} {pre post : List Value} {X : α} (h : Bx k w K bl pre post X) :
    ∃ K', Ext (· = bl) w K w K' ∧ Models w K' ∧ k.Pt K' X (.pointer (some ⟨bl, pre.length, none⟩)) := by
  obtain ⟨hK, cs, T, hh, hR⟩ := h
  have hle : K.le (K.set bl T (pre ++ cs ++ post)) := Ghost.le_set_new hK _ _
  refine ⟨K.set bl T (pre ++ cs ++ post), ⟨hle, fun _ _ _ => rfl, fun c _ hc => Ghost.set_other _ _ _ hc, Nat.le_refl _, rfl, rfl, rfl⟩, ?_, ⟨bl, T, pre, cs, post, rfl, Ghost.set_same _ _ _ _, k.mono hle hR⟩⟩
  intro c t l hc
  by_cases he : c = bl
  · subst he
    rw [Ghost.set_same] at hc
    cases hc
    exact ⟨_, _, hh, by rw [List.toList_toArray]; exact List.prefix_refl _⟩
  · rw [Ghost.set_other _ _ _ he] at hc
    exact hM c t l hc
/-- a cut of an array that is known for good -/
theorem Pt.cut {n bl o : Nat} {l : List α} (h : (Kd.arr n k).Pt K l (.pointer (some ⟨bl, o, none⟩))) {i j : Nat} (hij : i ≤ j) (hj : j ≤ n) (hn : n ≤ LM) :
    (Kd.sl k).V K ((l.take j).drop i) (.slice (some ⟨bl, o + i * k.sz, none⟩) (j - i) (n - i)) := by
  obtain ⟨b, e, pre, mid, post, hv, hK, hl, hR⟩ := h
  simp only [Value.pointer.injEq, Option.some.injEq, Addr.mk.injEq, and_true] at hv
  obtain ⟨rfl, rfl⟩ := hv
  have hlen : ((l.take j).drop i).length = j - i := by rw [List.length_drop, List.length_take]; omega
  have hml := RL.len (fun _ _ => k.len) hR
  have him : i * k.sz ≤ mid.length := by rw [hml]; exact Nat.mul_le_mul_right _ (by omega)
  rw [← hlen]
  refine ⟨_, ⟨_, n - i, rfl, by rw [hlen]; omega, by rw [hlen]; omega, fun y hy => (RL.all (p := k.wf) (fun _ _ => k.hwf) hR) y (List.mem_of_mem_take (List.mem_of_mem_drop hy)), .inr ⟨bl, e, pre ++ mid.take (i * k.sz), (mid.take (j * k.sz)).drop (i * k.sz), mid.drop (j * k.sz) ++ post, ?_, ?_, (RL.split (fun _ _ => k.len) i (RL.split (fun _ _ => k.len) j hR).1).2⟩⟩, rfl⟩
  · simp only [List.length_append, List.length_take]
    congr 3
    omega
  · rw [hK]
    congr 2
    have e1 : mid.take (i * k.sz) ++ (mid.take (j * k.sz)).drop (i * k.sz) = mid.take (j * k.sz) := by
      have h4 : mid.take (i * k.sz) = (mid.take (j * k.sz)).take (i * k.sz) := by
        rw [List.take_take, Nat.min_eq_left (Nat.mul_le_mul_right _ hij)]
      rw [h4, List.take_append_drop]
    have e2 : mid = mid.take (i * k.sz) ++ (mid.take (j * k.sz)).drop (i * k.sz) ++ mid.drop (j * k.sz) := by rw [e1, List.take_append_drop]
    conv => lhs; rw [e2]
    simp only [List.append_assoc]
/-- a copy into an array's box -/
theorem S_copyB {n bl o m cap i : Nat} {pre post : List Value} {l Y : List α} {t1 t2 : TypeId} (hM : Models w K) (hx : ev ρ x = .slice (some ⟨bl, o, none⟩) m cap) (hy : ev ρ y = u) (hC : Cells k w K Y u) (ht : P.underlying t1 = some (.slice e)) (hT : TyOk P e k by_)
    (hB : Bx (Kd.arr n k) w K bl pre post l) (ho : o = pre.length + i * k.sz) (hi : i + m ≤ n) :
    ∃ w', (execOp (ev ρ) ⟨dst, .call { callee := .builtin .copy, args := #[x, y], argTypes := #[t1, t2] }, ty, pos, af, g⟩).run P w = .ok (.value (.int .i64 ((min Y.length m : Nat) : Int))) w' ∧
      Bx (Kd.arr n k) w' K bl pre post (l.take i ++ Y.take m ++ l.drop (i + min Y.length m)) ∧ Ext (· = bl) w K w' K ∧ Models w' K := by
  obtain ⟨A, cap2, rfl, hlm, hwf, hS⟩ := hC
  obtain ⟨hK, cs, T, hh, hl, hR⟩ := hB
  have hcl := RL.len (fun _ _ => k.len) hR
  -- the cells that are copied
  have hsrc : ∃ mid, (∀ w' : World, w' = w → (Builtin.firstCells k.sz (min Y.length m) (.slice A Y.length cap2)).run P w' = .ok mid.toArray w') ∧ RL (k.R K) (Y.take m) mid := by
    rcases hS with rfl | ⟨ad, mid, rfl, hRY, hc⟩
    · refine ⟨[], fun w' _ => ?_, by simp [RL]⟩
      cases A <;> simp [Builtin.firstCells, loadCells, loadCellsFrom]
    · have hml := RL.len (fun _ _ => k.len) hRY
      refine ⟨mid.take (m * k.sz), fun w' hw => ?_, (RL.split (fun _ _ => k.len) m hRY).1⟩
      subst hw
      refine run_firstCells_some w' k.sz (min Y.length m) ad _ _ _ ?_ ?_
      · rw [List.length_take, hml]
        rcases Nat.le_total Y.length m with h | h
        · rw [Nat.min_eq_left h, Nat.min_eq_right (Nat.mul_le_mul_right _ h)]
        · rw [Nat.min_eq_right h, Nat.min_eq_left (Nat.mul_le_mul_right _ h)]
      · intro j u hu
        refine hc j u ?_
        rw [List.getElem?_take] at hu
        split at hu
        · exact hu
        · cases hu
  obtain ⟨mid, hrun, hRm⟩ := hsrc
  have hmm := RL.len (fun _ _ => k.len) hRm
  have hmin : (Y.take m).length = min Y.length m := by rw [List.length_take, Nat.min_comm]
  rw [hmin] at hmm
  have hle : i * k.sz + mid.length ≤ cs.length := by
    rw [hmm, hcl, ← Nat.add_mul]
    exact Nat.mul_le_mul_right _ (by omega)
  have hst := run_storeCells_at P bl (pre.length + i * k.sz) T mid 0 _ w hh (by simp; omega) (fun v hv => RL.one (fun _ _ => k.one) hRm v hv)
  have e1 : (pre ++ cs ++ post).take (pre.length + i * k.sz) = pre ++ cs.take (i * k.sz) := by
    rw [List.append_assoc, List.take_length_add_append, List.take_append_of_le_length (by omega)]
  have e2 : (pre ++ cs ++ post).drop (pre.length + i * k.sz + mid.length) = cs.drop (i * k.sz + mid.length) ++ post := by
    rw [List.append_assoc, Nat.add_assoc, List.drop_length_add_append, List.drop_append_of_le_length (by omega)]
  simp only [Nat.add_zero, e1, e2] at hst
  refine ⟨w.setRow bl (pre ++ cs.take (i * k.sz) ++ mid ++ (cs.drop (i * k.sz + mid.length) ++ post)).toArray, ?_, ⟨hK, cs.take (i * k.sz) ++ mid ++ cs.drop (i * k.sz + mid.length), T, ?_, ?_, ?_⟩, Ext.setRow w K bl _ rfl, hM.setRow hK _⟩
  · have key : (Builtin.copy_ #[t1, t2] ty #[.slice (some ⟨bl, o, none⟩) m cap, .slice A Y.length cap2]).run P w = .ok (.int .i64 ((min Y.length m : Nat) : Int)) (w.setRow bl (pre ++ cs.take (i * k.sz) ++ mid ++ (cs.drop (i * k.sz + mid.length) ++ post)).toArray) := by
      unfold Builtin.copy_
      have h1 := hrun w rfl
      rw [show min Y.length m = Nat.min Y.length m from rfl] at h1 ⊢
      simp [run_underlying ht, Builtin.lenOf, hT.size, h1, ho]
      rw [show (pre ++ (cs.take (i * k.sz) ++ (mid ++ (cs.drop (i * k.sz + mid.length) ++ post)))) = pre ++ cs.take (i * k.sz) ++ mid ++ (cs.drop (i * k.sz + mid.length) ++ post) from by simp]
      rw [hst]
      rfl
    unfold execOp
    simp [resolve, invoke, builtin, hx, hy, key]
  · rw [setRow_heap w bl _ _ T _ hh]
    simp
  · simp only [List.length_append, List.length_take, List.length_drop, hl]
    omega
  · have h1 := (RL.split (fun _ _ => k.len) i hR).1
    have h2 := (RL.split (fun _ _ => k.len) (i + min Y.length m) hR).2
    rw [Nat.add_mul, ← hmm] at h2
    exact RL.append (RL.append h1 hRm) h2
end
end Go.Inc
