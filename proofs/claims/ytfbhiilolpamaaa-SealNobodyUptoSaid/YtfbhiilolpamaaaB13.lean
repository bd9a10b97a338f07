/-
  BASE 13: a part of a box; arrays in boxes cut, read, copied into; structs and arrays built.
-/
import Derived.Test.YtfbhiilolpamaaaB12
set_option linter.unusedVariables false
namespace Go.Inc
open Go Go.RowKit

section
variable {P : Program} {α β γ : Type} {k : Kd α} {k' : Kd β} {e t : TypeId} {by_ : Nat} {w : World} {K : Ghost} {ρ : Env}
variable {dst : Option Tmp} {ty : TypeId} {pos : String} {af : Array Edge} {g : Option (Nat × Bool)} {x y z : Operand} {v u : Value} {ik ik' : IntKind} {a b : Int} {p q : Bool}
theorem Bx.wf {bl : Nat} {pre post : List Value} {x : α} (h : Bx k w K bl pre post x) : k.wf x := by
  obtain ⟨_, cs, T, _, hR⟩ := h
  exact k.hwf hR
/-- a part of a box, and the whole again -/
theorem Bx.sub {off : Nat} {gg : α → β} {ss : α → β → α} (F : Foc k k' off gg ss) {bl : Nat} {pre post : List Value} {x : α} (h : Bx k w K bl pre post x) :
    ∃ p q, p.length = off ∧ Bx k' w K bl (pre ++ p) (q ++ post) (gg x) ∧ ∀ {w' : World} {K' : Ghost} {y : β}, K.le K' → Bx k' w' K' bl (pre ++ p) (q ++ post) y → Bx k w' K' bl pre post (ss x y) := by
  obtain ⟨hK, cs, T, hh, hR⟩ := h
  obtain ⟨p, m, q, rfl, hl, hR', hS⟩ := F.foc hR
  refine ⟨p, q, hl, ⟨hK, m, T, by rw [hh]; simp, hR'⟩, ?_⟩
  rintro w' K' y hle ⟨hK', cs', T', hh', hR2⟩
  refine ⟨hK', p ++ cs' ++ q, T', by rw [hh']; simp, ?_⟩
  obtain ⟨p2, m2, q2, e2, hl2, hRm2, hS2⟩ := F.foc (k.mono hle hR)
  have hm : m.length = m2.length := (k'.len hR').trans (k'.len hRm2).symm
  have e3 : p = p2 ∧ m = m2 ∧ q = q2 := by
    rw [List.append_assoc, List.append_assoc] at e2
    have h1 := List.append_inj e2 (hl.trans hl2.symm)
    have h2 := List.append_inj h1.2 hm
    exact ⟨h1.1, h2.1, h2.2⟩
  obtain ⟨rfl, rfl, rfl⟩ := e3
  exact hS2 y cs' hR2
theorem S_appC {X Y : List α} {t1 : TypeId} (hM : Models w K) (hx : ev ρ x = v) (hO : Own k e w K X v) (hy : ev ρ y = u) (hV : Cells k w K Y u) (ht : P.underlying t1 = some (.slice e)) (hT : TyOk P e k by_) (hsz : (Nat.blt 0 k.sz && Nat.blt 0 by_) = true) (hlen : (X.length + Y.length) * by_ ≤ 140737488355328) :
    ∃ v' w' K', (execOp (ev ρ) ⟨dst, .call { callee := .builtin .append, args := #[x, y], argTypes := #[t1, t1] }, ty, pos, af, g⟩).run P w = .ok (.value v') w' ∧ Own k e w' K' (X ++ Y) v' ∧ Ext (fun b => ob v = some b) w K w' K' ∧ Models w' K' ∧ (ob v' = ob v ∨ ob v' = some w.heap.size) := by
  simp only [Bool.and_eq_true] at hsz
  obtain ⟨v', w', K', hr, h1, h2, h3, h4⟩ := append_src (ty := ty) ht hT (Nat.le_of_ble_eq_true hsz.1) hM hO hV hlen (Nat.le_of_ble_eq_true hsz.2)
  refine ⟨v', w', K', ?_, h1, h2, h3, h4⟩
  unfold execOp
  simp [resolve, invoke, builtin, hx, hy, hr]
/-- a cut of an array that lies in a box: its cells -/
theorem Cells.ofBx {n bl : Nat} {pre post : List Value} {l : List α} (hB : Bx (Kd.arr n k) w K bl pre post l) {i j : Nat} (hij : i ≤ j) (hj : j ≤ n) (hn : n ≤ LM) {cap : Nat} {o : Nat} (ho : o = pre.length + i * k.sz) :
    Cells k w K ((l.take j).drop i) (.slice (some ⟨bl, o, none⟩) (j - i) cap) := by
  obtain ⟨hK, cs, T, hh, hl, hR⟩ := hB
  have hlen : ((l.take j).drop i).length = j - i := by rw [List.length_drop, List.length_take]; omega
  have hcl := RL.len (fun _ _ => k.len) hR
  refine ⟨_, cap, by rw [hlen], by rw [hlen]; omega, fun y hy => (RL.all (p := k.wf) (fun _ _ => k.hwf) hR) y (List.mem_of_mem_take (List.mem_of_mem_drop hy)), .inr ⟨_, (cs.take (j * k.sz)).drop (i * k.sz), rfl, ?_, ?_⟩⟩
  · exact (RL.split (fun _ _ => k.len) i (RL.split (fun _ _ => k.len) j hR).1).2
  · intro m u hu
    rw [add_lit, cell_of_row w bl _ _ T _ hh, ho, List.getElem?_toArray]
    simp only [List.append_assoc]
    rw [List.getElem?_append_right (by omega)]
    rw [List.getElem?_drop] at hu
    have hlt := (List.getElem?_eq_some_iff.1 hu).1
    rw [List.getElem?_take] at hu
    rw [List.length_take] at hlt
    rw [if_pos (by omega)] at hu
    rw [List.getElem?_append_left (by omega), ← hu]
    congr 1
    omega
/-- the value of such a cut -/
theorem S_sla {n bl o : Nat} {lo hi : Option Operand} {t1 te : TypeId} (hx : ev ρ x = .pointer (some ⟨bl, o, none⟩)) (hu : P.underlying t1 = some (.array n te)) (hT : TyOk P te k by_) (hl : LowIs ρ lo a) (hh : HighIs ρ (n : Int) hi b) (h0 : 0 ≤ a) (h1 : a ≤ b) (h2 : b ≤ (n : Int)) (h3 : a < (n : Int)) :
    (execOp (ev ρ) ⟨dst, .slice t1 x lo hi none, ty, pos, af, g⟩).run P w = .ok (.value (.slice (some ⟨bl, o + a.toNat * k.sz, none⟩) (b.toNat - a.toNat) (n - a.toNat))) w := by
  have hrun := bounds_run (P := P) (w := w) (isS := false) (n := n) (cap := n) hl hh h0 h1 h2 (Nat.le_refl _)
  have hne : ¬ (n = a.toNat) := by omega
  unfold execOp
  simp only [hx]
  simp [Instr.sliceAt, Instr.sureAddr, run_underlying hu, hrun, hT.size, hne, add_lit]
end
end Go.Inc
