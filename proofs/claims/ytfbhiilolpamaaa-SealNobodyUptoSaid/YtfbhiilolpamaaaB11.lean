/-
  BASE 11: bytes and strings; equality; parts of slices; slices made.
-/
import Derived.Test.YtfbhiilolpamaaaB10
set_option linter.unusedVariables false
namespace Go.Inc
open Go Go.RowKit

def cellB (c : UInt8) : Value := .int .u8 (c.toNat : Int)
theorem RL_bytes {K : Ghost} : ∀ {xs : List UInt8} {cs : List Value}, RL (Kd.byte.R K) xs cs → cs = xs.map cellB
  | [], cs, h => h
  | x :: xs, cs, h => by
    obtain ⟨c1, c2, rfl, h1, h2⟩ := h
    have h1' : c1 = [cellB x] := h1
    rw [RL_bytes h2, h1']
    rfl
theorem bytes_RL {K : Ghost} : ∀ (xs : List UInt8), RL (Kd.byte.R K) xs (xs.map cellB)
  | [] => rfl
  | x :: xs => ⟨[cellB x], xs.map cellB, rfl, rfl, bytes_RL xs⟩
theorem arrb_form {K : Ghost} {n : Nat} {xs : List UInt8} {v : Value} (h : (Kd.arr n Kd.byte).V K xs v) : v = .agg (xs.map cellB).toArray ∧ xs.length = n := by
  obtain ⟨cs, ⟨hl, hR⟩, rfl⟩ := h
  rw [RL_bytes hR]
  exact ⟨rfl, hl⟩
section
variable {P : Program} {α β : Type} {k : Kd α} {k' : Kd β} {e t : TypeId} {by_ : Nat} {w : World} {K : Ghost} {ρ : Env}
variable {dst : Option Tmp} {ty : TypeId} {pos : String} {af : Array Edge} {g : Option (Nat × Bool)} {x y z : Operand} {v u : Value} {ik ik' : IntKind} {a b : Int} {p q : Bool}
theorem beq_dec (s r : List UInt8) : (s == r) = decide (s = r) := by
  rw [Bool.eq_iff_iff]
  simp
theorem R_seql {s r : List UInt8} (hx : ev ρ x = .string ⟨s.toArray⟩) (hy : ev ρ y = .string ⟨r.toArray⟩) {t1 t2 : TypeId} (ht : P.underlying t1 = some .string) : (execOp (ev ρ) ⟨dst, .binOp .eql t1 x y t2, ty, pos, af, g⟩).run P w = .ok (.value (.bool (decide (s = r)))) w := by
  unfold execOp; simp only [hx, hy]; simp [binOp, eqGuard, Op.stringOp, ByteArray.toList_eq, beq_dec]
theorem R_sneq {s r : List UInt8} (hx : ev ρ x = .string ⟨s.toArray⟩) (hy : ev ρ y = .string ⟨r.toArray⟩) {t1 t2 : TypeId} (ht : P.underlying t1 = some .string) : (execOp (ev ρ) ⟨dst, .binOp .neq t1 x y t2, ty, pos, af, g⟩).run P w = .ok (.value (.bool (decide (s ≠ r)))) w := by
  unfold execOp; simp only [hx, hy]; simp [binOp, eqGuard, Op.stringOp, ByteArray.toList_eq, beq_dec]
/-- strings, which is ahead -/
def sless (s r : List UInt8) : Bool := Op.bytesLess s r
theorem R_slss {s r : List UInt8} (hx : ev ρ x = .string ⟨s.toArray⟩) (hy : ev ρ y = .string ⟨r.toArray⟩) {t1 t2 : TypeId} (ht : P.underlying t1 = some .string) : (execOp (ev ρ) ⟨dst, .binOp .lss t1 x y t2, ty, pos, af, g⟩).run P w = .ok (.value (.bool (sless s r))) w := by
  unfold execOp; simp only [hx, hy]; simp [binOp, eqGuard, Op.stringOp, ByteArray.toList_eq, sless]
theorem R_sgtr {s r : List UInt8} (hx : ev ρ x = .string ⟨s.toArray⟩) (hy : ev ρ y = .string ⟨r.toArray⟩) {t1 t2 : TypeId} (ht : P.underlying t1 = some .string) : (execOp (ev ρ) ⟨dst, .binOp .gtr t1 x y t2, ty, pos, af, g⟩).run P w = .ok (.value (.bool (!(sless s r || decide (s = r))))) w := by
  unfold execOp; simp only [hx, hy]; simp [binOp, eqGuard, Op.stringOp, ByteArray.toList_eq, sless, beq_dec]
theorem R_sleq {s r : List UInt8} (hx : ev ρ x = .string ⟨s.toArray⟩) (hy : ev ρ y = .string ⟨r.toArray⟩) {t1 t2 : TypeId} (ht : P.underlying t1 = some .string) : (execOp (ev ρ) ⟨dst, .binOp .leq t1 x y t2, ty, pos, af, g⟩).run P w = .ok (.value (.bool (sless s r || decide (s = r)))) w := by
  unfold execOp; simp only [hx, hy]; simp [binOp, eqGuard, Op.stringOp, ByteArray.toList_eq, sless, beq_dec]
theorem R_sgeq {s r : List UInt8} (hx : ev ρ x = .string ⟨s.toArray⟩) (hy : ev ρ y = .string ⟨r.toArray⟩) {t1 t2 : TypeId} (ht : P.underlying t1 = some .string) : (execOp (ev ρ) ⟨dst, .binOp .geq t1 x y t2, ty, pos, af, g⟩).run P w = .ok (.value (.bool (!sless s r))) w := by
  unfold execOp; simp only [hx, hy]; simp [binOp, eqGuard, Op.stringOp, ByteArray.toList_eq, sless]
theorem R_sadd {s r : List UInt8} (hx : ev ρ x = .string ⟨s.toArray⟩) (hy : ev ρ y = .string ⟨r.toArray⟩) {t1 t2 : TypeId} (ht : P.underlying t1 = some .string) (hl : s.length + r.length ≤ LM) : (execOp (ev ρ) ⟨dst, .binOp .add t1 x y t2, ty, pos, af, g⟩).run P w = .ok (.value (.string ⟨(s ++ r).toArray⟩)) w := by
  unfold execOp; simp only [hx, hy]
  have h1 : (⟨s.toArray⟩ : ByteArray).size = s.length := by simp [ByteArray.size]
  have h2 : (⟨r.toArray⟩ : ByteArray).size = r.length := by simp [ByteArray.size]
  have h3 : ¬ ((9223372036854775807 : Int) < ((s.length : Int) + (r.length : Int))) := by unfold LM at hl; omega
  simp [binOp, eqGuard, Op.stringOp, h1, h2, h3]
  apply ByteArray.ext
  rw [ByteArray.data_append]
  simp
/-! ### arrays of bytes -/
theorem eqItems_bytes (d : Nat) {t : TypeId} (hT : TyOk P t Kd.byte by_) (he : P.underlying t = some (.int .u8)) (xs ys : List UInt8) : ∀ (is : List Nat), (∀ i ∈ is, i < xs.length ∧ i < ys.length) →
    (Op.eqItems (d + 1) t 1 (xs.map cellB).toArray (ys.map cellB).toArray is).run P w = .ok (is.all fun i => xs[i]? == ys[i]?) w
  | [], _ => by simp [Op.eqItems]
  | i :: is, h => by
    obtain ⟨h1, h2⟩ := h i (by simp)
    have p1 : ∀ (zs : List UInt8) (hz : i < zs.length), (part t (zs.map cellB).toArray i).run P w = .ok (cellB zs[i]) w := fun zs hz => by
      unfold part
      rw [Sem.run_bind, hT.isAgg]
      simp [Kd.byte, hz]
    have p2 : (Op.equalIn (d + 1) t (cellB xs[i]) (cellB ys[i])).run P w = .ok (xs[i] == ys[i]) w := by
      unfold cellB
      rw [run_equalIn_int w d t .u8 .u8 _ _ he]
      congr 1
      rw [Bool.eq_iff_iff]
      simp [← UInt8.toNat_inj]
      omega
    rw [Op.eqItems]
    simp only [Nat.mul_one, Sem.run_bind, p1 xs h1, p1 ys h2, p2, Result.andThen_ok]
    have ih := eqItems_bytes d hT he xs ys is (fun j hj => h j (by simp [hj]))
    cases hb : (xs[i] == ys[i]) with
    | false => simp [h1, h2, hb]
    | true => simp [h1, h2, hb, ih]
theorem all_ix (xs ys : List UInt8) (n : Nat) (hx : xs.length = n) (hy : ys.length = n) : ((List.range n).all fun i => xs[i]? == ys[i]?) = decide (xs = ys) := by
  rw [Bool.eq_iff_iff]
  simp only [List.all_eq_true, List.mem_range, beq_iff_eq, decide_eq_true_eq]
  constructor
  · intro h
    apply List.ext_getElem?
    intro i
    rcases Nat.lt_or_ge i n with hi | hi
    · exact h i hi
    · rw [List.getElem?_eq_none (by omega), List.getElem?_eq_none (by omega)]
  · rintro rfl i _
    rfl
theorem eqIn_arr (d : Nat) {t e : TypeId} {n : Nat} {xs ys : List UInt8} {v u : Value} (hv : (Kd.arr n Kd.byte).V K xs v) (hu : (Kd.arr n Kd.byte).V K ys u) (ht : P.underlying t = some (.array n e)) (he : P.underlying e = some (.int .u8)) (hT : TyOk P e Kd.byte by_) :
    (Op.equalIn (d + 2) t v u).run P w = .ok (decide (xs = ys)) w := by
  obtain ⟨rfl, hx⟩ := arrb_form hv
  obtain ⟨rfl, hy⟩ := arrb_form hu
  obtain ⟨i, z, hi, hsi, hz, hzc, hbi, -⟩ := hT.info
  rw [run_equalIn_array w (d + 1) _ _ ht hi]
  have hc : P.cellsOf e = 1 := by
    unfold Program.cellsOf
    rw [hi]
    simp [hsi, Kd.byte]
  rw [hc, eqItems_bytes d hT he xs ys _ (fun j hj => by have := List.mem_range.1 hj; omega), all_ix xs ys n hx hy]
theorem R_aeql {n : Nat} {xs ys : List UInt8} (hx : ev ρ x = v) (hy : ev ρ y = u) (hv : (Kd.arr n Kd.byte).V K xs v) (hu : (Kd.arr n Kd.byte).V K ys u) {t1 t2 te : TypeId} (ht : P.underlying t1 = some (.array n te)) (he : P.underlying te = some (.int .u8)) (hT : TyOk P te Kd.byte by_) (hg : P.eqGuardType P.depth t1 = false) :
    (execOp (ev ρ) ⟨dst, .binOp .eql t1 x y t2, ty, pos, af, g⟩).run P w = .ok (.value (.bool (decide (xs = ys)))) w := by
  have h := eqIn_arr (P := P) (w := w) 9998 hv hu ht he hT
  obtain ⟨rfl, _⟩ := arrb_form hv
  obtain ⟨rfl, _⟩ := arrb_form hu
  unfold execOp
  simp only [hx, hy]
  simp only [Sem.run_bind, run_eqGuard_agg w _ _ _ _ _ _ hg, Result.andThen_ok, run_eql_struct, h]
  rfl
theorem R_aneq {n : Nat} {xs ys : List UInt8} (hx : ev ρ x = v) (hy : ev ρ y = u) (hv : (Kd.arr n Kd.byte).V K xs v) (hu : (Kd.arr n Kd.byte).V K ys u) {t1 t2 te : TypeId} (ht : P.underlying t1 = some (.array n te)) (he : P.underlying te = some (.int .u8)) (hT : TyOk P te Kd.byte by_) (hg : P.eqGuardType P.depth t1 = false) :
    (execOp (ev ρ) ⟨dst, .binOp .neq t1 x y t2, ty, pos, af, g⟩).run P w = .ok (.value (.bool (decide (xs ≠ ys)))) w := by
  have h := eqIn_arr (P := P) (w := w) 9998 hv hu ht he hT
  obtain ⟨rfl, _⟩ := arrb_form hv
  obtain ⟨rfl, _⟩ := arrb_form hu
  unfold execOp
  simp only [hx, hy]
  have h2 : ∀ a b, (binOp .neq t1 (.agg a) (.agg b)).run P w = ((Op.equalIn 10000 t1 (.agg a) (.agg b)).run P w).andThen fun r w' => .ok (.bool (!r)) w' := fun a b => by
    simp [binOp, Op.equal, Op.maxDepth]
  simp only [Sem.run_bind, run_eqGuard_agg w _ _ _ _ _ _ hg, Result.andThen_ok, h2, h]
  simp

/-! ### conversions -/
theorem bytes_cells {l : List UInt8} {A : Option Addr} (hM : Models w K) (hS : Kd.byte.S K l A) : l = [] ∨ ∃ a, A = some a ∧ ∀ j (hj : j < l.length), w.cell? (a.add j) = some (.int .u8 (l[j].toNat : Int)) := by
  rcases S_cells hM hS with h | ⟨bl, e2, pre, mid, post, hA, hK, hR, hc⟩
  · exact .inl h
  · refine .inr ⟨_, hA, fun j hj => hc j _ ?_⟩
    rw [RL_bytes hR]
    simp [cellB, hj]
theorem S_b2s {l : List UInt8} {Z : Nat → Prop} (hx : ev ρ x = v) (hV : (Kd.sl Kd.byte).V K l v) {t1 t2 : TypeId} (h1 : P.underlying t1 = some (.slice e)) (h2 : P.underlying t2 = some .string) (he : P.underlying e = some (.int .u8)) :
    ∀ w' K', Ext Z w K w' K' → Models w' K' → (execOp (ev ρ) ⟨dst, .convert t1 t2 x, ty, pos, af, g⟩).run P w' = .ok (.value (.string ⟨l.toArray⟩)) w' := by
  intro w' K' hE hM
  obtain ⟨A, cap, rfl, hc, hl, hwf, hS⟩ := sl_form (hV.mono hE.le)
  unfold execOp
  simp only [hx]
  have key : (convert t1 t2 (.slice A l.length cap)).run P w' = .ok (.string ⟨l.toArray⟩) w' := by
    rcases bytes_cells hM hS with rfl | ⟨a, rfl, hcell⟩
    · cases A with
      | none => simp [convert, run_underlying h1, run_underlying h2, run_underlying he, Conv.bytesToString]; rfl
      | some a => exact run_convert_bytes_back w' t1 t2 e a cap [] h1 he h2 (fun j hj => by simp at hj)
    · exact run_convert_bytes_back w' t1 t2 e a cap l h1 he h2 hcell
  simp [key]
theorem S_s2b {l : List UInt8} (hM : Models w K) (hx : ev ρ x = .string ⟨l.toArray⟩) (hw : l.length ≤ LM) {t1 t2 : TypeId} (h1 : P.underlying t1 = some .string) (h2 : P.underlying t2 = some (.slice e)) (he : P.underlying e = some (.int .u8)) :
    ∃ v w' K', (execOp (ev ρ) ⟨dst, .convert t1 t2 x, ty, pos, af, g⟩).run P w = .ok (.value v) w' ∧ (Kd.sl Kd.byte).V K' l v ∧ Ext NX w K w' K' ∧ Models w' K' := by
  have hsz : (⟨l.toArray⟩ : ByteArray).size = l.length := by simp [ByteArray.size]
  have hr := run_bytes_of_string (P := P) w t1 t2 e ⟨l.toArray⟩ h1 h2 he
  rw [hsz] at hr
  generalize hC : bytesRow ⟨l.toArray⟩ (grownCap w l.length 0 e) = C at hr
  have hp : l.map cellB <+: C.toList := by
    rw [← hC]
    unfold bytesRow
    rw [Array.toList_append]
    refine ⟨_, congrArg (· ++ _) ?_⟩
    simp [cellB]
  have hle : K.le (K.set w.heap.size e (l.map cellB)) := Ghost.le_set_new (hM.none_of_ge (Nat.le_refl _)) _ _
  refine ⟨.slice (some ⟨w.heap.size, 0, none⟩) l.length (grownCap w l.length 0 e), w.drew.alloc (.cells C e (C.size, C.size + 1)), K.set w.heap.size e (l.map cellB), ?_, ?_, ?_, ?_⟩
  · unfold execOp
    simp only [hx]
    simp [hr]
  · refine ⟨_, ⟨_, grownCap w l.length 0 e, rfl, grownCap_ge w l.length 0 e, hw, fun _ _ => trivial, .inr ⟨w.heap.size, e, [], l.map cellB, [], rfl, ?_, bytes_RL l⟩⟩, rfl⟩
    rw [Ghost.set_same]; simp
  · exact (Ext.drew w K).trans ⟨hle, fun b hb _ => heap_old w.drew _ hb, fun b hb _ => Ghost.set_other _ _ _ (by have : b < w.heap.size := hb; omega), by simp, rfl, rfl, rfl⟩
  · intro b t' l' hb
    by_cases hbe : b = w.heap.size
    · subst hbe
      rw [Ghost.set_same] at hb
      cases hb
      exact ⟨C, _, heap_new w.drew _, hp⟩
    · rw [Ghost.set_other _ _ _ hbe] at hb
      exact (hM.drew.alloc _) b t' l' hb
/-- '[]byte' of what is one: the row is marked, and may not be appended to any more -/
theorem freeze_at {bl n : Nat} {c : Array Value} {el : TypeId} {fr : Nat × Nat} (h : w.heap[bl]? = some (.cells c el fr)) : ∃ fr', (w.freeze ⟨bl, n, none⟩ 1).heap[bl]? = some (.cells c el fr') := by
  unfold World.freeze
  rw [if_neg (by decide)]
  obtain ⟨lo, hi⟩ := fr
  simp only [Array.getElem?_modify, if_true, h]
  exact ⟨_, rfl⟩
theorem freeze_other {bl n j : Nat} (h : j ≠ bl) : (w.freeze ⟨bl, n, none⟩ 1).heap[j]? = w.heap[j]? := by
  unfold World.freeze
  rw [if_neg (by decide)]
  simp only [Array.getElem?_modify, if_neg (Ne.symm h)]
theorem S_mark {l : List α} (hM : Models w K) (hx : ev ρ x = v) (hO : Own k e w K l v) {t1 : TypeId} (h1 : P.underlying t1 = some (.slice e)) (he : P.underlying e = some (.int .u8)) (hne : l ≠ []) :
    ∃ w', (execOp (ev ρ) ⟨dst, .convert t1 t1 x, ty, pos, af, g⟩).run P w = .ok (.value v) w' ∧ (Kd.sl k).V K l v ∧ Ext (fun b => ob v = some b) w K w' K ∧ Models w' K := by
  have hV := hO.V
  obtain ⟨hwf, hlm, hO⟩ := hO
  rcases hO with ⟨A, rfl, rfl⟩ | ⟨bl, cap, c, pre, l', rfl, hg, hnc, hcm, hcs, hK, hp, hR⟩
  · exact absurd rfl hne
  · have hpos : 0 < cap := by
      have : l.length ≠ 0 := fun h => hne (List.eq_nil_of_length_eq_zero h)
      omega
    obtain ⟨cap, rfl⟩ : ∃ m, cap = m + 1 := ⟨cap - 1, by omega⟩
    have hsh : w.shape? bl = some (e, c.size) := by
      unfold World.shape?
      rw [hg]
    refine ⟨w.freeze ⟨bl, c.size, none⟩ 1, ?_, hV, ⟨Ghost.le.refl K, fun j hj hx => freeze_other (fun h => hx (by subst h; rfl)), fun _ _ _ => rfl, ?_, rfl, rfl, rfl⟩, ?_⟩
    · unfold execOp
      simp only [hx]
      simp [convert, run_underlying h1, run_underlying he, markStringish, hsh]
    · unfold World.freeze
      rw [if_neg (by decide)]
      simp
    · intro b' t' l1 hb
      obtain ⟨c0, fr, h0, h00⟩ := hM b' t' l1 hb
      by_cases hbe : b' = bl
      · subst hbe
        obtain ⟨fr', hf⟩ := freeze_at (n := c.size) h0
        exact ⟨c0, fr', hf, h00⟩
      · exact ⟨c0, fr, (freeze_other hbe).trans h0, h00⟩
end
end Go.Inc
