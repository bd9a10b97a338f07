/-
  BASE 12: parts of slices and strings; slices made; structs and arrays built; a part of a box.
-/
import Derived.Test.YtfbhiilolpamaaaB11
set_option linter.unusedVariables false
namespace Go.Inc
open Go Go.RowKit

def LowIs (ρ : Env) : Option Operand → Int → Prop
  | none, n => n = 0
  | some x, n => ∃ ik, ev ρ x = .int ik n
def HighIs (ρ : Env) (len : Int) : Option Operand → Int → Prop
  | none, n => n = len
  | some x, n => ∃ ik, ev ρ x = .int ik n
section
variable {P : Program} {α β γ : Type} {k : Kd α} {k' : Kd β} {e t : TypeId} {by_ : Nat} {w : World} {K : Ghost} {ρ : Env}
variable {dst : Option Tmp} {ty : TypeId} {pos : String} {af : Array Edge} {g : Option (Nat × Bool)} {x y z : Operand} {v u : Value} {ik ik' : IntKind} {a b : Int} {p q : Bool}
theorem LowIs.no : LowIs ρ none 0 := rfl
theorem LowIs.yes (h : ev ρ x = .int ik a) : LowIs ρ (some x) a := ⟨ik, h⟩
theorem HighIs.no {n : Int} : HighIs ρ n none n := rfl
theorem HighIs.yes {n : Int} (h : ev ρ x = .int ik a) : HighIs ρ n (some x) a := ⟨ik, h⟩
theorem bound_run {y : Nat} {code : BoundsCode} {i : Int} (h0 : 0 ≤ i) (h1 : i ≤ (y : Int)) : (Instr.sliceBound (.int ik i) y code).run P w = .ok i.toNat w := by
  simp [Instr.sliceBound, asIntOf, h0, h1]
theorem bounds_run {isS : Bool} {n cap : Nat} {lo hi : Option Operand} {a b : Int} (hl : LowIs ρ lo a) (hh : HighIs ρ (n : Int) hi b) (h0 : 0 ≤ a) (h1 : a ≤ b) (h2 : b ≤ (n : Int)) (h3 : n ≤ cap) :
    (Instr.sliceBounds isS n cap (lo.map (ev ρ)) (hi.map (ev ρ)) none).run P w = .ok (a.toNat, b.toNat, cap) w := by
  have hb : ∀ code : BoundsCode, (match hi.map (ev ρ) with | some v => Instr.sliceBound v cap code | none => (pure n : Sem Nat)).run P w = .ok b.toNat w := fun code => by
    cases hi with
    | none => simp only [HighIs] at hh; subst hh; simp
    | some x => obtain ⟨ik, hx⟩ := hh; simp only [Option.map_some, hx]; exact bound_run (by omega) (by omega)
  have hl' : ∀ code : BoundsCode, (match lo.map (ev ρ) with | some v => Instr.sliceBound v b.toNat code | none => (pure 0 : Sem Nat)).run P w = .ok a.toNat w := fun code => by
    cases lo with
    | none => simp only [LowIs] at hl; subst hl; simp
    | some x => obtain ⟨ik, hx⟩ := hl; simp only [Option.map_some, hx]; exact bound_run (by omega) (by omega)
  unfold Instr.sliceBounds
  cases hi with
  | none =>
    cases lo with
    | none =>
      simp only [HighIs, LowIs] at hh hl
      subst hh; subst hl
      simp
    | some y =>
      simp only [HighIs] at hh
      subst hh
      have := hl' .sliceB
      simp only [Option.map_some, Int.toNat_natCast] at this
      simp [this]
  | some x =>
    have hb' := hb (if isS then .sliceAcap else .sliceAlen)
    simp only [Option.map_some] at hb'
    cases lo with
    | none =>
      simp only [LowIs] at hl
      subst hl
      simp [hb']
    | some y =>
      have := hl' .sliceB
      simp only [Option.map_some] at this
      simp [hb', this]
theorem S_slc {l : List α} {lo hi : Option Operand} (hx : ev ρ x = v) (hV : (Kd.sl k).V K l v) {t1 : TypeId} (hu : P.underlying t1 = some (.slice e)) (hT : TyOk P e k by_) (hl : LowIs ρ lo a) (hh : HighIs ρ (l.length : Int) hi b) (h0 : 0 ≤ a) (h1 : a ≤ b) (h2 : b ≤ (l.length : Int)) :
    ∃ v, (∀ w : World, (execOp (ev ρ) ⟨dst, .slice t1 x lo hi none, ty, pos, af, g⟩).run P w = .ok (.value v) w) ∧ (Kd.sl k).V K ((l.take b.toNat).drop a.toNat) v := by
  obtain ⟨A, cap, rfl, hc, hlm, hwf, hS⟩ := sl_form hV
  have hrun : ∀ w : World, _ := fun w => bounds_run (P := P) (w := w) (isS := true) (n := l.length) (cap := cap) hl hh h0 h1 h2 hc
  have hlen : ((l.take b.toNat).drop a.toNat).length = b.toNat - a.toNat := by rw [List.length_drop, List.length_take]; omega
  refine ⟨.slice (if cap = a.toNat then A else A.map (·.add (a.toNat * k.sz))) (b.toNat - a.toNat) (cap - a.toNat), ?_, ?_⟩
  · intro w
    unfold execOp
    simp only [hx]
    simp [Instr.sliceAt, Instr.slice, run_underlying hu, hrun w, hT.size]
  · rw [← hlen]
    refine ⟨_, ⟨_, cap - a.toNat, rfl, by rw [hlen]; omega, by rw [hlen]; omega, fun y hy => hwf y (List.mem_of_mem_take (List.mem_of_mem_drop hy)), ?_⟩, rfl⟩
    by_cases hne : (l.take b.toNat).drop a.toNat = []
    · exact .inl hne
    · have hlt : a.toNat < b.toNat := by
        rcases Nat.lt_or_ge a.toNat b.toNat with h | h
        · exact h
        · exact absurd (List.eq_nil_of_length_eq_zero (by rw [hlen]; omega)) hne
      rw [if_neg (by omega)]
      rcases hS with rfl | ⟨bl, e2, pre, mid, post, rfl, hK, hR⟩
      · simp at hne
      · have hml := RL.len (fun _ _ => k.len) hR
        have h3 := (RL.split (fun _ _ => k.len) a.toNat (RL.split (fun _ _ => k.len) b.toNat hR).1).2
        refine .inr ⟨bl, e2, pre ++ mid.take (a.toNat * k.sz), (mid.take (b.toNat * k.sz)).drop (a.toNat * k.sz), mid.drop (b.toNat * k.sz) ++ post, ?_, ?_, h3⟩
        · have : a.toNat * k.sz ≤ mid.length := by rw [hml]; exact Nat.mul_le_mul_right _ (by omega)
          simp only [Option.map_some, add_lit, List.length_append, List.length_take]
          congr 3
          omega
        · rw [hK]
          congr 2
          have e1 : mid.take (a.toNat * k.sz) ++ (mid.take (b.toNat * k.sz)).drop (a.toNat * k.sz) = mid.take (b.toNat * k.sz) := by
            have h4 : mid.take (a.toNat * k.sz) = (mid.take (b.toNat * k.sz)).take (a.toNat * k.sz) := by
              rw [List.take_take, Nat.min_eq_left (Nat.mul_le_mul_right _ (by omega))]
            rw [h4, List.take_append_drop]
          have e2 : mid = mid.take (a.toNat * k.sz) ++ (mid.take (b.toNat * k.sz)).drop (a.toNat * k.sz) ++ mid.drop (b.toNat * k.sz) := by rw [e1, List.take_append_drop]
          conv => lhs; rw [e2]
          simp only [List.append_assoc]
theorem S_slL {l : List α} {lo : Operand} (hx : ev ρ x = v) (hV : (Kd.sl k).V K l v) {t1 : TypeId} (hu : P.underlying t1 = some (.slice e)) (hT : TyOk P e k by_) (hl : ev ρ lo = .int ik a) (h0 : 0 ≤ a) (h1 : a ≤ (l.length : Int)) :
    ∃ v, (∀ w : World, (execOp (ev ρ) ⟨dst, .slice t1 x (some lo) none none, ty, pos, af, g⟩).run P w = .ok (.value v) w) ∧ (Kd.sl k).V K (l.drop a.toNat) v := by
  have h := S_slc (dst := dst) (ty := ty) (pos := pos) (af := af) (g := g) hx hV hu hT (LowIs.yes hl) HighIs.no h0 h1 (Int.le_refl _)
  simpa using h
theorem S_slH {l : List α} {hi : Operand} (hx : ev ρ x = v) (hV : (Kd.sl k).V K l v) {t1 : TypeId} (hu : P.underlying t1 = some (.slice e)) (hT : TyOk P e k by_) (hh : ev ρ hi = .int ik b) (h0 : 0 ≤ b) (h1 : b ≤ (l.length : Int)) :
    ∃ v, (∀ w : World, (execOp (ev ρ) ⟨dst, .slice t1 x none (some hi) none, ty, pos, af, g⟩).run P w = .ok (.value v) w) ∧ (Kd.sl k).V K (l.take b.toNat) v := by
  have h := S_slc (dst := dst) (ty := ty) (pos := pos) (af := af) (g := g) hx hV hu hT LowIs.no (HighIs.yes hh) (Int.le_refl _) h0 h1
  simpa using h
theorem S_slLH {l : List α} {lo hi : Operand} (hx : ev ρ x = v) (hV : (Kd.sl k).V K l v) {t1 : TypeId} (hu : P.underlying t1 = some (.slice e)) (hT : TyOk P e k by_) (hl : ev ρ lo = .int ik a) (hh : ev ρ hi = .int ik' b) (h0 : 0 ≤ a) (h1 : a ≤ b) (h2 : b ≤ (l.length : Int)) :
    ∃ v, (∀ w : World, (execOp (ev ρ) ⟨dst, .slice t1 x (some lo) (some hi) none, ty, pos, af, g⟩).run P w = .ok (.value v) w) ∧ (Kd.sl k).V K ((l.take b.toNat).drop a.toNat) v := S_slc hx hV hu hT (LowIs.yes hl) (HighIs.yes hh) h0 h1 h2
/-- 's[:0:0]' -/
theorem S_sl00 {l : List α} (hx : ev ρ x = v) (hV : (Kd.sl k).V K l v) {t1 : TypeId} (hu : P.underlying t1 = some (.slice e)) (hT : TyOk P e k by_) :
    ∃ A, ∀ w : World, (execOp (ev ρ) ⟨dst, .slice t1 x none (some (.const (.int ik 0))) (some (.const (.int ik' 0))), ty, pos, af, g⟩).run P w = .ok (.value (.slice A 0 0)) w := by
  obtain ⟨A, cap, rfl, hc, hlm, hwf, hS⟩ := sl_form hV
  refine ⟨A, fun w => ?_⟩
  unfold execOp
  simp only [hx]
  have h1 : ∀ (ik : IntKind) (y : Nat) (c : BoundsCode), (Instr.sliceBound (.int ik 0) y c).run P w = .ok 0 w := fun ik y c => bound_run (by omega) (by omega)
  simp [Instr.sliceAt, Instr.slice, run_underlying hu, ev, Instr.sliceBounds, h1, hT.size]
/-- 's == nil': it may be either -/
theorem S_slnil {l : List α} (hx : ev ρ x = v) (hV : (Kd.sl k).V K l v) (hy : ev ρ y = .slice none 0 0) {t1 t2 : TypeId} (hu : P.underlying t1 = some (.slice e)) :
    ∃ r : Bool, (∀ w : World, (execOp (ev ρ) ⟨dst, .binOp .eql t1 x y t2, ty, pos, af, g⟩).run P w = .ok (.value (.bool r)) w) ∧ (r = true → l = []) := by
  obtain ⟨A, cap, rfl, hc, hlm, hwf, hS⟩ := sl_form hV
  refine ⟨A.isNone, ?_, ?_⟩
  · intro w
    unfold execOp
    simp only [hx, hy]
    have hd : (Op.equal t1 (.slice A l.length cap) (.slice none 0 0)).run P w = .ok A.isNone w := by
      have : ∀ d : Nat, (Op.equalIn (d + 1) t1 (.slice A l.length cap) (.slice none 0 0)).run P w = .ok A.isNone w := fun d => by
        cases A <;> simp [Op.equalIn, run_underlying hu]
      exact this 9999
    cases A <;> simp [binOp, eqGuard, hd]
  · intro hA
    cases A with
    | some _ => cases hA
    | none =>
      rcases hS with h | ⟨_, _, _, _, _, h, _⟩
      · exact h
      · cases h
theorem S_mk {n c : Int} {t1 : TypeId} (hM : Models w K) (hx : ev ρ x = .int ik n) (hy : ev ρ y = .int ik' c) (hu : P.underlying t1 = some (.slice e)) (hT : TyOk P e k by_) (hsz : Nat.blt 0 k.sz = true) (h0 : 0 ≤ n) (h1 : n ≤ c) (h2 : (by_ : Int) * c ≤ 281474976710656) (h3 : c ≤ 281474976710656) :
    ∃ v w' K', (execOp (ev ρ) ⟨dst, .makeSlice t1 x y, ty, pos, af, g⟩).run P w = .ok (.value v) w' ∧ Own k e w' K' (List.replicate n.toNat k.z) v ∧ Ext NX w K w' K' ∧ Models w' K' ∧ (∀ g, ob v = some g → w.heap.size ≤ g) := by
  obtain ⟨i, z, hi, hsi, hz, hzc, hbi, -⟩ := hT.info
  have hr := run_make (P := P) w t1 e i z hu hi hz ik ik' n c h0 h1 (by rw [hbi]; exact h2) (by omega)
  rw [hsi] at hr
  have hzl : z.cells.size = k.sz := by
    have := k.len (k.hz K)
    rw [← hzc] at this
    simpa using this
  have hrow : ∀ m, (madeCells z.cells (m * k.sz)).toList = (List.replicate m k.zc).flatten := fun m => by
    apply List.ext_getElem?
    intro j
    have hzl' : k.zc.length = k.sz := k.len (k.hz K)
    have hpos : 0 < k.sz := Nat.le_of_ble_eq_true hsz
    rcases Nat.lt_or_ge j (m * k.sz) with hj | hj
    · have hmod : j % k.sz < k.sz := Nat.mod_lt _ hpos
      have e2 : ∀ (m j : Nat), j < m * k.sz → ((List.replicate m k.zc).flatten)[j]? = k.zc[j % k.sz]? := by
        intro m
        induction m with
        | zero => intro j hj; simp at hj
        | succ m ih =>
          intro j hj
          rw [List.replicate_succ, List.flatten_cons]
          rcases Nat.lt_or_ge j k.sz with h | h
          · rw [List.getElem?_append_left (by omega), Nat.mod_eq_of_lt h]
          · rw [List.getElem?_append_right (by omega), hzl', ih _ (by rw [Nat.add_mul, Nat.one_mul] at hj; omega), Nat.mod_eq_sub_mod h]
      rw [e2 m j hj]
      unfold madeCells
      have hz2 : z.cells[j % k.sz]? = k.zc[j % k.sz]? := by rw [← hzc]; simp
      simp [hj, hzl]
      rw [← hz2]
      rw [getElem!_pos z.cells _ (by rw [hzl]; exact hmod)]
      simp [hzl, hmod]
    · rw [List.getElem?_eq_none (by simp [madeCells]; exact hj), List.getElem?_eq_none]
      have : ((List.replicate m k.zc).flatten).length = m * k.sz := by simp [hzl']
      omega
  have hR := RL.replicate (R := k.R K) (k.hz K) n.toNat
  obtain ⟨K', h1', h2', h3'⟩ := own_new (w := w) (K := K) (k := k) (e := e) (x := List.replicate n.toNat k.z) (l := (List.replicate n.toNat k.zc).flatten) (c := madeCells z.cells (c.toNat * k.sz)) (cap := c.toNat) hM (Nat.le_of_ble_eq_true hsz) hR (fun y hy => by rw [List.eq_of_mem_replicate hy]; exact k.hwf (k.hz K)) (by simp; unfold LM; omega) (by simp; omega) (by unfold maxLen; omega) (by simp [madeCells]) (by
    rw [hrow]
    refine ⟨(List.replicate (c.toNat - n.toNat) k.zc).flatten, ?_⟩
    rw [← List.flatten_append, List.replicate_append_replicate]
    congr 2
    omega)
  rw [List.length_replicate] at h1'
  refine ⟨_, _, K', ?_, h1', h2', h3', ?_⟩
  · unfold execOp
    simp only [hx, hy]
    simp [hr]
  · intro g hg
    cases hc : c.toNat with
    | zero => rw [hc] at hg; simp [ob] at hg
    | succ m => rw [hc] at hg; simp [ob] at hg; omega
/-- a part of a string -/
theorem R_slT {s : List UInt8} {lo hi : Option Operand} (hx : ev ρ x = .string ⟨s.toArray⟩) {t1 : TypeId} (hu : P.underlying t1 = some .string) (hl : LowIs ρ lo a) (hh : HighIs ρ (s.length : Int) hi b) (h0 : 0 ≤ a) (h1 : a ≤ b) (h2 : b ≤ (s.length : Int)) :
    (execOp (ev ρ) ⟨dst, .slice t1 x lo hi none, ty, pos, af, g⟩).run P w = .ok (.value (.string ⟨((s.take b.toNat).drop a.toNat).toArray⟩)) w := by
  have hsz : (⟨s.toArray⟩ : ByteArray).size = s.length := by simp [ByteArray.size]
  have hrun := bounds_run (P := P) (w := w) (isS := false) (n := s.length) (cap := s.length) hl hh h0 h1 h2 (Nat.le_refl _)
  unfold execOp
  simp only [hx]
  simp [Instr.sliceAt, Instr.slice, run_underlying hu, hsz, hrun]
  apply ByteArray.ext
  rw [ByteArray.data_extract]
  simp [List.drop_take]
end
end Go.Inc
