/-
  BASE 6: the operations, one lemma each. R_..: what only reckons. S_..: what reads or makes memory.
-/
import Derived.Test.YtfbhiilolpamaaaB5
set_option linter.unusedVariables false
namespace Go.Inc
open Go Go.RowKit

def band (k : IntKind) (a b : Int) : Int := k.wrap ((BitVec.ofInt k.bits a &&& BitVec.ofInt k.bits b).toNat : Int)
def bor (k : IntKind) (a b : Int) : Int := k.wrap ((BitVec.ofInt k.bits a ||| BitVec.ofInt k.bits b).toNat : Int)
def bxor (k : IntKind) (a b : Int) : Int := k.wrap ((BitVec.ofInt k.bits a ^^^ BitVec.ofInt k.bits b).toNat : Int)
def shl (k : IntKind) (a b : Int) : Int := k.wrap (a * 2 ^ (min b.toNat k.bits))
def shr (k : IntKind) (a b : Int) : Int := a.fdiv (2 ^ (min b.toNat k.bits))

section
variable {P : Program} {α β : Type} {k : Kd α} {k' : Kd β} {e t : TypeId} {by_ : Nat} {w : World} {K : Ghost} {ρ : Env}
variable {dst : Option Tmp} {ty : TypeId} {pos : String} {af : Array Edge} {g : Option (Nat × Bool)} {x y z : Operand} {v u : Value} {ik ik' : IntKind} {a b : Int} {p q : Bool}
theorem eq_bool (t : TypeId) (h : P.underlying t = some .bool) : (Op.equal t (.bool p) (.bool q)).run P w = .ok (p == q) w := by
  have hd : ∀ d : Nat, (Op.equalIn (d + 1) t (.bool p) (.bool q)).run P w = .ok (p == q) w := fun d => by simp [Op.equalIn, run_underlying h]
  exact hd 9999
theorem eq_ptr0 (t t3 : TypeId) (h : P.underlying t = some (.pointer t3)) : (Op.equal t (.pointer none) (.pointer none)).run P w = .ok true w := by
  have hd : ∀ d : Nat, (Op.equalIn (d + 1) t (.pointer none) (.pointer none)).run P w = .ok true w := fun d => by simp [Op.equalIn, run_underlying h]
  exact hd 9999
theorem eq_ptr1 (t t3 : TypeId) (ad : Addr) (h : P.underlying t = some (.pointer t3)) : (Op.equal t (.pointer (some ad)) (.pointer none)).run P w = .ok false w := by
  have hd : ∀ d : Nat, (Op.equalIn (d + 1) t (.pointer (some ad)) (.pointer none)).run P w = .ok false w := fun d => by simp [Op.equalIn, run_underlying h]
  exact hd 9999
theorem R_mv (hx : ev ρ x = v) : (execOp (ev ρ) ⟨dst, .move x, ty, pos, af, g⟩).run P w = .ok (.value v) w := by subst hx; rfl
theorem R_as (hx : ev ρ x = v) : (execOp (ev ρ) ⟨dst, .assign x, ty, pos, af, g⟩).run P w = .ok (.value v) w := by subst hx; rfl
theorem R_pick (hz : ev ρ z = .bool p) (hx : ev ρ x = .bool q) (hy : ev ρ y = v) {r : Bool} (hv : v = .bool r) : (execOp (ev ρ) ⟨dst, .pick z x y, ty, pos, af, g⟩).run P w = .ok (.value (.bool (if p then q else r))) w := by
  subst hv
  unfold execOp
  simp only [hz, hx, hy]
  cases p <;> rfl
theorem R_add (hx : ev ρ x = .int ik a) (hy : ev ρ y = .int ik b) {t1 t2 : TypeId} : (execOp (ev ρ) ⟨dst, .binOp .add t1 x y t2, ty, pos, af, g⟩).run P w = .ok (.value (.int ik (ik.wrap (a + b)))) w := by
  unfold execOp; simp only [hx, hy]; simp [binOp, eqGuard, Op.intArith]
theorem R_sub (hx : ev ρ x = .int ik a) (hy : ev ρ y = .int ik b) {t1 t2 : TypeId} : (execOp (ev ρ) ⟨dst, .binOp .sub t1 x y t2, ty, pos, af, g⟩).run P w = .ok (.value (.int ik (ik.wrap (a - b)))) w := by
  unfold execOp; simp only [hx, hy]; simp [binOp, eqGuard, Op.intArith]
theorem R_mul (hx : ev ρ x = .int ik a) (hy : ev ρ y = .int ik b) {t1 t2 : TypeId} : (execOp (ev ρ) ⟨dst, .binOp .mul t1 x y t2, ty, pos, af, g⟩).run P w = .ok (.value (.int ik (ik.wrap (a * b)))) w := by
  unfold execOp; simp only [hx, hy]; simp [binOp, eqGuard, Op.intArith]
theorem R_quo (hx : ev ρ x = .int ik a) (hy : ev ρ y = .int ik b) (hb : b ≠ 0) {t1 t2 : TypeId} : (execOp (ev ρ) ⟨dst, .binOp .quo t1 x y t2, ty, pos, af, g⟩).run P w = .ok (.value (.int ik (ik.wrap (a.tdiv b)))) w := by
  unfold execOp; simp only [hx, hy]; simp [binOp, eqGuard, Op.intDiv, hb]
theorem R_rem (hx : ev ρ x = .int ik a) (hy : ev ρ y = .int ik b) (hb : b ≠ 0) {t1 t2 : TypeId} : (execOp (ev ρ) ⟨dst, .binOp .rem t1 x y t2, ty, pos, af, g⟩).run P w = .ok (.value (.int ik (a.tmod b))) w := by
  unfold execOp; simp only [hx, hy]; simp [binOp, eqGuard, Op.intDiv, hb]
theorem R_lss (hx : ev ρ x = .int ik a) (hy : ev ρ y = .int ik b) {t1 t2 : TypeId} : (execOp (ev ρ) ⟨dst, .binOp .lss t1 x y t2, ty, pos, af, g⟩).run P w = .ok (.value (.bool (decide (a < b)))) w := by
  unfold execOp; simp only [hx, hy]; simp [binOp, eqGuard, Op.intCmp]
theorem R_leq (hx : ev ρ x = .int ik a) (hy : ev ρ y = .int ik b) {t1 t2 : TypeId} : (execOp (ev ρ) ⟨dst, .binOp .leq t1 x y t2, ty, pos, af, g⟩).run P w = .ok (.value (.bool (decide (a ≤ b)))) w := by
  unfold execOp; simp only [hx, hy]; simp [binOp, eqGuard, Op.intCmp]
theorem R_gtr (hx : ev ρ x = .int ik a) (hy : ev ρ y = .int ik b) {t1 t2 : TypeId} : (execOp (ev ρ) ⟨dst, .binOp .gtr t1 x y t2, ty, pos, af, g⟩).run P w = .ok (.value (.bool (decide (b < a)))) w := by
  unfold execOp; simp only [hx, hy]; simp [binOp, eqGuard, Op.intCmp]
theorem R_geq (hx : ev ρ x = .int ik a) (hy : ev ρ y = .int ik b) {t1 t2 : TypeId} : (execOp (ev ρ) ⟨dst, .binOp .geq t1 x y t2, ty, pos, af, g⟩).run P w = .ok (.value (.bool (decide (b ≤ a)))) w := by
  unfold execOp; simp only [hx, hy]; simp [binOp, eqGuard, Op.intCmp]
theorem R_eql (hx : ev ρ x = .int ik a) (hy : ev ρ y = .int ik b) {t1 t2 : TypeId} : (execOp (ev ρ) ⟨dst, .binOp .eql t1 x y t2, ty, pos, af, g⟩).run P w = .ok (.value (.bool (decide (a = b)))) w := by
  unfold execOp; simp only [hx, hy]; simp [binOp, eqGuard, Op.intCmp]; exact (Bool.beq_eq_decide_eq a b)
theorem R_neq (hx : ev ρ x = .int ik a) (hy : ev ρ y = .int ik b) {t1 t2 : TypeId} : (execOp (ev ρ) ⟨dst, .binOp .neq t1 x y t2, ty, pos, af, g⟩).run P w = .ok (.value (.bool (decide (a ≠ b)))) w := by
  unfold execOp; simp only [hx, hy]; simp [binOp, eqGuard, Op.intCmp]; rw [bne, Bool.beq_eq_decide_eq]
theorem R_and (hx : ev ρ x = .int ik a) (hy : ev ρ y = .int ik b) {t1 t2 : TypeId} : (execOp (ev ρ) ⟨dst, .binOp .and t1 x y t2, ty, pos, af, g⟩).run P w = .ok (.value (.int ik (band ik a b))) w := by
  unfold execOp; simp only [hx, hy]; simp [binOp, eqGuard, Op.intBits, band]
theorem R_or (hx : ev ρ x = .int ik a) (hy : ev ρ y = .int ik b) {t1 t2 : TypeId} : (execOp (ev ρ) ⟨dst, .binOp .or t1 x y t2, ty, pos, af, g⟩).run P w = .ok (.value (.int ik (bor ik a b))) w := by
  unfold execOp; simp only [hx, hy]; simp [binOp, eqGuard, Op.intBits, bor]
theorem R_xor (hx : ev ρ x = .int ik a) (hy : ev ρ y = .int ik b) {t1 t2 : TypeId} : (execOp (ev ρ) ⟨dst, .binOp .xor t1 x y t2, ty, pos, af, g⟩).run P w = .ok (.value (.int ik (bxor ik a b))) w := by
  unfold execOp; simp only [hx, hy]; simp [binOp, eqGuard, Op.intBits, bxor]
theorem R_shl (hx : ev ρ x = .int ik a) (hy : ev ρ y = .int ik' b) (hb : 0 ≤ b) {t1 t2 : TypeId} : (execOp (ev ρ) ⟨dst, .binOp .shl t1 x y t2, ty, pos, af, g⟩).run P w = .ok (.value (.int ik (shl ik a b))) w := by
  unfold execOp; simp only [hx, hy]; simp [binOp, eqGuard, Op.shift, shl, show ¬ b < 0 from by omega]
theorem R_shr (hx : ev ρ x = .int ik a) (hy : ev ρ y = .int ik' b) (hb : 0 ≤ b) {t1 t2 : TypeId} : (execOp (ev ρ) ⟨dst, .binOp .shr t1 x y t2, ty, pos, af, g⟩).run P w = .ok (.value (.int ik (shr ik a b))) w := by
  unfold execOp; simp only [hx, hy]; simp [binOp, eqGuard, Op.shift, shr, show ¬ b < 0 from by omega]
theorem R_eqb (hx : ev ρ x = .bool p) (hy : ev ρ y = .bool q) {t1 t2 : TypeId} (ht : P.underlying t1 = some .bool) : (execOp (ev ρ) ⟨dst, .binOp .eql t1 x y t2, ty, pos, af, g⟩).run P w = .ok (.value (.bool (decide (p = q)))) w := by
  unfold execOp; simp only [hx, hy]; simp [binOp, eqGuard, eq_bool _ ht]; cases p <;> cases q <;> rfl
theorem R_neb (hx : ev ρ x = .bool p) (hy : ev ρ y = .bool q) {t1 t2 : TypeId} (ht : P.underlying t1 = some .bool) : (execOp (ev ρ) ⟨dst, .binOp .neq t1 x y t2, ty, pos, af, g⟩).run P w = .ok (.value (.bool (decide (p ≠ q)))) w := by
  unfold execOp; simp only [hx, hy]; simp [binOp, eqGuard, eq_bool _ ht]; cases p <;> cases q <;> rfl
theorem R_not (hx : ev ρ x = .bool p) {t1 : TypeId} : (execOp (ev ρ) ⟨dst, .unOp .not t1 x, ty, pos, af, g⟩).run P w = .ok (.value (.bool (!p))) w := by
  unfold execOp; simp only [hx]; simp [Op.unary]
theorem R_neg (hx : ev ρ x = .int ik a) {t1 : TypeId} : (execOp (ev ρ) ⟨dst, .unOp .neg t1 x, ty, pos, af, g⟩).run P w = .ok (.value (.int ik (ik.wrap (0 - a)))) w := by
  unfold execOp; simp only [hx]; simp [Op.unary, Op.intArith]
theorem R_com (hx : ev ρ x = .int ik a) {t1 : TypeId} : (execOp (ev ρ) ⟨dst, .unOp .xor t1 x, ty, pos, af, g⟩).run P w = .ok (.value (.int ik (bxor ik (if ik.signed then -1 else ik.max) a))) w := by
  unfold execOp; simp only [hx]; simp [Op.unary, Op.intBits, bxor]
theorem R_cvi (hx : ev ρ x = .int ik' a) {t1 t2 : TypeId} {d1 : TypeDesc} (h1 : P.underlying t1 = some d1) (h2 : P.underlying t2 = some (.int ik)) : (execOp (ev ρ) ⟨dst, .convert t1 t2 x, ty, pos, af, g⟩).run P w = .ok (.value (.int ik (ik.wrap a))) w := by
  unfold execOp; simp only [hx]; simp [convert, run_underlying h1, run_underlying h2, Conv.intToInt]
theorem R_nilck {ad : Addr} (hx : ev ρ x = .pointer (some ad)) : (execOp (ev ρ) ⟨dst, .nilCheck x, ty, pos, af, g⟩).run P w = .ok (.value (.pointer (some ad))) w := by
  unfold execOp; simp only [hx]; rfl
theorem R_peq {ad : Addr} (hx : ev ρ x = .pointer (some ad)) (hy : ev ρ y = .pointer none) {t1 t2 t3 : TypeId} (ht : P.underlying t1 = some (.pointer t3)) : (execOp (ev ρ) ⟨dst, .binOp .eql t1 x y t2, ty, pos, af, g⟩).run P w = .ok (.value (.bool false)) w := by
  unfold execOp; simp only [hx, hy]; simp [binOp, eqGuard, eq_ptr1 _ _ _ ht]
theorem R_pne {ad : Addr} (hx : ev ρ x = .pointer (some ad)) (hy : ev ρ y = .pointer none) {t1 t2 t3 : TypeId} (ht : P.underlying t1 = some (.pointer t3)) : (execOp (ev ρ) ⟨dst, .binOp .neq t1 x y t2, ty, pos, af, g⟩).run P w = .ok (.value (.bool true)) w := by
  unfold execOp; simp only [hx, hy]; simp [binOp, eqGuard, eq_ptr1 _ _ _ ht]
theorem R_peq0 (hx : ev ρ x = .pointer none) (hy : ev ρ y = .pointer none) {t1 t2 t3 : TypeId} (ht : P.underlying t1 = some (.pointer t3)) : (execOp (ev ρ) ⟨dst, .binOp .eql t1 x y t2, ty, pos, af, g⟩).run P w = .ok (.value (.bool true)) w := by
  unfold execOp; simp only [hx, hy]; simp [binOp, eqGuard, eq_ptr0 _ _ ht]
theorem R_pne0 (hx : ev ρ x = .pointer none) (hy : ev ρ y = .pointer none) {t1 t2 t3 : TypeId} (ht : P.underlying t1 = some (.pointer t3)) : (execOp (ev ρ) ⟨dst, .binOp .neq t1 x y t2, ty, pos, af, g⟩).run P w = .ok (.value (.bool false)) w := by
  unfold execOp; simp only [hx, hy]; simp [binOp, eqGuard, eq_ptr0 _ _ ht]
theorem R_ext {vs : Array Value} {i : Nat} (hx : ev ρ x = .tuple vs) (hi : vs[i]? = some v) : (execOp (ev ρ) ⟨dst, .extract x i, ty, pos, af, g⟩).run P w = .ok (.value v) w := by
  unfold execOp; simp only [hx]; simp [Instr.extract, hi]
theorem R_fn {fn : Fn} {fs cs : Array Operand} {vs us : Array Value} (h1 : fs.map (ev ρ) = vs) (h2 : cs.map (ev ρ) = us) : (execOp (ev ρ) ⟨dst, .makeFunc fn fs cs, ty, pos, af, g⟩).run P w = .ok (.value (.func fn vs us)) w := by
  unfold execOp; simp only [h1, h2]; rfl
/-- a field's address -/
theorem R_fa {bl o : Nat} {fs : Array Field} {fd : Field} {f off : Nat} {t1 : TypeId} (hx : ev ρ x = .pointer (some ⟨bl, o, none⟩)) (hu : P.underlying t1 = some (.struct fs)) (hf : fs[f]? = some fd) (ho : fd.offset = off) (hT : TyOk P fd.type k by_) (hsz : (Nat.beq k.sz 0) = false) :
    (execOp (ev ρ) ⟨dst, .fieldAddr t1 x f, ty, pos, af, g⟩).run P w = .ok (.value (.pointer (some ⟨bl, o + off, none⟩))) w := by
  unfold execOp
  have h0 : k.sz ≠ 0 := fun h => by rw [h] at hsz; cases hsz
  simp only [hx]
  simp [Instr.fieldAt, run_underlying hu, hf, Instr.sureAddr, fieldPlace, hT.size, h0, ho, add_lit]
/-- an array's element's address -/
theorem R_ixa {bl o n : Nat} {i : Int} {t1 te : TypeId} (hx : ev ρ x = .pointer (some ⟨bl, o, none⟩)) (hy : ev ρ y = .int ik i) (hu : P.underlying t1 = some (.array n te)) (hT : TyOk P te k by_) (h0 : 0 ≤ i) (h1 : i < n) :
    (execOp (ev ρ) ⟨dst, .indexAddr t1 x y, ty, pos, af, g⟩).run P w = .ok (.value (.pointer (some ⟨bl, o + i.toNat * k.sz, none⟩))) w := by
  unfold execOp
  simp only [hx, hy]
  simp [Instr.indexAt, asIntOf, run_underlying hu, Instr.sureAddr, hT.size, h0, h1, add_lit]

/-! ### slices -/
theorem R_len {l : List α} (hx : ev ρ x = v) (hV : (Kd.sl k).V K l v) {t1 te : TypeId} (hu : P.underlying t1 = some (.slice te)) :
    (execOp (ev ρ) ⟨dst, .call { callee := .builtin .len, args := #[x], argTypes := #[t1] }, ty, pos, af, g⟩).run P w = .ok (.value (.int .i64 (l.length : Int))) w := by
  obtain ⟨A, cap, rfl, _⟩ := sl_form hV
  unfold execOp
  simp [resolve, invoke, builtin, hx, Builtin.len_, run_underlying hu, goInt]
theorem R_lens {s : List UInt8} (hx : ev ρ x = .string ⟨s.toArray⟩) {t1 : TypeId} (hu : P.underlying t1 = some .string) :
    (execOp (ev ρ) ⟨dst, .call { callee := .builtin .len, args := #[x], argTypes := #[t1] }, ty, pos, af, g⟩).run P w = .ok (.value (.int .i64 (s.length : Int))) w := by
  unfold execOp
  simp [resolve, invoke, builtin, hx, Builtin.len_, run_underlying hu, goInt]
  rfl
theorem R_lena {n : Nat} {t1 te : TypeId} (hx : ev ρ x = v) (hu : P.underlying t1 = some (.array n te)) :
    (execOp (ev ρ) ⟨dst, .call { callee := .builtin .len, args := #[x], argTypes := #[t1] }, ty, pos, af, g⟩).run P w = .ok (.value (.int .i64 (n : Int))) w := by
  unfold execOp
  simp [resolve, invoke, builtin, Builtin.len_, run_underlying hu, goInt]
/-- a slice's element's address -/
theorem S_ixs [Inhabited α] {l : List α} {i : Int} {t1 : TypeId} (hx : ev ρ x = v) (hV : (Kd.sl k).V K l v) (hy : ev ρ y = .int ik i) (hu : P.underlying t1 = some (.slice e)) (hT : TyOk P e k by_) (h0 : 0 ≤ i) (h1 : i < (l.length : Int)) :
    ∃ bl o, (∀ w : World, (execOp (ev ρ) ⟨dst, .indexAddr t1 x y, ty, pos, af, g⟩).run P w = .ok (.value (.pointer (some ⟨bl, o, none⟩))) w) ∧ k.Pt K (ix l i) (.pointer (some ⟨bl, o, none⟩)) := by
  obtain ⟨A, cap, rfl, hc, hlm, hwf, hS⟩ := sl_form hV
  rcases hS with rfl | ⟨b, e2, pre, mid, post, rfl, hK, hR⟩
  · simp at h1; omega
  · have hi : i.toNat < l.length := by omega
    have hlen := RL.len (fun _ _ => k.len) hR
    have hge : (i.toNat + 1) * k.sz ≤ mid.length := by rw [hlen]; exact Nat.mul_le_mul_right _ hi
    have hadd : (i.toNat + 1) * k.sz = i.toNat * k.sz + k.sz := by rw [Nat.add_mul, Nat.one_mul]
    refine ⟨b, pre.length + i.toNat * k.sz, ?_, b, e2, pre ++ mid.take (i.toNat * k.sz), (mid.drop (i.toNat * k.sz)).take k.sz, mid.drop ((i.toNat + 1) * k.sz) ++ post, ?_, ?_, ?_⟩
    · intro w
      unfold execOp
      simp only [hx, hy]
      simp [Instr.indexAt, asIntOf, run_underlying hu, hT.size, h0, h1, add_lit]
    · rw [List.length_append, List.length_take, Nat.min_eq_left (by omega)]
    · rw [hK, hadd]
      congr 2
      rw [← List.drop_drop]
      simp only [List.append_assoc]
      rw [← List.append_assoc (List.take k.sz _), List.take_append_drop, ← List.append_assoc (List.take _ mid), List.take_append_drop]
    · rw [ix_of_lt hi]; exact RL.get (fun _ _ => k.len) hR _ hi
/-- load through a pointer to what is known -/
theorem S_ld {X : α} {ad : Addr} {Z : Nat → Prop} (hx : ev ρ x = .pointer (some ad)) (hT : TyOk P t k by_) (h : k.Pt K X (.pointer (some ad))) :
    ∃ v, (∀ w' K', Ext Z w K w' K' → Models w' K' → (execOp (ev ρ) ⟨dst, .load t x, ty, pos, af, g⟩).run P w' = .ok (.value v) w') ∧ k.V K X v := by
  obtain ⟨v, hr, hV⟩ := h.loadH hT
  refine ⟨v, fun w' K' hE hM => ?_, hV⟩
  unfold execOp
  simp only [hx]
  simp [Instr.loadAt, Instr.sureAddr, hr w' K' hE.le hM]
/-- load out of a box -/
theorem S_ldB {X : α} {off o bl : Nat} {gg : α → β} {ss : α → β → α} {Z : Nat → Prop} (F : Foc k k' off gg ss) {pre post : List Value} (hx : ev ρ x = .pointer (some ⟨bl, o, none⟩)) (hT : TyOk P t k' by_) (h : Bx k w K bl pre post X) (ho : o = pre.length + off) (hZ : ¬ Z bl) :
    ∃ v, (∀ w' K', Ext Z w K w' K' → Models w' K' → (execOp (ev ρ) ⟨dst, .load t x, ty, pos, af, g⟩).run P w' = .ok (.value v) w') ∧ k'.V K (gg X) v := by
  obtain ⟨v, hr, hV⟩ := h.loadH hT F
  refine ⟨v, fun w' K' hE hM => ?_, hV⟩
  subst ho
  unfold execOp
  simp only [hx]
  simp [Instr.loadAt, Instr.sureAddr, hr w' K' hE.le (hE.heap _ h.lt hZ)]
theorem S_stB {X : α} {Y : β} {off o bl : Nat} {gg : α → β} {ss : α → β → α} (F : Foc k k' off gg ss) {pre post : List Value} (hM : Models w K) (hx : ev ρ x = .pointer (some ⟨bl, o, none⟩)) (hy : ev ρ y = v) (hV : k'.V K Y v) (hT : TyOk P t k' by_) (h : Bx k w K bl pre post X) (ho : o = pre.length + off) :
    ∃ w', (execOp (ev ρ) ⟨dst, .store t x y, ty, pos, af, g⟩).run P w = .ok .skip w' ∧ Bx k w' K bl pre post (ss X Y) ∧ Ext (· = bl) w K w' K ∧ Models w' K := by
  obtain ⟨w', hr, hB, hE, hM'⟩ := h.store hT hM F hV
  refine ⟨w', ?_, hB, hE, hM'⟩
  subst ho
  unfold execOp
  simp only [hx, hy]
  simp [Instr.storeAt, Instr.sureAddr, hr]
theorem S_box {X : α} (hM : Models w K) (hx : ev ρ x = v) (hV : k.V K X v) :
    ∃ bl w', (execOp (ev ρ) ⟨dst, .box t x, ty, pos, af, g⟩).run P w = .ok (.value (.pointer (some ⟨bl, 0, none⟩))) w' ∧ Bx k w' K bl [] [] X ∧ Ext NX w K w' K ∧ Models w' K ∧ w.heap.size ≤ bl := by
  refine ⟨w.heap.size, w.alloc (.cells v.cells.toList.toArray t), ?_, Bx.new hM t hV.cells, Ext.alloc _ _ _, hM.alloc _, Nat.le_refl _⟩
  unfold execOp
  simp only [hx]
  simp [Instr.box, newVar, newRow]
theorem S_alloc (hM : Models w K) (hT : TyOk P t k by_) :
    ∃ bl w', (execOp (ev ρ) ⟨dst, .alloc t, ty, pos, af, g⟩).run P w = .ok (.value (.pointer (some ⟨bl, 0, none⟩))) w' ∧ Bx k w' K bl [] [] k.z ∧ Ext NX w K w' K ∧ Models w' K ∧ w.heap.size ≤ bl := by
  obtain ⟨z, hz, hV⟩ := hT.zero (K := K)
  refine ⟨w.heap.size, w.alloc (.cells z.cells.toList.toArray t), ?_, Bx.new hM t hV.cells, Ext.alloc _ _ _, hM.alloc _, Nat.le_refl _⟩
  unfold execOp
  simp [Instr.alloc, hz, newVar, newRow]
theorem part_run (hT : TyOk P t k' by_) {c : Array Value} {off : Nat} {Y : β} {pre mid post : List Value} (hc : c.toList = pre ++ mid ++ post) (ho : pre.length = off) (hR : k'.R K Y mid) : ∃ v, (∀ w : World, (part t c off).run P w = .ok v w) ∧ k'.V K Y v := by
  have hl := k'.len hR
  cases ha : k'.agg with
  | true =>
    refine ⟨.agg mid.toArray, fun w => ?_, Kd.V.mk hR ha⟩
    have : c.extract off (off + k'.sz) = mid.toArray := by
      apply Array.ext'
      rw [Array.toList_extract, hc, List.extract_eq_take_drop, ← ho]
      simp only [List.append_assoc, List.drop_left, Nat.add_sub_cancel_left]
      rw [← hl, List.take_left]
    simp [part, hT.isAgg, hT.size, ha, this]
  | false =>
    rw [k'.hs ha] at hl
    obtain ⟨u, rfl⟩ := List.length_eq_one_iff.1 hl
    refine ⟨u, fun w => ?_, Kd.V.mk1 hR ha⟩
    have : c[off]? = some u := by
      rw [← Array.getElem?_toList, hc, ← ho]
      simp
    simp [part, hT.isAgg, ha, this]
theorem agg_form {X : α} (hV : k.V K X v) (ha : k.agg = true) : ∃ c, v = .agg c ∧ k.R K X c.toList := by
  obtain ⟨cs, h, rfl⟩ := hV
  simp only [ha, if_true]
  exact ⟨_, rfl, by simpa using h⟩
/-- a struct value's field -/
theorem S_fld {X : α} {off : Nat} {gg : α → β} {ss : α → β → α} (F : Foc k k' off gg ss) {fs : Array Field} {fd : Field} {f : Nat} {t1 : TypeId} (hx : ev ρ x = v) (hV : k.V K X v) (ha : k.agg = true) (hu : P.underlying t1 = some (.struct fs)) (hf : fs[f]? = some fd) (ho : fd.offset = off) (hT : TyOk P fd.type k' by_) :
    ∃ u, (∀ w : World, (execOp (ev ρ) ⟨dst, .field t1 x f, ty, pos, af, g⟩).run P w = .ok (.value u) w) ∧ k'.V K (gg X) u := by
  obtain ⟨c, rfl, hR⟩ := agg_form hV ha
  obtain ⟨pre, mid, post, hc, hl, hR', _⟩ := F.foc hR
  obtain ⟨u, hr, hu'⟩ := part_run (P := P) hT hc hl hR'
  refine ⟨u, fun w => ?_, hu'⟩
  unfold execOp
  simp only [hx]
  simp [Instr.field, run_underlying hu, hf, asAgg, ho, hr]
/-- an array value's element -/
theorem S_ixv [Inhabited α] {l : List α} {n : Nat} {i : Int} {t1 te : TypeId} (hx : ev ρ x = v) (hV : (Kd.arr n k).V K l v) (hy : ev ρ y = .int ik i) (hu : P.underlying t1 = some (.array n te)) (hT : TyOk P te k by_) (h0 : 0 ≤ i) (h1 : i < (n : Int)) :
    ∃ u, (∀ w : World, (execOp (ev ρ) ⟨dst, .index t1 x y, ty, pos, af, g⟩).run P w = .ok (.value u) w) ∧ k.V K (ix l i) u := by
  obtain ⟨c, rfl, hR⟩ := agg_form hV rfl
  obtain ⟨pre, mid, post, hc, hl, hR', _⟩ := (Foc.arr n k i h0 h1).foc hR
  obtain ⟨u, hr, hu'⟩ := part_run (P := P) hT hc hl hR'
  refine ⟨u, fun w => ?_, hu'⟩
  unfold execOp
  simp only [hx, hy]
  simp [Instr.index, asIntOf, run_underlying hu, h0, h1, hT.size, hr]
theorem S_app {X Y : List α} {t1 : TypeId} (hM : Models w K) (hx : ev ρ x = v) (hO : Own k e w K X v) (hy : ev ρ y = u) (hV : (Kd.sl k).V K Y u) (ht : P.underlying t1 = some (.slice e)) (hT : TyOk P e k by_) (hsz : (Nat.blt 0 k.sz && Nat.blt 0 by_) = true) (hlen : (X.length + Y.length) * by_ ≤ 140737488355328) :
    ∃ v' w' K', (execOp (ev ρ) ⟨dst, .call { callee := .builtin .append, args := #[x, y], argTypes := #[t1, t1] }, ty, pos, af, g⟩).run P w = .ok (.value v') w' ∧ Own k e w' K' (X ++ Y) v' ∧ Ext (fun b => ob v = some b) w K w' K' ∧ Models w' K' ∧ (ob v' = ob v ∨ ob v' = some w.heap.size) := by
  simp only [Bool.and_eq_true] at hsz
  obtain ⟨v', w', K', hr, h1, h2, h3, h4⟩ := append_own (ty := ty) ht hT (Nat.le_of_ble_eq_true hsz.1) hM hO hV hlen (Nat.le_of_ble_eq_true hsz.2)
  refine ⟨v', w', K', ?_, h1, h2, h3, h4⟩
  unfold execOp
  simp [resolve, invoke, builtin, hx, hy, hr]
end
end Go.Inc
