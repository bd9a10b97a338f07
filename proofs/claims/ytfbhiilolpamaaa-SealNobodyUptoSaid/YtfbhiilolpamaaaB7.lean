/-
  BASE 7: what the walks' texts lean on: results, calls, small facts on whole numbers.
-/
import Derived.Test.YtfbhiilolpamaaaB6
set_option linter.unusedVariables false
namespace Go.Inc
open Go Go.RowKit

section
variable {P : Program} {α β γ : Type} {k : Kd α} {k' : Kd β} {k'' : Kd γ} {e t : TypeId} {by_ : Nat} {w : World} {K : Ghost} {ρ : Env}
variable {dst : Option Tmp} {ty : TypeId} {pos : String} {af : Array Edge} {g : Option (Nat × Bool)} {x y z : Operand} {v u : Value} {ik ik' : IntKind} {a b : Int} {p q : Bool}
theorem R_call {f : FuncId} {as : List Operand} {vs : List Value} {ts : Array TypeId} (hc : ∀ (args : Array Value) (w : World), (callFunc f args).run P w = .ok (.enter f args) w) (ha : as.map (ev ρ) = vs) :
    (execOp (ev ρ) ⟨dst, .call { callee := .value (.func f), args := as.toArray, argTypes := ts }, ty, pos, af, g⟩).run P w = .ok (.enter f vs.toArray) w := by
  subst ha
  unfold execOp
  simp [resolve, Deferred.ofValue, invoke, ev, hc]
/-- a call of a function value that is known -/
theorem R_callv {f : FuncId} {fo : Operand} {cs : List Value} {as : List Operand} {vs : List Value} {ts : Array TypeId} (hf : ev ρ fo = .func (.func f) #[] cs.toArray) (hc : ∀ (args : Array Value) (w : World), (callFunc f args).run P w = .ok (.enter f args) w) (ha : as.map (ev ρ) ++ cs = vs) :
    (execOp (ev ρ) ⟨dst, .call { callee := .value fo, args := as.toArray, argTypes := ts }, ty, pos, af, g⟩).run P w = .ok (.enter f vs.toArray) w := by
  subst ha
  unfold execOp
  simp [resolve, hf, Deferred.ofValue, invoke, hc]
theorem resE_0 {rs : Array ResultVar} (h : rs = #[]) : (resE P rs ρ).run P w = .ok (.tuple #[]) w := by subst h; simp [resE]
theorem resE_1 {rs : Array ResultVar} {t1 : Tmp} (h : rs = #[.tmp t1]) (h1 : ρ t1 = v) : (resE P rs ρ).run P w = .ok v w := by subst h; simp [resE, h1]
theorem resE_2 {rs : Array ResultVar} {t1 t2 : Tmp} {v1 v2 : Value} (h : rs = #[.tmp t1, .tmp t2]) (h1 : ρ t1 = v1) (h2 : ρ t2 = v2) : (resE P rs ρ).run P w = .ok (.tuple #[v1, v2]) w := by subst h; simp [resE, h1, h2]
theorem resE_3 {rs : Array ResultVar} {t1 t2 t3 : Tmp} {v1 v2 v3 : Value} (h : rs = #[.tmp t1, .tmp t2, .tmp t3]) (h1 : ρ t1 = v1) (h2 : ρ t2 = v2) (h3 : ρ t3 = v3) : (resE P rs ρ).run P w = .ok (.tuple #[v1, v2, v3]) w := by subst h; simp [resE, h1, h2, h3]
/-- one result that lies in a box -/
theorem resE_B {rs : Array ResultVar} {t1 : Tmp} {T : TypeId} {bl : Nat} {X : α} (h : rs = #[.cell t1 T]) (h1 : ρ t1 = .pointer (some ⟨bl, 0, none⟩)) (hT : TyOk P T k by_) (hB : Bx k w K bl [] [] X) : ∃ v, (resE P rs ρ).run P w = .ok v w ∧ k.V K X v := by
  obtain ⟨v, hr, hV⟩ := hB.load hT (Foc.id k)
  have hr' : (loadVar T ⟨bl, 0, none⟩).run P w = .ok v w := hr
  refine ⟨v, ?_, hV⟩
  subst h
  simp [resE, h1, asAddr, hr']

/-! ### whole numbers -/
theorem int_V (hw : (Kd.int ik).wf a) : (Kd.int ik).V K a (.int ik a) := ⟨[.int ik a], ⟨rfl, hw⟩, rfl⟩
theorem int_form (h : (Kd.int ik).V K a v) : v = .int ik a := by
  obtain ⟨cs, ⟨rfl, _⟩, rfl⟩ := h
  rfl
theorem bool_V : Kd.bool.V K p (.bool p) := ⟨[.bool p], rfl, rfl⟩
theorem bool_form (h : Kd.bool.V K p v) : v = .bool p := by
  obtain ⟨cs, rfl, rfl⟩ := h
  rfl
theorem str_V {s : List UInt8} (hw : s.length ≤ LM) : Kd.str.V K s (.string ⟨s.toArray⟩) := ⟨_, ⟨rfl, hw⟩, rfl⟩
theorem str_form {s : List UInt8} (h : Kd.str.V K s v) : v = .string ⟨s.toArray⟩ := by
  obtain ⟨cs, ⟨rfl, _⟩, rfl⟩ := h
  rfl
theorem raw_V (h : v.oneCell' = true) : Kd.raw.V K v v := ⟨[v], ⟨rfl, h⟩, rfl⟩
theorem raw_form {s : Value} (h : Kd.raw.V K s v) : v = s := by
  obtain ⟨cs, ⟨rfl, _⟩, rfl⟩ := h
  rfl
/-- a byte as a whole number, and back -/
def bI (c : UInt8) : Int := (c.toNat : Int)
def toB (a : Int) : UInt8 := UInt8.ofNat a.toNat
theorem bI_wf (c : UInt8) : (Kd.int .u8).wf (bI c) := by
  have := UInt8.toNat_lt c
  constructor
  · show (0 : Int) ≤ _; unfold bI; omega
  · show _ ≤ (255 : Int); unfold bI; omega
theorem byte_form {c : UInt8} (h : Kd.byte.V K c v) : v = .int .u8 (bI c) := by
  obtain ⟨cs, rfl, rfl⟩ := h
  rfl
theorem bI_toB (hw : (Kd.int .u8).wf a) : bI (toB a) = a := by
  have h1 : (0 : Int) ≤ a := hw.1
  have h2 : a ≤ (255 : Int) := hw.2
  unfold bI toB
  rw [UInt8.toNat_ofNat_of_lt' (by show a.toNat < 256; omega)]
  omega
theorem toB_bI (c : UInt8) : toB (bI c) = c := by
  unfold toB bI
  simp
theorem byte_V (hw : (Kd.int .u8).wf a) : Kd.byte.V K (toB a) (.int .u8 a) := by
  have := bI_toB hw
  unfold bI at this
  exact ⟨[.int .u8 a], by show [Value.int .u8 a] = [.int .u8 ((toB a).toNat : Int)]; rw [this], rfl⟩
theorem wrap_wf (ik : IntKind) (a : Int) : (Kd.int ik).wf (ik.wrap a) := by
  cases ik <;> (constructor <;> simp only [IntKind.wrap, IntKind.min, IntKind.max, IntKind.signed, IntKind.bits] <;> (first | (simp; omega) | (split <;> simp <;> omega)))
theorem wrap_id {ik : IntKind} {a : Int} (h : (Kd.int ik).wf a) : ik.wrap a = a := by
  obtain ⟨h1, h2⟩ := h
  cases ik <;> simp only [IntKind.wrap, IntKind.min, IntKind.max, IntKind.signed, IntKind.bits] at * <;> (first | (simp at *; omega) | (simp at *; split <;> omega))
theorem len_wf {n : Nat} (h : n ≤ LM) : (Kd.int .i64).wf (n : Int) := by
  unfold LM at h
  constructor
  · show (-9223372036854775808 : Int) ≤ _; omega
  · show _ ≤ (9223372036854775807 : Int); omega
theorem wf64 (h1 : -9223372036854775808 ≤ a) (h2 : a ≤ 9223372036854775807) : (Kd.int .i64).wf a := ⟨h1, h2⟩
/-- one more, below a length -/
theorem R_inc {n : Int} (hx : ev ρ x = .int .i64 a) (hy : ev ρ y = .int .i64 1) (hw : (Kd.int .i64).wf a) (hlt : a < n) (hn : (Kd.int .i64).wf n) {t1 t2 : TypeId} :
    (execOp (ev ρ) ⟨dst, .binOp .add t1 x y t2, ty, pos, af, g⟩).run P w = .ok (.value (.int .i64 (a + 1))) w := by
  rw [R_add hx hy, wrap_id]
  have h1 : (-9223372036854775808 : Int) ≤ a := hw.1
  have h2 : n ≤ (9223372036854775807 : Int) := hn.2
  exact wf64 (by omega) (by omega)
theorem inc_wf {n : Int} (hw : (Kd.int .i64).wf a) (hlt : a < n) (hn : (Kd.int .i64).wf n) : (Kd.int .i64).wf (a + 1) := by
  have h1 : (-9223372036854775808 : Int) ≤ a := hw.1
  have h2 : n ≤ (9223372036854775807 : Int) := hn.2
  exact wf64 (by omega) (by omega)
theorem shr_wf {ik : IntKind} {a b : Int} (h : (Kd.int ik).wf a) : (Kd.int ik).wf (shr ik a b) := by
  unfold shr
  have hp : (0 : Int) < 2 ^ min b.toNat ik.bits := Int.pow_pos (by omega)
  obtain ⟨h1, h2⟩ := h
  generalize (2 : Int) ^ min b.toNat ik.bits = m at hp
  rw [Int.fdiv_eq_ediv_of_nonneg _ (by omega)]
  have hmin : ik.min ≤ 0 := by cases ik <;> decide
  have hmax : 0 ≤ ik.max := by cases ik <;> decide
  constructor
  · refine Int.le_trans ?_ (Int.ediv_le_ediv hp h1)
    have h3 := Int.ediv_mul_le ik.min (show m ≠ 0 by omega)
    rw [Int.le_ediv_iff_mul_le hp]
    have : ik.min * m ≤ ik.min * 1 := Int.mul_le_mul_of_nonpos_left hmin (by omega)
    omega
  · rcases Int.lt_or_le a 0 with hn | hn
    · have : a / m < 0 := Int.ediv_neg_of_neg_of_pos hn hp
      omega
    · have := Int.ediv_le_self m hn
      omega
theorem tmod_le {a : Int} (b : Int) (h : 0 ≤ a) : a.tmod b ≤ a := by
  obtain ⟨m, rfl⟩ := Int.eq_ofNat_of_zero_le h
  have h1 : ((m : Int).tmod b).natAbs = m % b.natAbs := by rw [Int.natAbs_tmod]; rfl
  have h2 := Nat.mod_le m b.natAbs
  omega
theorem tmod_wf {ik : IntKind} {a b : Int} (h : (Kd.int ik).wf a) : (Kd.int ik).wf (a.tmod b) := by
  obtain ⟨h1, h2⟩ := h
  have hmin : ik.min ≤ 0 := by cases ik <;> decide
  have hmax : 0 ≤ ik.max := by cases ik <;> decide
  rcases Int.lt_or_le a 0 with hn | hn
  · have e : a.tmod b = -((-a).tmod b) := by rw [Int.neg_tmod, Int.neg_neg]
    have h3 := Int.tmod_nonneg b (show 0 ≤ -a by omega)
    have h4 : (-a).tmod b ≤ -a := tmod_le b (by omega)
    exact ⟨by omega, by omega⟩
  · have h3 := Int.tmod_nonneg b hn
    have h4 : a.tmod b ≤ a := tmod_le b hn
    exact ⟨by omega, by omega⟩

/-! ### what a call leaves -/
def RetV (k : Kd α) (w : World) (K : Ghost) (Q : α → Prop) : Ending → World → Prop := fun e w' => ∃ v K' r, e = .returned v ∧ Q r ∧ Ext NX w K w' K' ∧ Models w' K' ∧ k.V K' r v
def RetO (k : Kd α) (el : TypeId) (w : World) (K : Ghost) (Q : List α → Prop) : Ending → World → Prop := fun e w' => ∃ v K' r, e = .returned v ∧ Q r ∧ Ext NX w K w' K' ∧ Models w' K' ∧ Own k el w' K' r v ∧ (∀ g, ob v = some g → w.heap.size ≤ g)
theorem RetV.imp {Q Q' : α → Prop} {e : Ending} {w' : World} (h : RetV k w K Q e w') (hQ : ∀ r, Q r → Q' r) : RetV k w K Q' e w' := by
  obtain ⟨v, K', r, h1, h2, h3⟩ := h
  exact ⟨v, K', r, h1, hQ r h2, h3⟩
theorem RetO.imp {el : TypeId} {Q Q' : List α → Prop} {e : Ending} {w' : World} (h : RetO k el w K Q e w') (hQ : ∀ r, Q r → Q' r) : RetO k el w K Q' e w' := by
  obtain ⟨v, K', r, h1, h2, h3⟩ := h
  exact ⟨v, K', r, h1, hQ r h2, h3⟩
/-- a slice built of parts: all of them -/
theorem fill_all (sz : Nat) (hR : ∀ x cs, k.R K x cs → cs.length = sz) : ∀ (l : List (α × Value)) (i : Nat) (pre : List Value) (cells : Array Value), (∀ p ∈ l, k.V K p.1 p.2) → pre.length = i * sz → cells.toList.take (i * sz) = pre → cells.size = (i + l.length) * sz → k.sz = sz →
    ∃ c, Instr.fill (fun j => some (j * sz, sz)) cells ((l.map (·.2)).zipIdx i |>.map fun p => (p.2, p.1)) = some c ∧ ∃ mid, c.toList = pre ++ mid ∧ RL (k.R K) (l.map (·.1)) mid
  | [], i, pre, cells, _, hp, ht, hs, hk => ⟨cells, rfl, [], by
      have : cells.toList.length = i * sz := by simpa using hs
      rw [List.take_of_length_le (by omega)] at ht
      simpa using ht, rfl⟩
  | (a, v) :: l, i, pre, cells, hV, hp, ht, hs, hk => by
    have hv := hV (a, v) (by simp)
    have hvs := hv.size
    have hlen : cells.toList.length = (i + (l.length + 1)) * sz := by simpa using hs
    have hge : (i + 1) * sz ≤ cells.toList.length := by rw [hlen]; exact Nat.mul_le_mul_right _ (by omega)
    have hadd : (i + 1) * sz = i * sz + sz := by rw [Nat.add_mul, Nat.one_mul]
    have fold : ∀ (m : List Value) (o : Nat) (c : Array Value), o + m.length ≤ c.size → ((m.zipIdx).foldl (fun cs (p : Value × Nat) => cs.setIfInBounds (o + p.2) p.1) c).toList = c.toList.take o ++ m ++ c.toList.drop (o + m.length) := by
      have gen : ∀ (m : List Value) (o s : Nat) (c : Array Value), o + s + m.length ≤ c.size → ((m.zipIdx s).foldl (fun cs (p : Value × Nat) => cs.setIfInBounds (o + p.2) p.1) c).toList = c.toList.take (o + s) ++ m ++ c.toList.drop (o + s + m.length) := by
        intro m
        induction m with
        | nil => intro o s c _; simp
        | cons x m ih =>
          intro o s c hc
          simp only [List.length_cons] at hc
          rw [List.zipIdx_cons, List.foldl_cons, ih o (s + 1) _ (by simp; omega)]
          simp only [Array.toList_setIfInBounds]
          have h1 : (c.toList.set (o + s) x).take (o + (s + 1)) = c.toList.take (o + s) ++ [x] := by
            rw [← Nat.add_assoc, List.take_add_one]
            rw [List.take_set_of_le (Nat.le_refl _)]
            congr 1
            have : o + s < c.toList.length := by simp; omega
            rw [List.getElem?_set_self this]
            rfl
          have h2 : (c.toList.set (o + s) x).drop (o + (s + 1) + m.length) = c.toList.drop (o + s + (m.length + 1)) := by
            rw [List.drop_set_of_lt (by omega)]
            congr 1
            omega
          rw [h1, h2]
          simp
      intro m o c h
      simpa using gen m o 0 c (by simpa using h)
    have hlv : v.cells.toList.length = sz := by simpa [hk] using hvs
    have hge' : (i + 1) * sz ≤ cells.size := by simpa using hge
    have hf := fold v.cells.toList (i * sz) cells (by rw [hlv]; omega)
    rw [ht, hlv, ← hadd] at hf
    obtain ⟨c, hc, mid, hm, hRm⟩ := fill_all sz hR l (i + 1) (pre ++ v.cells.toList) (v.cells.zipIdx.foldl (fun cs (p : Value × Nat) => cs.setIfInBounds (i * sz + p.2) p.1) cells) (fun p hp => hV p (by simp [hp])) (by rw [List.length_append, hlv, hp, hadd]) (by
        rw [← Array.foldl_toList, Array.toList_zipIdx, hf]
        rw [List.take_append_of_le_length (by rw [List.length_append, hp, hlv]; omega)]
        exact List.take_of_length_le (by rw [List.length_append, hp, hlv]; omega)) (by
        have : (v.cells.zipIdx.foldl (fun cs (p : Value × Nat) => cs.setIfInBounds (i * sz + p.2) p.1) cells).toList.length = (i + 1 + l.length) * sz := by
          rw [← Array.foldl_toList, Array.toList_zipIdx, hf]
          simp only [List.length_append, List.length_drop, hp, hlv, hlen]
          rw [show i + (l.length + 1) = i + 1 + l.length from by omega]
          have : (i + 1) * sz ≤ (i + 1 + l.length) * sz := Nat.mul_le_mul_right _ (by omega)
          omega
        simpa using this) hk
    refine ⟨c, ?_, v.cells.toList ++ mid, by rw [hm]; simp, v.cells.toList, mid, rfl, hv.cells, hRm⟩
    simp only [List.map_cons, List.zipIdx_cons, Instr.fill]
    have hvs' : v.cells.size = sz := hvs.trans hk
    have hcond : ¬ ((decide (v.cells.size ≠ sz) || decide (i * sz + v.cells.size > cells.size)) = true) := by simp; omega
    rw [if_neg hcond]
    exact hc
theorem S_bsl {l : List (α × Value)} {ps : List (Nat × Operand)} {n : Nat} {t1 : TypeId} (hM : Models w K) (hps : ps.map (fun p => (p.1, ev ρ p.2)) = ((l.map (·.2)).zipIdx.map fun p => (p.2, p.1))) (hV : ∀ p ∈ l, k.V K p.1 p.2) (hn : n = l.length) (ht : P.underlying t1 = some (.slice e)) (hT : TyOk P e k by_) (hsz : Nat.blt 0 k.sz = true) (hbig : Nat.ble (n * k.sz) 16777216 = true) :
    ∃ v' w' K', (execOp (ev ρ) ⟨dst, .buildSlice t1 n ps.toArray, ty, pos, af, g⟩).run P w = .ok (.value v') w' ∧ Own k e w' K' (l.map (·.1)) v' ∧ Ext NX w K w' K' ∧ Models w' K' ∧ (∀ g, ob v' = some g → w.heap.size ≤ g) := by
  have hsz' : 0 < k.sz := Nat.le_of_ble_eq_true hsz
  have hbig' : n * k.sz ≤ 16777216 := Nat.le_of_ble_eq_true hbig
  obtain ⟨i, z, hi, hsi, hz, hzc, hbi, -⟩ := hT.info
  have key : ∃ c, (Instr.buildSlice t1 n ((l.map (·.2)).zipIdx.map fun p => (p.2, p.1)).toArray).run P w = .ok (.slice (some ⟨w.heap.size, 0, none⟩) n n) (w.alloc (.cells c e)) ∧ RL (k.R K) (l.map (·.1)) c.toList := by
    by_cases h0 : n * k.sz = 0
    · obtain ⟨c, hc, mid, hm, hRm⟩ := fill_all (k := k) (K := K) k.sz (fun _ _ => k.len) l 0 [] ((Array.range (n * k.sz)).map ((#[] : Array Value)[· % (#[] : Array Value).size]!)) hV (by simp) (by simp) (by simp [hn]) rfl
      refine ⟨c, ?_, by rw [hm]; simpa using hRm⟩
      unfold Instr.buildSlice
      rw [Sem.run_bind, run_underlying ht w]
      simp only [Result.andThen_ok, Sem.run_bind, hT.size]
      rw [if_neg (by omega), if_pos h0]
      simp only [pure_bind, hc]
      simp [newRow]
    · obtain ⟨c, hc, mid, hm, hRm⟩ := fill_all (k := k) (K := K) k.sz (fun _ _ => k.len) l 0 [] ((Array.range (n * k.sz)).map (z.cells[· % z.cells.size]!)) hV (by simp) (by simp) (by simp [hn]) rfl
      refine ⟨c, ?_, by rw [hm]; simpa using hRm⟩
      have hzv : (zeroValue e).run P w = .ok z w := by simp [zeroValue, typeInfo, hi, hz]
      unfold Instr.buildSlice
      rw [Sem.run_bind, run_underlying ht w]
      simp only [Result.andThen_ok, Sem.run_bind, hT.size]
      rw [if_neg (by omega), if_neg h0]
      rw [Sem.run_bind, hzv]
      simp only [Result.andThen_ok, pure_bind, hc]
      simp [newRow]
  obtain ⟨c, hr, hRc⟩ := key
  have hlc := RL.len (fun _ _ => k.len) hRc
  rw [List.length_map, ← hn] at hlc
  have hnl : n ≤ 16777216 := Nat.le_trans (Nat.le_mul_of_pos_right _ hsz') hbig'
  obtain ⟨K', h1, h2, h3⟩ := own_new (w := w) (K := K) (k := k) (e := e) (x := l.map (·.1)) (l := c.toList) (c := c) (cap := n) hM hsz' hRc (by
    intro y hy
    obtain ⟨p, hp, rfl⟩ := List.mem_map.1 hy
    exact (hV p hp).wf) (by rw [List.length_map, ← hn]; unfold LM; omega) (by rw [List.length_map, ← hn]; exact Nat.le_refl _) (by unfold maxLen; omega) (by simpa using hlc) (List.prefix_refl _)
  rw [List.length_map, ← hn] at h1
  refine ⟨_, _, K', ?_, h1, h2, h3, ?_⟩
  · unfold execOp
    simp only [List.map_toArray, hps]
    simp [hr]
  · intro g hg
    cases n with
    | zero => simp [ob] at hg
    | succ n => simp [ob] at hg; omega
end
end Go.Inc
