/-
  BASE 16: maps.
-/
import Derived.Test.YtfbhiilolpamaaaB15
set_option linter.unusedVariables false
namespace Go.Inc
open Go Go.RowKit

/-- the entries of a map -/
def Ents {κ ν : Type} (kk : Kd κ) (kv : Kd ν) (K : Ghost) : List MapEntry → List (κ × ν) → Prop
  | [], [] => True
  | e :: es, (a, b) :: m => kk.V K a e.key ∧ kv.V K b e.val ∧ Ents kk kv K es m
  | _, _ => False
/-- where a key stands -/
def mfind {κ ν : Type} [DecidableEq κ] (x : κ) : List (κ × ν) → Option ν
  | [] => none
  | (a, b) :: m => if x = a then some b else mfind x m
def mset {κ ν : Type} [DecidableEq κ] (x : κ) (y : ν) : List (κ × ν) → List (κ × ν)
  | [] => [(x, y)]
  | (a, b) :: m => if x = a then (a, y) :: m else (a, b) :: mset x y m
def mb : Value → Option Nat
  | .map r => r
  | _ => none
/-- a map of one's own -/
def Mp {κ ν : Type} (kk : Kd κ) (kv : Kd ν) (w : World) (K : Ghost) (m : List (κ × ν)) (v : Value) : Prop :=
  (v = .map none ∧ m = []) ∨ ∃ r es clock, v = .map (some r) ∧ K r = none ∧ w.heap[r]? = some (.map es clock) ∧ Ents kk kv K es.toList m
section
variable {κ ν : Type} {kk : Kd κ} {kv : Kd ν} {P : Program} {w w' : World} {K K' : Ghost} {m : List (κ × ν)} {v u : Value}
theorem Ents.mono (hle : K.le K') : ∀ {es : List MapEntry} {m : List (κ × ν)}, Ents kk kv K es m → Ents kk kv K' es m
  | [], [], h => h
  | e :: es, (a, b) :: m, ⟨h1, h2, h3⟩ => ⟨h1.mono hle, h2.mono hle, h3.mono hle⟩
  | [], _ :: _, h => h.elim
  | _ :: _, [], h => h.elim
theorem Mp.ext {X : Nat → Prop} (h : Mp kk kv w K m v) (hE : Ext X w K w' K') (hX : ∀ r, mb v = some r → ¬ X r) : Mp kk kv w' K' m v := by
  rcases h with h | ⟨r, es, clock, rfl, hK, hh, hE'⟩
  · exact .inl h
  · have hne := hX r rfl
    have hlt := (Array.getElem?_eq_some_iff.1 hh).1
    exact .inr ⟨r, es, clock, rfl, (hE.ghost r hlt hne).trans hK, (hE.heap r hlt hne).trans hh, hE'.mono hE.le⟩
theorem Mp.extN (h : Mp kk kv w K m v) (hE : Ext NX w K w' K') : Mp kk kv w' K' m v := h.ext hE (fun _ _ h => h)
theorem Mp.lt (h : Mp kk kv w K m v) : ∀ r, mb v = some r → r < w.heap.size := by
  rcases h with ⟨rfl, _⟩ | ⟨r, es, clock, rfl, hK, hh, hE'⟩
  · intro r h; cases h
  · intro r' h
    cases h
    exact (Array.getElem?_eq_some_iff.1 hh).1
theorem Mp.box {α : Type} {k : Kd α} {bl : Nat} {pre post : List Value} {x : α} (h : Mp kk kv w K m v) (hB : Bx k w K bl pre post x) : mb v ≠ some bl := fun he => by
  rcases h with ⟨rfl, _⟩ | ⟨r, es, clock, rfl, hK, hh, hE'⟩
  · cases he
  · cases he
    obtain ⟨_, cs, T, hc, _⟩ := hB
    rw [hh] at hc
    cases hc
theorem Mp.own {α : Type} {k : Kd α} {e : TypeId} {x : List α} (h : Mp kk kv w K m v) (hO : Own k e w K x u) : ∀ g, ob u = some g → mb v ≠ some g := fun g hg he => by
  rcases h with ⟨rfl, _⟩ | ⟨r, es, clock, rfl, hK, hh, hE'⟩
  · cases he
  · cases he
    obtain ⟨l, hl⟩ := hO.known g hg
    rw [hK] at hl
    cases hl
/-- a kind of keys, how the model looks for them -/
structure KeyOk (P : Program) (kt : TypeId) (kk : Kd κ) [DecidableEq κ] : Prop where
  check : ∀ {em : Bool} {K : Ghost} {x : κ} {v : Value} {w : World}, kk.V K x v → (Instr.checkKey em 10000 kt v).run P w = .ok () w
  stays : ∀ {K : Ghost} {x : κ} {v u : Value} {w : World}, kk.V K x v → kk.V K x u → (Instr.keyThatStays v u).run P w = .ok u w
  ask : ∀ {K : Ghost} {x y : κ} {v u : Value} {w : World}, kk.V K x v → kk.V K y u → (Op.equal kt v u).run P w = .ok (decide (x = y)) w
  now : ∃ d, P.underlying kt = some d ∧ ∀ {K : Ghost} {x y : κ} {v u : Value}, kk.V K x v → kk.V K y u → (Instr.sameNow d v u = none ∨ Instr.sameNow d v u = some (decide (x = y)))
theorem Ents.empty {es : List MapEntry} (h : Ents kk kv K es m) : es.isEmpty = m.isEmpty := by
  cases es <;> cases m <;> simp_all [Ents]
theorem Ents.snoc : ∀ {es : List MapEntry} {m : List (κ × ν)} {x : κ} {y : ν} {e : MapEntry}, Ents kk kv K es m → kk.V K x e.key → kv.V K y e.val → Ents kk kv K (es ++ [e]) (m ++ [(x, y)])
  | [], [], _, _, _, _, h1, h2 => ⟨h1, h2, trivial⟩
  | e :: es, (a, b) :: m, _, _, _, ⟨h1, h2, h3⟩, h4, h5 => ⟨h1, h2, h3.snoc h4 h5⟩
  | [], _ :: _, _, _, _, h, _, _ => h.elim
  | _ :: _, [], _, _, _, h, _, _ => h.elim
variable [DecidableEq κ] {kt vt : TypeId}
/-- the first entry with the key -/
def mat {κ ν : Type} [DecidableEq κ] (x : κ) : List (κ × ν) → List MapEntry → Nat → Option (Nat × Value)
  | (a, _) :: m, e :: es, i => if x = a then some (i, e.val) else mat x m es (i + 1)
  | _, _, _ => none
theorem ask_run (hk : KeyOk P kt kk) {x : κ} (hv : kk.V K x v) : ∀ {es : List MapEntry} {m : List (κ × ν)} (i : Nat), Ents kk kv K es m → (Instr.findAsking kt v es i).run P w = .ok (mat x m es i) w
  | [], [], i, h => by simp [Instr.findAsking, mat]
  | e :: es, (a, b) :: m, i, ⟨h1, h2, h3⟩ => by
    simp only [Instr.findAsking, Sem.run_bind, hk.ask hv h1, Result.andThen_ok, mat]
    by_cases hx : x = a
    · simp [hx]
    · simp only [hx, decide_false, Bool.false_eq_true, if_false]
      exact ask_run hk hv (i + 1) h3
  | [], _ :: _, _, h => h.elim
  | _ :: _, [], _, h => h.elim
theorem now_run {d : TypeDesc} (hn : ∀ {K : Ghost} {x y : κ} {v u : Value}, kk.V K x v → kk.V K y u → (Instr.sameNow d v u = none ∨ Instr.sameNow d v u = some (decide (x = y)))) {x : κ} (hv : kk.V K x v) : ∀ {es : List MapEntry} {m : List (κ × ν)} (i : Nat), Ents kk kv K es m → Instr.findNow d v es i = none ∨ Instr.findNow d v es i = some (mat x m es i)
  | [], [], i, h => by simp [Instr.findNow, mat]
  | e :: es, (a, b) :: m, i, ⟨h1, h2, h3⟩ => by
    rcases hn hv h1 with h | h
    · exact .inl (by simp [Instr.findNow, h])
    · by_cases hx : x = a
      · exact .inr (by simp [Instr.findNow, h, mat, hx])
      · rcases now_run hn hv (i + 1) h3 with h' | h'
        · exact .inl (by simp [Instr.findNow, h, hx, h'])
        · exact .inr (by simp [Instr.findNow, h, hx, h', mat])
  | [], _ :: _, _, h => h.elim
  | _ :: _, [], _, h => h.elim
theorem find_run (hk : KeyOk P kt kk) {x : κ} (hv : kk.V K x v) {es : List MapEntry} {m : List (κ × ν)} (hE : Ents kk kv K es m) : (Instr.findKey kt v es).run P w = .ok (mat x m es 0) w := by
  obtain ⟨d, hd, hn⟩ := hk.now
  unfold Instr.findKey
  simp only [Sem.run_bind, run_underlying hd, Result.andThen_ok]
  rcases now_run hn hv 0 hE with h | h
  · simp only [h]
    exact ask_run hk hv 0 hE
  · simp [h]
theorem mat_some {x : κ} : ∀ {es : List MapEntry} {m : List (κ × ν)} (i : Nat), Ents kk kv K es m → (mat x m es i = none ∧ mfind x m = none) ∨ ∃ j b e, mat x m es i = some (i + j, e.val) ∧ mfind x m = some b ∧ es[j]? = some e ∧ kv.V K b e.val ∧ kk.V K x e.key
  | [], [], i, h => .inl ⟨rfl, rfl⟩
  | e :: es, (a, b) :: m, i, ⟨h1, h2, h3⟩ => by
    by_cases hx : x = a
    · subst hx
      exact .inr ⟨0, b, e, by simp [mat], by simp [mfind], rfl, h2, h1⟩
    · rcases mat_some (i + 1) h3 (x := x) with ⟨h, h'⟩ | ⟨j, b', e', hj, hb, he, hv, hk⟩
      · exact .inl ⟨by simp [mat, hx, h], by simp [mfind, hx, h']⟩
      · exact .inr ⟨j + 1, b', e', by simp [mat, hx, hj]; omega, by simp [mfind, hx, hb], by simpa using he, hv, hk⟩
  | [], _ :: _, _, h => h.elim
  | _ :: _, [], _, h => h.elim
theorem mset_none {x : κ} {y : ν} : ∀ {m : List (κ × ν)}, mfind x m = none → mset x y m = m ++ [(x, y)]
  | [], _ => rfl
  | (a, b) :: m, h => by
    simp only [mfind] at h
    split at h
    · cases h
    · rename_i hx
      simp [mset, hx, mset_none h]
theorem mset_some {x : κ} {y : ν} {ky vv : Value} (hy : kv.V K y vv) (hx : kk.V K x ky) : ∀ {es : List MapEntry} {m : List (κ × ν)} (i : Nat), Ents kk kv K es m → (mat x m es i = none) ∨ ∃ j b, mat x m es i = some (i + j, b) ∧ j < es.length ∧ Ents kk kv K (es.modify j fun e => { e with key := ky, val := vv }) (mset x y m)
  | [], [], i, h => .inl rfl
  | e :: es, (a, b) :: m, i, ⟨h1, h2, h3⟩ => by
    by_cases hxa : x = a
    · subst hxa
      refine .inr ⟨0, e.val, by simp [mat], by simp, ?_⟩
      simp only [mset, if_true, List.modify_zero_cons]
      exact ⟨hx, hy, h3⟩
    · rcases mset_some hy hx (i + 1) h3 with h | ⟨j, b', hj, hlt, hE⟩
      · exact .inl (by simp [mat, hxa, h])
      · refine .inr ⟨j + 1, b', by simp [mat, hxa, hj]; omega, by simpa using hlt, ?_⟩
        simp only [mset, hxa, if_false, List.modify_succ_cons]
        exact ⟨h1, h2, hE⟩
  | [], _ :: _, _, h => h.elim
  | _ :: _, [], _, h => h.elim
/-! ### the operations -/
variable {ρ : Env} {dst : Option Tmp} {ty : TypeId} {pos : String} {af : Array Edge} {g : Option (Nat × Bool)} {x y z : Operand} {bw : Nat} {t1 t2 : TypeId}
theorem run_getMap {r : Nat} {es : Array MapEntry} {c : Nat} (hh : w.heap[r]? = some (.map es c)) : (getObj r).run P w = .ok (.map es c) w := by
  simp only [getObj, Sem.run, hh]
theorem run_setMap {r : Nat} {es : Array MapEntry} {c : Nat} (o : Obj) (hh : w.heap[r]? = some (.map es c)) : (setObj r o).run P w = .ok () { w with heap := w.heap.setIfInBounds r o } := by
  simp only [setObj, Sem.run, hh]
/-- 'v, ok := m[k]' -/
theorem S_lkp {k : κ} {Z : Nat → Prop} (hm : ev ρ x = v) (hk : ev ρ y = u) (hM : Mp kk kv w K m v) (hV : kk.V K k u) (ht : P.underlying t1 = some (.map kt vt)) (hK : KeyOk P kt kk) (hT : TyOk P vt kv bw) (hZ : ∀ r, mb v = some r → ¬ Z r) :
    ∃ r, (∀ w' K', Ext Z w K w' K' → Models w' K' → (execOp (ev ρ) ⟨dst, .lookup t1 x y true, ty, pos, af, g⟩).run P w' = .ok (.value (.tuple #[r, .bool (mfind k m).isSome])) w') ∧ kv.V K ((mfind k m).getD kv.z) r := by
  obtain ⟨es, hE, hcase⟩ : ∃ es : Array MapEntry, Ents kk kv K es.toList m ∧ ((v = .map none ∧ es = #[]) ∨ ∃ r c, v = .map (some r) ∧ w.heap[r]? = some (.map es c)) := by
    rcases hM with ⟨rfl, rfl⟩ | ⟨r, es, clock, rfl, hK, hh, hE'⟩
    · exact ⟨#[], trivial, .inl ⟨rfl, rfl⟩⟩
    · exact ⟨es, hE', .inr ⟨r, clock, rfl, hh⟩⟩
  obtain ⟨zv, hz, hzV⟩ := hT.zero (K := K)
  have hstay : ∀ w' K', Ext Z w K w' K' → (v = .map none ∧ es = #[]) ∨ ∃ r c, v = .map (some r) ∧ w'.heap[r]? = some (.map es c) := fun w' K' hEx => by
    rcases hcase with h | ⟨r, c, rfl, hh⟩
    · exact .inl h
    · exact .inr ⟨r, c, rfl, (hEx.heap r (Array.getElem?_eq_some_iff.1 hh).1 (hZ r rfl)).trans hh⟩
  have key : ∃ r, (∀ w' K', Ext Z w K w' K' → (Instr.lookup t1 v u true).run P w' = .ok (.tuple #[r, .bool (mfind k m).isSome]) w') ∧ kv.V K ((mfind k m).getD kv.z) r := by
    rcases mat_some (x := k) 0 hE with ⟨h1, h2⟩ | ⟨j, b, e, h1, h2, h3, h4, h5⟩
    · refine ⟨zv, fun w' K' hEx => ?_, by rw [h2]; exact hzV⟩
      have hck := hK.check (em := es.isEmpty) (w := w') hV
      have hfd := find_run (w := w') hK hV hE
      unfold Instr.lookup
      rw [Sem.run_bind, run_underlying ht]
      simp only [Result.andThen_ok]
      rw [h1] at hfd
      rcases hstay w' K' hEx with ⟨rfl, rfl⟩ | ⟨r, c, rfl, hh⟩
      · simp at hck hfd
        simp [hck, hfd, hz, h2]
      · simp [run_getMap hh, hck, hfd, hz, h2]
    · refine ⟨e.val, fun w' K' hEx => ?_, by rw [h2]; exact h4⟩
      have hck := hK.check (em := es.isEmpty) (w := w') hV
      have hfd := find_run (w := w') hK hV hE
      unfold Instr.lookup
      rw [Sem.run_bind, run_underlying ht]
      simp only [Result.andThen_ok]
      rw [h1] at hfd
      rcases hstay w' K' hEx with ⟨rfl, rfl⟩ | ⟨r, c, rfl, hh⟩
      · simp at h3
      · simp [run_getMap hh, hck, hfd, h2]
  obtain ⟨r, hr, hV'⟩ := key
  refine ⟨r, fun w' K' hEx _ => ?_, hV'⟩
  unfold execOp
  simp only [hm, hk]
  simp [hr w' K' hEx]
/-- 'm[k] = v' -/
theorem S_mst {k : κ} {b : ν} {r : Nat} {vv : Value} (hMo : Models w K) (hm : ev ρ x = .map (some r)) (hk : ev ρ y = u) (hb : ev ρ z = vv) (hM : Mp kk kv w K m (.map (some r))) (hV : kk.V K k u) (hVb : kv.V K b vv) (ht : P.underlying t1 = some (.map kt vt)) (hK : KeyOk P kt kk) :
    ∃ w', (execOp (ev ρ) ⟨dst, .mapUpdate t1 x y z, ty, pos, af, g⟩).run P w = .ok .skip w' ∧ Mp kk kv w' K (mset k b m) (.map (some r)) ∧ Ext (· = r) w K w' K ∧ Models w' K := by
  rcases hM with ⟨h, _⟩ | ⟨r', es, clock, h, hKr, hh, hE⟩
  · cases h
  · cases h
    have hck := hK.check (em := false) (w := w) hV
    have hfd := find_run (w := w) hK hV hE
    have hlt := (Array.getElem?_eq_some_iff.1 hh).1
    have key : ∃ o : Obj, (Instr.mapUpdate t1 (.map (some r)) u vv).run P w = .ok () { w with heap := w.heap.setIfInBounds r o } ∧ ∃ es' c', o = .map es' c' ∧ Ents kk kv K es'.toList (mset k b m) := by
      rcases mset_some hVb hV 0 hE with h1 | ⟨j, b', h1, hj, hE'⟩
      · rcases mat_some (x := k) 0 hE with ⟨_, h2⟩ | ⟨j, b', e, h1', _⟩
        · rw [h1] at hfd
          refine ⟨.map (es.push { key := u, val := vv, born := clock }) (clock + 1), ?_, _, _, rfl, ?_⟩
          · unfold Instr.mapUpdate
            rw [Sem.run_bind, run_underlying ht]
            simp [run_getMap hh, hck, hfd, run_setMap _ hh]
          · rw [mset_none h2, Array.toList_push]
            exact hE.snoc hV hVb
        · rw [h1] at h1'
          cases h1'
      · rw [h1] at hfd
        rcases mat_some (x := k) 0 hE with ⟨h1', _⟩ | ⟨j', b2, e, h1', h2', h3', h4', h5'⟩
        · rw [h1] at h1'
          cases h1'
        · rw [h1] at h1'
          simp only [Option.some.injEq, Prod.mk.injEq] at h1'
          have hjj : j = j' := by omega
          subst hjj
          have hst := hK.stays (w := w) h5' hV
          have hej : es[0 + j]? = some e := by simpa using h3'
          refine ⟨.map (es.modify (0 + j) fun e => { e with key := u, val := vv }) clock, ?_, _, _, rfl, ?_⟩
          · unfold Instr.mapUpdate
            rw [Sem.run_bind, run_underlying ht]
            simp only [Nat.zero_add] at hej hfd ⊢
            simp [run_getMap hh, hck, hfd, hej, hst, run_setMap _ hh]
          · rw [Array.toList_modify]
            simpa using hE'
    obtain ⟨o, hr, es', c', rfl, hE'⟩ := key
    refine ⟨{ w with heap := w.heap.setIfInBounds r (.map es' c') }, ?_, .inr ⟨r, es', c', rfl, hKr, ?_, hE'⟩, ⟨Ghost.le.refl K, fun j hj hx => ?_, fun _ _ _ => rfl, by simp, rfl, rfl, rfl⟩, ?_⟩
    · unfold execOp
      simp only [hm, hk, hb]
      simp [hr]
    · simp [hlt]
    · show (w.heap.setIfInBounds r _)[j]? = _
      rw [Array.getElem?_setIfInBounds_ne (fun h => hx h.symm)]
    · intro b0 t' l' hb0
      obtain ⟨c0, fr, h0, h00⟩ := hMo b0 t' l' hb0
      have hne : b0 ≠ r := fun e => by subst e; rw [hKr] at hb0; cases hb0
      refine ⟨c0, fr, ?_, h00⟩
      show (w.heap.setIfInBounds r _)[b0]? = _
      rw [Array.getElem?_setIfInBounds_ne (fun h => hne h.symm)]
      exact h0
omit [DecidableEq κ] in
theorem S_mkm (hMo : Models w K) : ∃ w', (execOp (ev ρ) ⟨dst, .makeMap t1 none, ty, pos, af, g⟩).run P w = .ok (.value (.map (some w.heap.size))) w' ∧ Mp kk kv w' K [] (.map (some w.heap.size)) ∧ Ext NX w K w' K ∧ Models w' K := by
  refine ⟨w.alloc (.map #[] 0), ?_, .inr ⟨w.heap.size, #[], 0, rfl, hMo.none_of_ge (Nat.le_refl _), heap_new w _, trivial⟩, Ext.alloc w K _, hMo.alloc _⟩
  unfold execOp
  simp [Instr.makeMap]
omit [DecidableEq κ] in
theorem S_mnil (hm : ev ρ x = v) (hy : ev ρ y = .map none) (hM : Mp kk kv w K m v) (ht : P.underlying t1 = some (.map kt vt)) :
    ∃ r : Bool, (∀ w : World, (execOp (ev ρ) ⟨dst, .binOp .eql t1 x y t2, ty, pos, af, g⟩).run P w = .ok (.value (.bool r)) w) ∧ (r = true → v = .map none ∧ m = []) ∧ (r = false → ∃ b, v = .map (some b)) := by
  have hd : ∀ (w : World) (o : Option Nat), (Op.equal t1 (.map o) (.map none)).run P w = .ok o.isNone w := fun w o => by
    have : ∀ d : Nat, (Op.equalIn (d + 1) t1 (.map o) (.map none)).run P w = .ok o.isNone w := fun d => by
      cases o <;> simp [Op.equalIn, run_underlying ht]
    exact this 9999
  rcases hM with ⟨rfl, rfl⟩ | ⟨r, es, clock, rfl, _⟩
  · refine ⟨true, ?_, (fun _ => ⟨rfl, rfl⟩), (fun h => by cases h)⟩
    intro w; unfold execOp; simp only [hm, hy]; simp [binOp, eqGuard, hd]
  · refine ⟨false, ?_, (fun h => by cases h), fun _ => ⟨r, rfl⟩⟩
    intro w; unfold execOp; simp only [hm, hy]; simp [binOp, eqGuard, hd]
end
section
variable {P : Program} {t e : TypeId} {by_ : Nat}
theorem sameBits_list (n : Nat) : ∀ (xs : List UInt8), ((xs.map cellB).zip (xs.map cellB)).all (fun (x, y) => Instr.sameBits n x y) = true
  | [] => rfl
  | x :: xs => by
    simp only [List.map_cons, List.zip_cons_cons, List.all_cons, sameBits_list n xs, Bool.and_true]
    cases n <;> simp [cellB, Instr.sameBits]
theorem keyCheck_arr {n : Nat} {em : Bool} {K : Ghost} {x : List UInt8} {v : Value} {w : World} (ht : P.underlying t = some (.array n e)) (he : P.underlying e = some (.int .u8)) (hT : TyOk P e Kd.byte by_) (d : Nat) (hV : (Kd.arr n Kd.byte).V K x v) :
    (Instr.checkKey em (d + 2) t v).run P w = .ok () w := by
  obtain ⟨rfl, hx⟩ := arrb_form hV
  have hpart : ∀ i, i < n → (part e (x.map cellB).toArray (i * 1)).run P w = .ok (cellB (x.getD i 0)) w := fun i hi => by
    unfold part
    rw [Sem.run_bind, hT.isAgg]
    have hi' : i < x.length := by omega
    simp [Kd.byte, hi']
  have hck : ∀ m (c : UInt8), (Instr.checkKey em (m + 1) e (cellB c)).run P w = .ok () w := fun m c => by
    unfold cellB
    simp [Instr.checkKey, run_underlying he]
  have hs : (sizeOf e).run P w = .ok 1 w := hT.size w
  rw [Instr.checkKey]
  simp only [Sem.run_bind, run_underlying ht, Result.andThen_ok, Std.Legacy.Range.forIn_eq_forIn_range', Std.Legacy.Range.size, Nat.sub_zero, Nat.add_one_sub_one, Nat.div_one]
  have hl : ∀ i ∈ List.range' 0 n 1, i < n := fun i hi => by simpa using (List.mem_range'_1.1 hi).2
  generalize List.range' 0 n 1 = l at hl ⊢
  induction l with
  | nil => simp
  | cons i l ih =>
    have h1 := hpart i (hl i (by simp))
    simp only [List.forIn_cons, Sem.run_bind, hs, Result.andThen_ok, h1, hck d, Sem.run_pure]
    exact ih fun j hj => hl j (by simp [hj])
theorem keyOk_arr {n : Nat} (ht : P.underlying t = some (.array n e)) (he : P.underlying e = some (.int .u8)) (hT : TyOk P e Kd.byte by_) : KeyOk P t (Kd.arr n Kd.byte) where
  check := fun hV => keyCheck_arr ht he hT 9998 hV
  stays := fun {K x v u w} hv hu => by
    obtain ⟨rfl, hx⟩ := arrb_form hv
    obtain ⟨rfl, _⟩ := arrb_form hu
    unfold Instr.keyThatStays
    have : Instr.sameBits 10000 (.agg (x.map cellB).toArray) (.agg (x.map cellB).toArray) = true := by
      have h := sameBits_list 9999 x
      rw [show Instr.sameBits 10000 (.agg (x.map cellB).toArray) (.agg (x.map cellB).toArray) = ((x.map cellB).toArray.size == (x.map cellB).toArray.size && ((x.map cellB).toArray.toList.zip (x.map cellB).toArray.toList).all fun (x, y) => Instr.sameBits 9999 x y) from by simp only [Instr.sameBits]]
      simpa using h
    simp [this]
  ask := fun hv hu => eqIn_arr 9998 hv hu ht he hT
  now := ⟨_, ht, fun hv hu => .inl (by
    obtain ⟨rfl, _⟩ := arrb_form hv
    rfl)⟩
end
/-- whatever one cell holds, as it is; its zero is z -/
def Kd.rw (z : Value) (hz : z.oneCell' = true) : Kd Value where
  sz := 1
  agg := false
  R := fun _ v cs => cs = [v] ∧ v.oneCell' = true
  wf := fun _ => True
  z := z
  zc := [z]
  len := fun h => by simp [h.1]
  mono := fun _ h => h
  one := fun h => by simp [h.1, h.2]
  hwf := fun _ => trivial
  hz := fun _ => ⟨rfl, hz⟩
  hs := fun _ => rfl
abbrev Kd.rsl : Kd Value := Kd.rw (.slice none 0 0) rfl
abbrev Kd.rmp : Kd Value := Kd.rw (.map none) rfl
abbrev Kd.rpt : Kd Value := Kd.rw (.pointer none) rfl
section
variable {K : Ghost} {v z s : Value} {hz : z.oneCell' = true}
theorem rw_V (h : v.oneCell' = true) : (Kd.rw z hz).V K v v := ⟨[v], ⟨rfl, h⟩, rfl⟩
theorem rw_form (h : (Kd.rw z hz).V K s v) : s = v := by
  obtain ⟨cs, ⟨rfl, _⟩, rfl⟩ := h
  rfl
end
theorem Own.one {α : Type} {k : Kd α} {e : TypeId} {w : World} {K : Ghost} {x : List α} {v : Value} (h : Own k e w K x v) : v.oneCell' = true := by
  rcases h.2.2 with ⟨A, rfl, _⟩ | ⟨_, _, _, _, _, rfl, _⟩ <;> rfl
theorem Mp.one {κ ν : Type} {kk : Kd κ} {kv : Kd ν} {w : World} {K : Ghost} {m : List (κ × ν)} {v : Value} (h : Mp kk kv w K m v) : v.oneCell' = true := by
  rcases h with ⟨rfl, _⟩ | ⟨_, _, _, rfl, _⟩ <;> rfl
end Go.Inc
