/-
  BASE 1: ghost knowledge of memory, kinds of data, and how they lie in cells. Plain definitions and theorems; no program in sight.
-/
import Derived.WalkKit
import Derived.Deep.Draws
import Derived.OrdersHeld
import Derived.Deep.RegionHeld3
set_option linter.unusedVariables false
namespace Go.Inc
open Go Go.RowKit

/-- What is known for good: block -> (element type, its first cells). -/
abbrev Ghost := Nat → Option (TypeId × List Value)

def Ghost.le (K K' : Ghost) : Prop := ∀ b t l, K b = some (t, l) → ∃ l', K' b = some (t, l') ∧ l <+: l'
theorem Ghost.le.refl (K : Ghost) : K.le K := fun b t l h => ⟨l, h, List.prefix_refl l⟩
theorem Ghost.le.trans {K K' K'' : Ghost} (h : K.le K') (h' : K'.le K'') : K.le K'' := fun b t l hb => by
  obtain ⟨l1, h1, p1⟩ := h b t l hb
  obtain ⟨l2, h2, p2⟩ := h' b t l1 h1
  exact ⟨l2, h2, p1.trans p2⟩

def Ghost.set (K : Ghost) (b : Nat) (t : TypeId) (l : List Value) : Ghost := fun c => if c = b then some (t, l) else K c
theorem Ghost.set_same (K : Ghost) (b : Nat) (t : TypeId) (l : List Value) : (K.set b t l) b = some (t, l) := by simp [Ghost.set]
theorem Ghost.set_other (K : Ghost) {b c : Nat} (t : TypeId) (l : List Value) (h : c ≠ b) : (K.set b t l) c = K c := by simp [Ghost.set, h]
theorem Ghost.le_set_new {K : Ghost} {b : Nat} (h : K b = none) (t : TypeId) (l : List Value) : K.le (K.set b t l) := fun c t' l' hc => by
  have hne : c ≠ b := fun e => by subst e; rw [h] at hc; cases hc
  exact ⟨l', by rw [Ghost.set_other _ _ _ hne]; exact hc, List.prefix_refl _⟩
theorem Ghost.le_set_more {K : Ghost} {b : Nat} {t : TypeId} {l l' : List Value} (h : K b = some (t, l)) (hp : l <+: l') : K.le (K.set b t l') := fun c t' l1 hc => by
  by_cases e : c = b
  · subst e
    rw [h] at hc
    cases hc
    exact ⟨l', Ghost.set_same _ _ _ _, hp⟩
  · exact ⟨l1, by rw [Ghost.set_other _ _ _ e]; exact hc, List.prefix_refl _⟩

def Models (w : World) (K : Ghost) : Prop := ∀ b t l, K b = some (t, l) → ∃ c fr, w.heap[b]? = some (.cells c t fr) ∧ l <+: c.toList
theorem Models.lt {w : World} {K : Ghost} (h : Models w K) {b : Nat} {t : TypeId} {l : List Value} (hb : K b = some (t, l)) : b < w.heap.size := by
  obtain ⟨c, fr, hc, _⟩ := h b t l hb
  exact (Array.getElem?_eq_some_iff.1 hc).1
theorem Models.none_of_ge {w : World} {K : Ghost} (h : Models w K) {b : Nat} (hb : w.heap.size ≤ b) : K b = none := by
  cases hk : K b with
  | none => rfl
  | some p => exact absurd (h.lt (t := p.1) (l := p.2) hk) (by omega)

/-- how many bytes, elements there are at most -/
def LM : Nat := 281474976710656

/-- elements, one behind the other -/
def RL {α : Type} (R : α → List Value → Prop) : List α → List Value → Prop
  | [], cs => cs = []
  | x :: xs, cs => ∃ c1 c2, cs = c1 ++ c2 ∧ R x c1 ∧ RL R xs c2

/-- A kind of data. -/
structure Kd (α : Type) where
  sz : Nat
  agg : Bool
  R : Ghost → α → List Value → Prop
  wf : α → Prop
  z : α
  zc : List Value
  len : ∀ {K x cs}, R K x cs → cs.length = sz
  mono : ∀ {K K' : Ghost} {x cs}, K.le K' → R K x cs → R K' x cs
  one : ∀ {K x cs}, R K x cs → ∀ v ∈ cs, v.oneCell' = true
  hwf : ∀ {K x cs}, R K x cs → wf x
  hz : ∀ K, R K z zc
  hs : agg = false → sz = 1

theorem RL.len {α : Type} {R : α → List Value → Prop} {n : Nat} (hR : ∀ x cs, R x cs → cs.length = n) : ∀ {xs cs}, RL R xs cs → cs.length = xs.length * n
  | [], cs, h => by simp [RL] at h; simp [h]
  | x :: xs, cs, h => by
    obtain ⟨c1, c2, rfl, h1, h2⟩ := h
    rw [List.length_append, hR _ _ h1, RL.len hR h2, List.length_cons, Nat.add_mul, Nat.one_mul, Nat.add_comm]
theorem RL.mono {α : Type} {R R' : α → List Value → Prop} (hR : ∀ x cs, R x cs → R' x cs) : ∀ {xs cs}, RL R xs cs → RL R' xs cs
  | [], cs, h => h
  | x :: xs, cs, h => by
    obtain ⟨c1, c2, rfl, h1, h2⟩ := h
    exact ⟨c1, c2, rfl, hR _ _ h1, RL.mono hR h2⟩
theorem RL.one {α : Type} {R : α → List Value → Prop} {p : Value → Prop} (hR : ∀ x cs, R x cs → ∀ v ∈ cs, p v) : ∀ {xs cs}, RL R xs cs → ∀ v ∈ cs, p v
  | [], cs, h => by simp [RL] at h; simp [h]
  | x :: xs, cs, h => by
    obtain ⟨c1, c2, rfl, h1, h2⟩ := h
    intro v hv
    rcases List.mem_append.1 hv with hv | hv
    · exact hR _ _ h1 v hv
    · exact RL.one hR h2 v hv
theorem RL.all {α : Type} {R : α → List Value → Prop} {p : α → Prop} (hR : ∀ x cs, R x cs → p x) : ∀ {xs cs}, RL R xs cs → ∀ x ∈ xs, p x
  | [], cs, h => by simp
  | x :: xs, cs, h => by
    obtain ⟨c1, c2, rfl, h1, h2⟩ := h
    intro y hy
    rcases List.mem_cons.1 hy with rfl | hy
    · exact hR _ _ h1
    · exact RL.all hR h2 y hy
theorem RL.append {α : Type} {R : α → List Value → Prop} : ∀ {xs ys cs ds}, RL R xs cs → RL R ys ds → RL R (xs ++ ys) (cs ++ ds)
  | [], ys, cs, ds, h, h' => by simp [RL] at h; simpa [h] using h'
  | x :: xs, ys, cs, ds, h, h' => by
    obtain ⟨c1, c2, rfl, h1, h2⟩ := h
    exact ⟨c1, c2 ++ ds, by simp, h1, RL.append h2 h'⟩
theorem RL.single {α : Type} {R : α → List Value → Prop} {x cs} (h : R x cs) : RL R [x] cs := ⟨cs, [], by simp, h, rfl⟩
/-- a middle piece -/
theorem RL.split {α : Type} {R : α → List Value → Prop} {n : Nat} (hR : ∀ x cs, R x cs → cs.length = n) : ∀ {xs cs} (k : Nat), RL R xs cs → RL R (xs.take k) (cs.take (k * n)) ∧ RL R (xs.drop k) (cs.drop (k * n))
  | [], cs, k, h => by simp [RL] at h; simp [h, RL]
  | x :: xs, cs, 0, h => by simpa [RL] using h
  | x :: xs, cs, k + 1, h => by
    obtain ⟨c1, c2, rfl, h1, h2⟩ := h
    have hl := hR _ _ h1
    obtain ⟨i1, i2⟩ := RL.split hR k h2
    have e : (k + 1) * n = c1.length + k * n := by rw [Nat.add_mul, Nat.one_mul, hl, Nat.add_comm]
    have t1 : (c1 ++ c2).take (c1.length + k * n) = c1 ++ c2.take (k * n) := List.take_length_add_append _
    have t2 : (c1 ++ c2).drop (c1.length + k * n) = c2.drop (k * n) := List.drop_length_add_append _
    rw [e, t1, t2]
    exact ⟨⟨c1, _, rfl, h1, i1⟩, i2⟩
theorem RL.get {α : Type} {R : α → List Value → Prop} {n : Nat} (hR : ∀ x cs, R x cs → cs.length = n) {xs cs} (h : RL R xs cs) (k : Nat) (hk : k < xs.length) : R xs[k] ((cs.drop (k * n)).take n) := by
  have h2 := (RL.split hR k h).2
  rw [List.drop_eq_getElem_cons hk] at h2
  obtain ⟨c1, c2, e, h1, _⟩ := h2
  rw [e, List.take_append, List.take_of_length_le (by rw [hR _ _ h1]; exact Nat.le_refl _), hR _ _ h1]
  simpa using h1
theorem RL.replicate {α : Type} {R : α → List Value → Prop} {z : α} {zc : List Value} (hz : R z zc) : ∀ n, RL R (List.replicate n z) (List.replicate n zc).flatten
  | 0 => by simp [RL]
  | n + 1 => by
    rw [List.replicate_succ, List.replicate_succ, List.flatten_cons]
    exact ⟨zc, _, rfl, hz, RL.replicate hz n⟩
theorem RL.set {α : Type} {R : α → List Value → Prop} {n : Nat} (hR : ∀ x cs, R x cs → cs.length = n) {x : α} {c : List Value} (hx : R x c) : ∀ {xs cs} (k : Nat), k < xs.length → RL R xs cs → RL R (xs.set k x) (cs.take (k * n) ++ c ++ cs.drop ((k + 1) * n))
  | [], cs, k, hk, h => by simp at hk
  | y :: xs, cs, 0, hk, h => by
    obtain ⟨c1, c2, rfl, h1, h2⟩ := h
    have hl := hR _ _ h1
    refine ⟨c, c2, ?_, hx, h2⟩
    simp [← hl]
  | y :: xs, cs, k + 1, hk, h => by
    obtain ⟨c1, c2, rfl, h1, h2⟩ := h
    have hl := hR _ _ h1
    have ih := RL.set hR hx k (by simpa using hk) h2
    have e : (k + 1) * n = c1.length + k * n := by rw [Nat.add_mul, Nat.one_mul, hl, Nat.add_comm]
    have e' : (k + 1 + 1) * n = c1.length + (k + 1) * n := by rw [Nat.add_mul (k + 1), Nat.one_mul, hl, Nat.add_comm]
    refine ⟨c1, _, ?_, h1, ih⟩
    have t1 : (c1 ++ c2).take (c1.length + k * n) = c1 ++ c2.take (k * n) := List.take_length_add_append _
    have t2 : (c1 ++ c2).drop (c1.length + (k + 1) * n) = c2.drop ((k + 1) * n) := List.drop_length_add_append _
    rw [e', t2, e, t1]
    simp

def Kd.V {α : Type} (k : Kd α) (K : Ghost) (x : α) (v : Value) : Prop := ∃ cs, k.R K x cs ∧ v = (if k.agg then .agg cs.toArray else cs.headD undef)
theorem Kd.V.mono {α : Type} {k : Kd α} {K K' : Ghost} {x : α} {v : Value} (h : k.V K x v) (hle : K.le K') : k.V K' x v := by
  obtain ⟨cs, h, e⟩ := h
  exact ⟨cs, k.mono hle h, e⟩
theorem Kd.V.wf {α : Type} {k : Kd α} {K : Ghost} {x : α} {v : Value} (h : k.V K x v) : k.wf x := by
  obtain ⟨cs, h, e⟩ := h
  exact k.hwf h
theorem one_cells {v : Value} (h : v.oneCell' = true) : v.cells = #[v] := by cases v <;> simp_all [Value.oneCell', Value.cells]
/-- the cells of a value -/
theorem Kd.V.cells {α : Type} {k : Kd α} {K : Ghost} {x : α} {v : Value} (h : k.V K x v) : k.R K x v.cells.toList := by
  obtain ⟨cs, h, e⟩ := h
  cases ha : k.agg with
  | true =>
    simp only [ha, if_true] at e
    subst e
    simpa [Value.cells] using h
  | false =>
    simp only [ha, Bool.false_eq_true, if_false] at e
    have hl := k.len h
    rw [k.hs ha] at hl
    obtain ⟨u, rfl⟩ := List.length_eq_one_iff.1 hl
    simp only [List.headD_cons] at e
    subst e
    rw [one_cells (k.one h _ (by simp))]
    exact h
theorem Kd.V.size {α : Type} {k : Kd α} {K : Ghost} {x : α} {v : Value} (h : k.V K x v) : v.cells.size = k.sz := by
  have := k.len h.cells
  simpa using this
theorem Kd.V.mk {α : Type} {k : Kd α} {K : Ghost} {x : α} {cs : List Value} (h : k.R K x cs) (ha : k.agg = true) : k.V K x (.agg cs.toArray) := ⟨cs, h, by simp [ha]⟩
theorem Kd.V.mk1 {α : Type} {k : Kd α} {K : Ghost} {x : α} {v : Value} (h : k.R K x [v]) (ha : k.agg = false) : k.V K x v := ⟨[v], h, by simp [ha]⟩
theorem Kd.V.un1 {α : Type} {k : Kd α} {K : Ghost} {x : α} {v : Value} (h : k.V K x v) (ha : k.agg = false) : k.R K x [v] := by
  have hc := h.cells
  obtain ⟨cs, h, e⟩ := h
  simp only [ha, Bool.false_eq_true, if_false] at e
  have hl := k.len h
  rw [k.hs ha] at hl
  obtain ⟨u, rfl⟩ := List.length_eq_one_iff.1 hl
  subst e
  exact h

/-! ### the kinds -/
def Kd.int (k : IntKind) : Kd Int where
  sz := 1
  agg := false
  R := fun _ n cs => cs = [.int k n] ∧ k.min ≤ n ∧ n ≤ k.max
  wf := fun n => k.min ≤ n ∧ n ≤ k.max
  z := 0
  zc := [.int k 0]
  len := fun h => by simp [h.1]
  mono := fun _ h => h
  one := fun h => by simp [h.1, Value.oneCell']
  hwf := fun h => h.2
  hz := fun _ => ⟨rfl, by cases k <;> decide, by cases k <;> decide⟩
  hs := fun _ => rfl
def Kd.byte : Kd UInt8 where
  sz := 1
  agg := false
  R := fun _ n cs => cs = [.int .u8 (n.toNat : Int)]
  wf := fun _ => True
  z := 0
  zc := [.int .u8 0]
  len := fun h => by simp [h]
  mono := fun _ h => h
  one := fun h => by simp [h, Value.oneCell']
  hwf := fun _ => trivial
  hz := fun _ => rfl
  hs := fun _ => rfl
def Kd.bool : Kd Bool where
  sz := 1
  agg := false
  R := fun _ n cs => cs = [.bool n]
  wf := fun _ => True
  z := false
  zc := [.bool false]
  len := fun h => by simp [h]
  mono := fun _ h => h
  one := fun h => by simp [h, Value.oneCell']
  hwf := fun _ => trivial
  hz := fun _ => rfl
  hs := fun _ => rfl
/-- a string: its bytes -/
def Kd.str : Kd (List UInt8) where
  sz := 1
  agg := false
  R := fun _ s cs => cs = [.string ⟨s.toArray⟩] ∧ s.length ≤ LM
  wf := fun s => s.length ≤ LM
  z := []
  zc := [.string ⟨#[]⟩]
  len := fun h => by simp [h.1]
  mono := fun _ h => h
  one := fun h => by simp [h.1, Value.oneCell']
  hwf := fun h => h.2
  hz := fun _ => ⟨rfl, by simp [LM]⟩
  hs := fun _ => rfl
/-- whatever one cell holds, as it is -/
def Kd.raw : Kd Value where
  sz := 1
  agg := false
  R := fun _ v cs => cs = [v] ∧ v.oneCell' = true
  wf := fun _ => True
  z := .nilFunc
  zc := [.nilFunc]
  len := fun h => by simp [h.1]
  mono := fun _ h => h
  one := fun h => by simp [h.1, h.2]
  hwf := fun _ => trivial
  hz := fun _ => ⟨rfl, rfl⟩
  hs := fun _ => rfl
/-- an array -/
def Kd.arr {α : Type} (n : Nat) (k : Kd α) : Kd (List α) where
  sz := n * k.sz
  agg := true
  R := fun K l cs => l.length = n ∧ RL (k.R K) l cs
  wf := fun l => l.length = n ∧ ∀ x ∈ l, k.wf x
  z := List.replicate n k.z
  zc := (List.replicate n k.zc).flatten
  len := fun h => by rw [RL.len (fun _ _ => k.len) h.2, h.1]
  mono := fun hle h => ⟨h.1, RL.mono (fun _ _ => k.mono hle) h.2⟩
  one := fun h => RL.one (fun _ _ => k.one) h.2
  hwf := fun h => ⟨h.1, RL.all (p := k.wf) (fun _ _ => k.hwf) h.2⟩
  hz := fun K => ⟨by simp, RL.replicate (k.hz K) n⟩
  hs := fun h => by cases h
/-- what a slice's address leads to -/
def Kd.S {α : Type} (k : Kd α) (K : Ghost) (l : List α) (A : Option Addr) : Prop :=
  l = [] ∨ ∃ b e pre mid post, A = some ⟨b, pre.length, none⟩ ∧ K b = some (e, pre ++ mid ++ post) ∧ RL (k.R K) l mid
theorem Kd.S.mono {α : Type} {k : Kd α} {K K' : Ghost} {l : List α} {A : Option Addr} (hle : K.le K') (h : k.S K l A) : k.S K' l A := by
  rcases h with h | ⟨b, e, pre, mid, post, hA, hK, hR⟩
  · exact .inl h
  · obtain ⟨l', h', p, rfl⟩ := hle _ _ _ hK
    exact .inr ⟨b, e, pre, mid, post ++ p, hA, by rw [h']; simp, RL.mono (fun _ _ => k.mono hle) hR⟩
def Kd.sl {α : Type} (k : Kd α) : Kd (List α) where
  sz := 1
  agg := false
  R := fun K l cs => ∃ A cap, cs = [.slice A l.length cap] ∧ l.length ≤ cap ∧ l.length ≤ LM ∧ (∀ x ∈ l, k.wf x) ∧ k.S K l A
  wf := fun l => l.length ≤ LM ∧ ∀ x ∈ l, k.wf x
  z := []
  zc := [.slice none 0 0]
  len := fun ⟨_, _, h, _⟩ => by simp [h]
  mono := fun hle ⟨A, cap, h1, h2, h3, h4, h5⟩ => ⟨A, cap, h1, h2, h3, h4, h5.mono hle⟩
  one := fun ⟨_, _, h, _⟩ => by simp [h, Value.oneCell']
  hwf := fun ⟨_, _, _, _, h3, h4, _⟩ => ⟨h3, h4⟩
  hz := fun _ => ⟨none, 0, rfl, by simp, by simp [LM], by simp, .inl rfl⟩
  hs := fun _ => rfl
/-- a struct's fields, one behind the other -/
def Kd.pr {α β : Type} (a : Kd α) (b : Kd β) : Kd (α × β) where
  sz := a.sz + b.sz
  agg := true
  R := fun K x cs => ∃ c1 c2, cs = c1 ++ c2 ∧ a.R K x.1 c1 ∧ b.R K x.2 c2
  wf := fun x => a.wf x.1 ∧ b.wf x.2
  z := (a.z, b.z)
  zc := a.zc ++ b.zc
  len := fun ⟨c1, c2, e, h1, h2⟩ => by rw [e, List.length_append, a.len h1, b.len h2]
  mono := fun hle ⟨c1, c2, e, h1, h2⟩ => ⟨c1, c2, e, a.mono hle h1, b.mono hle h2⟩
  one := fun ⟨c1, c2, e, h1, h2⟩ v hv => by
    rw [e] at hv
    rcases List.mem_append.1 hv with h | h
    · exact a.one h1 v h
    · exact b.one h2 v h
  hwf := fun ⟨c1, c2, e, h1, h2⟩ => ⟨a.hwf h1, b.hwf h2⟩
  hz := fun K => ⟨a.zc, b.zc, rfl, a.hz K, b.hz K⟩
  hs := fun h => by cases h
/-- a struct of one field -/
def Kd.st {α : Type} (a : Kd α) : Kd α := { a with agg := true, hs := fun h => by cases h }
/-- a struct without fields -/
def Kd.un : Kd Unit where
  sz := 0
  agg := true
  R := fun _ _ cs => cs = []
  wf := fun _ => True
  z := ()
  zc := []
  len := fun h => by simp [h]
  mono := fun _ h => h
  one := fun h => by simp [h]
  hwf := fun _ => trivial
  hz := fun _ => rfl
  hs := fun h => by cases h

end Go.Inc
