/- B1, B2, B3, B4, B5, B6, B7, B8, B9, B10, B11, B12, B13, B14, B15, B16, B17, B18, B19, P1, P2, P3, P4, B20, B21, B22. -/
import Derived.WalkKit
import Derived.Deep.Draws
import Derived.OrdersHeld
import Derived.Deep.RegionHeld3
import Derived.CallsIn
set_option linter.unusedVariables false
namespace Go.Inc
open Go Go.RowKit
abbrev Ghost:=Nat→Option (TypeId×List Value)
def Ghost.le (K K':Ghost):Prop:=∀b t l,K b=some (t,l)→∃l',K' b=some (t,l')∧l<+:l'
theorem Ghost.le.refl (K:Ghost):K.le K:=fun b t l h=>⟨l,h,List.prefix_refl l⟩
theorem Ghost.le.trans {K K' K'':Ghost} (h:K.le K') (h':K'.le K''):K.le K'':=fun b t l hb=>by
 obtain ⟨l1,h1,p1⟩:=h b t l hb
 obtain ⟨l2,h2,p2⟩:=h' b t l1 h1
 exact ⟨l2,h2,p1.trans p2⟩
def Ghost.set (K:Ghost) (b:Nat) (t:TypeId) (l:List Value):Ghost:=fun c=>if c=b then some (t,l) else K c
theorem Ghost.set_same (K:Ghost) (b:Nat) (t:TypeId) (l:List Value):(K.set b t l) b=some (t,l):=by simp [Ghost.set]
theorem Ghost.set_other (K:Ghost) {b c:Nat} (t:TypeId) (l:List Value) (h:c≠b):(K.set b t l) c=K c:=by simp [Ghost.set,h]
theorem Ghost.le_set_new {K:Ghost} {b:Nat} (h:K b=none) (t:TypeId) (l:List Value):K.le (K.set b t l):=fun c t' l' hc=>by
 have hne:c≠b:=fun e=>by subst e;rw [h] at hc;cases hc
 exact ⟨l',by rw [Ghost.set_other _ _ _ hne];exact hc,List.prefix_refl _⟩
theorem Ghost.le_set_more {K:Ghost} {b:Nat} {t:TypeId} {l l':List Value} (h:K b=some (t,l)) (hp:l<+:l'):K.le (K.set b t l'):=fun c t' l1 hc=>by
 by_cases e:c=b
 ·subst e
  rw [h] at hc
  cases hc
  exact ⟨l',Ghost.set_same _ _ _ _,hp⟩
 ·exact ⟨l1,by rw [Ghost.set_other _ _ _ e];exact hc,List.prefix_refl _⟩
def Models (w:World) (K:Ghost):Prop:=∀b t l,K b=some (t,l)→∃c fr,w.heap[b]?=some (.cells c t fr)∧l<+:c.toList
theorem Models.lt {w:World} {K:Ghost} (h:Models w K) {b:Nat} {t:TypeId} {l:List Value} (hb:K b=some (t,l)):b<w.heap.size:=by
 obtain ⟨c,fr,hc,_⟩:=h b t l hb
 exact (Array.getElem?_eq_some_iff.1 hc).1
theorem Models.none_of_ge {w:World} {K:Ghost} (h:Models w K) {b:Nat} (hb:w.heap.size≤b):K b=none:=by
 cases hk:K b with
 | none=>rfl
 | some p=>exact absurd (h.lt (t:=p.1) (l:=p.2) hk) (by omega)
def LM:Nat:=281474976710656
def RL {α:Type} (R:α→List Value→Prop):List α→List Value→Prop
 | [],cs=>cs=[]
 | x::xs,cs=> ∃c1 c2,cs=c1++c2∧R x c1∧RL R xs c2
structure Kd (α:Type) where
 sz:Nat
 agg:Bool
 R:Ghost→α→List Value→Prop
 wf:α→Prop
 z:α
 zc:List Value
 len: ∀ {K x cs},R K x cs→cs.length=sz
 mono: ∀ {K K':Ghost} {x cs},K.le K'→R K x cs→R K' x cs
 one: ∀ {K x cs},R K x cs→∀v∈cs,v.oneCell'=true
 hwf: ∀ {K x cs},R K x cs→wf x
 hz: ∀K,R K z zc
 hs:agg=false→sz=1
theorem RL.len {α:Type} {R:α→List Value→Prop} {n:Nat} (hR: ∀x cs,R x cs→cs.length=n): ∀ {xs cs},RL R xs cs→cs.length=xs.length *n
 | [],cs,h=>by simp [RL] at h;simp [h]
 | x::xs,cs,h=>by
   obtain ⟨c1,c2,rfl,h1,h2⟩:=h
   rw [List.length_append,hR _ _ h1,RL.len hR h2,List.length_cons,Nat.add_mul,Nat.one_mul,Nat.add_comm]
theorem RL.mono {α:Type} {R R':α→List Value→Prop} (hR: ∀x cs,R x cs→R' x cs): ∀ {xs cs},RL R xs cs→RL R' xs cs
 | [],cs,h=>h
 | x::xs,cs,h=>by
   obtain ⟨c1,c2,rfl,h1,h2⟩:=h
   exact ⟨c1,c2,rfl,hR _ _ h1,RL.mono hR h2⟩
theorem RL.one {α:Type} {R:α→List Value→Prop} {p:Value→Prop} (hR: ∀x cs,R x cs→∀v∈cs,p v): ∀ {xs cs},RL R xs cs→∀v∈cs,p v
 | [],cs,h=>by simp [RL] at h;simp [h]
 | x::xs,cs,h=>by
   obtain ⟨c1,c2,rfl,h1,h2⟩:=h
   intro v hv
   rcases List.mem_append.1 hv with hv | hv
   ·exact hR _ _ h1 v hv
   ·exact RL.one hR h2 v hv
theorem RL.all {α:Type} {R:α→List Value→Prop} {p:α→Prop} (hR: ∀x cs,R x cs→p x): ∀ {xs cs},RL R xs cs→∀x∈xs,p x
 | [],cs,h=>by simp
 | x::xs,cs,h=>by
   obtain ⟨c1,c2,rfl,h1,h2⟩:=h
   intro y hy
   rcases List.mem_cons.1 hy with rfl | hy
   ·exact hR _ _ h1
   ·exact RL.all hR h2 y hy
theorem RL.append {α:Type} {R:α→List Value→Prop}: ∀ {xs ys cs ds},RL R xs cs→RL R ys ds→RL R (xs++ys) (cs++ds)
 | [],ys,cs,ds,h,h'=>by simp [RL] at h;simpa [h] using h'
 | x::xs,ys,cs,ds,h,h'=>by
   obtain ⟨c1,c2,rfl,h1,h2⟩:=h
   exact ⟨c1,c2++ds,by simp,h1,RL.append h2 h'⟩
theorem RL.single {α:Type} {R:α→List Value→Prop} {x cs} (h:R x cs):RL R [x] cs:=⟨cs,[],by simp,h,rfl⟩
theorem RL.split {α:Type} {R:α→List Value→Prop} {n:Nat} (hR: ∀x cs,R x cs→cs.length=n): ∀ {xs cs} (k:Nat),RL R xs cs→RL R (xs.take k) (cs.take (k *n))∧RL R (xs.drop k) (cs.drop (k *n))
 | [],cs,k,h=>by simp [RL] at h;simp [h,RL]
 | x::xs,cs,0,h=>by simpa [RL] using h
 | x::xs,cs,k+1,h=>by
   obtain ⟨c1,c2,rfl,h1,h2⟩:=h
   have hl:=hR _ _ h1
   obtain ⟨i1,i2⟩:=RL.split hR k h2
   have e:(k+1) *n=c1.length+k *n:=by rw [Nat.add_mul,Nat.one_mul,hl,Nat.add_comm]
   have t1:(c1++c2).take (c1.length+k *n)=c1++c2.take (k *n):=List.take_length_add_append _
   have t2:(c1++c2).drop (c1.length+k *n)=c2.drop (k *n):=List.drop_length_add_append _
   rw [e,t1,t2]
   exact ⟨⟨c1,_,rfl,h1,i1⟩,i2⟩
theorem RL.get {α:Type} {R:α→List Value→Prop} {n:Nat} (hR: ∀x cs,R x cs→cs.length=n) {xs cs} (h:RL R xs cs) (k:Nat) (hk:k<xs.length):R xs[k] ((cs.drop (k *n)).take n):=by
 have h2:=(RL.split hR k h).2
 rw [List.drop_eq_getElem_cons hk] at h2
 obtain ⟨c1,c2,e,h1,_⟩:=h2
 rw [e,List.take_append,List.take_of_length_le (by rw [hR _ _ h1];exact Nat.le_refl _),hR _ _ h1]
 simpa using h1
theorem RL.replicate {α:Type} {R:α→List Value→Prop} {z:α} {zc:List Value} (hz:R z zc): ∀n,RL R (List.replicate n z) (List.replicate n zc).flatten
 | 0=>by simp [RL]
 | n+1=>by
   rw [List.replicate_succ,List.replicate_succ,List.flatten_cons]
   exact ⟨zc,_,rfl,hz,RL.replicate hz n⟩
theorem RL.set {α:Type} {R:α→List Value→Prop} {n:Nat} (hR: ∀x cs,R x cs→cs.length=n) {x:α} {c:List Value} (hx:R x c): ∀ {xs cs} (k:Nat),k<xs.length→RL R xs cs→RL R (xs.set k x) (cs.take (k *n)++c++cs.drop ((k+1) *n))
 | [],cs,k,hk,h=>by simp at hk
 | y::xs,cs,0,hk,h=>by
   obtain ⟨c1,c2,rfl,h1,h2⟩:=h
   have hl:=hR _ _ h1
   refine ⟨c,c2,?_,hx,h2⟩
   simp [←hl]
 | y::xs,cs,k+1,hk,h=>by
   obtain ⟨c1,c2,rfl,h1,h2⟩:=h
   have hl:=hR _ _ h1
   have ih:=RL.set hR hx k (by simpa using hk) h2
   have e:(k+1) *n=c1.length+k *n:=by rw [Nat.add_mul,Nat.one_mul,hl,Nat.add_comm]
   have e':(k+1+1) *n=c1.length+(k+1) *n:=by rw [Nat.add_mul (k+1),Nat.one_mul,hl,Nat.add_comm]
   refine ⟨c1,_,?_,h1,ih⟩
   have t1:(c1++c2).take (c1.length+k *n)=c1++c2.take (k *n):=List.take_length_add_append _
   have t2:(c1++c2).drop (c1.length+(k+1) *n)=c2.drop ((k+1) *n):=List.drop_length_add_append _
   rw [e',t2,e,t1]
   simp
def Kd.V {α:Type} (k:Kd α) (K:Ghost) (x:α) (v:Value):Prop:=∃cs,k.R K x cs∧v=(if k.agg then .agg cs.toArray else cs.headD undef)
theorem Kd.V.mono {α:Type} {k:Kd α} {K K':Ghost} {x:α} {v:Value} (h:k.V K x v) (hle:K.le K'):k.V K' x v:=by
 obtain ⟨cs,h,e⟩:=h
 exact ⟨cs,k.mono hle h,e⟩
theorem Kd.V.wf {α:Type} {k:Kd α} {K:Ghost} {x:α} {v:Value} (h:k.V K x v):k.wf x:=by
 obtain ⟨cs,h,e⟩:=h
 exact k.hwf h
theorem qct {v:Value} (h:v.oneCell'=true):v.cells= #[v]:=by cases v<;>simp_all [Value.oneCell',Value.cells]
theorem Kd.V.cells {α:Type} {k:Kd α} {K:Ghost} {x:α} {v:Value} (h:k.V K x v):k.R K x v.cells.toList:=by
 obtain ⟨cs,h,e⟩:=h
 cases ha:k.agg with
 | true=>
   simp only [ha,if_true] at e
   subst e
   simpa [Value.cells] using h
 | false=>
   simp only [ha,Bool.false_eq_true,if_false] at e
   have hl:=k.len h
   rw [k.hs ha] at hl
   obtain ⟨u,rfl⟩:=List.length_eq_one_iff.1 hl
   simp only [List.headD_cons] at e
   subst e
   rw [qct (k.one h _ (by simp))]
   exact h
theorem Kd.V.size {α:Type} {k:Kd α} {K:Ghost} {x:α} {v:Value} (h:k.V K x v):v.cells.size=k.sz:=by
 have:=k.len h.cells
 simpa using this
theorem Kd.V.mk {α:Type} {k:Kd α} {K:Ghost} {x:α} {cs:List Value} (h:k.R K x cs) (ha:k.agg=true):k.V K x (.agg cs.toArray):=⟨cs,h,by simp [ha]⟩
theorem Kd.V.mk1 {α:Type} {k:Kd α} {K:Ghost} {x:α} {v:Value} (h:k.R K x [v]) (ha:k.agg=false):k.V K x v:=⟨[v],h,by simp [ha]⟩
theorem Kd.V.un1 {α:Type} {k:Kd α} {K:Ghost} {x:α} {v:Value} (h:k.V K x v) (ha:k.agg=false):k.R K x [v]:=by
 have hc:=h.cells
 obtain ⟨cs,h,e⟩:=h
 simp only [ha,Bool.false_eq_true,if_false] at e
 have hl:=k.len h
 rw [k.hs ha] at hl
 obtain ⟨u,rfl⟩:=List.length_eq_one_iff.1 hl
 subst e
 exact h
def Kd.int (k:IntKind):Kd Int where
 sz:=1
 agg:=false
 R:=fun _ n cs=>cs=[.int k n]∧k.min≤n∧n≤k.max
 wf:=fun n=>k.min≤n∧n≤k.max
 z:=0
 zc:=[.int k 0]
 len:=fun h=>by simp [h.1]
 mono:=fun _ h=>h
 one:=fun h=>by simp [h.1,Value.oneCell']
 hwf:=fun h=>h.2
 hz:=fun _=>⟨rfl,by cases k<;>decide,by cases k<;>decide⟩
 hs:=fun _=>rfl
def Kd.byte:Kd UInt8 where
 sz:=1
 agg:=false
 R:=fun _ n cs=>cs=[.int .u8 (n.toNat:Int)]
 wf:=fun _=>True
 z:=0
 zc:=[.int .u8 0]
 len:=fun h=>by simp [h]
 mono:=fun _ h=>h
 one:=fun h=>by simp [h,Value.oneCell']
 hwf:=fun _=>trivial
 hz:=fun _=>rfl
 hs:=fun _=>rfl
def Kd.bool:Kd Bool where
 sz:=1
 agg:=false
 R:=fun _ n cs=>cs=[.bool n]
 wf:=fun _=>True
 z:=false
 zc:=[.bool false]
 len:=fun h=>by simp [h]
 mono:=fun _ h=>h
 one:=fun h=>by simp [h,Value.oneCell']
 hwf:=fun _=>trivial
 hz:=fun _=>rfl
 hs:=fun _=>rfl
def Kd.str:Kd (List UInt8) where
 sz:=1
 agg:=false
 R:=fun _ s cs=>cs=[.string ⟨s.toArray⟩]∧s.length≤LM
 wf:=fun s=>s.length≤LM
 z:=[]
 zc:=[.string ⟨#[]⟩]
 len:=fun h=>by simp [h.1]
 mono:=fun _ h=>h
 one:=fun h=>by simp [h.1,Value.oneCell']
 hwf:=fun h=>h.2
 hz:=fun _=>⟨rfl,by simp [LM]⟩
 hs:=fun _=>rfl
def Kd.arr {α:Type} (n:Nat) (k:Kd α):Kd (List α) where
 sz:=n *k.sz
 agg:=true
 R:=fun K l cs=>l.length=n∧RL (k.R K) l cs
 wf:=fun l=>l.length=n∧∀x∈l,k.wf x
 z:=List.replicate n k.z
 zc:=(List.replicate n k.zc).flatten
 len:=fun h=>by rw [RL.len (fun _ _=>k.len) h.2,h.1]
 mono:=fun hle h=>⟨h.1,RL.mono (fun _ _=>k.mono hle) h.2⟩
 one:=fun h=>RL.one (fun _ _=>k.one) h.2
 hwf:=fun h=>⟨h.1,RL.all (p:=k.wf) (fun _ _=>k.hwf) h.2⟩
 hz:=fun K=>⟨by simp,RL.replicate (k.hz K) n⟩
 hs:=fun h=>by cases h
def Kd.S {α:Type} (k:Kd α) (K:Ghost) (l:List α) (A:Option Addr):Prop:=
 l=[]∨∃b e pre mid post,A=some ⟨b,pre.length,none⟩∧K b=some (e,pre++mid++post)∧RL (k.R K) l mid
theorem Kd.S.mono {α:Type} {k:Kd α} {K K':Ghost} {l:List α} {A:Option Addr} (hle:K.le K') (h:k.S K l A):k.S K' l A:=by
 rcases h with h | ⟨b,e,pre,mid,post,hA,hK,hR⟩
 ·exact .inl h
 ·obtain ⟨l',h',p,rfl⟩:=hle _ _ _ hK
  exact .inr ⟨b,e,pre,mid,post++p,hA,by rw [h'];simp,RL.mono (fun _ _=>k.mono hle) hR⟩
def Kd.sl {α:Type} (k:Kd α):Kd (List α) where
 sz:=1
 agg:=false
 R:=fun K l cs=> ∃A cap,cs=[.slice A l.length cap]∧l.length≤cap∧l.length≤LM∧(∀x∈l,k.wf x)∧k.S K l A
 wf:=fun l=>l.length≤LM∧∀x∈l,k.wf x
 z:=[]
 zc:=[.slice none 0 0]
 len:=fun ⟨_,_,h,_⟩=>by simp [h]
 mono:=fun hle ⟨A,cap,h1,h2,h3,h4,h5⟩=>⟨A,cap,h1,h2,h3,h4,h5.mono hle⟩
 one:=fun ⟨_,_,h,_⟩=>by simp [h,Value.oneCell']
 hwf:=fun ⟨_,_,_,_,h3,h4,_⟩=>⟨h3,h4⟩
 hz:=fun _=>⟨none,0,rfl,by simp,by simp [LM],by simp,.inl rfl⟩
 hs:=fun _=>rfl
def Kd.pr {α β:Type} (a:Kd α) (b:Kd β):Kd (α×β) where
 sz:=a.sz+b.sz
 agg:=true
 R:=fun K x cs=> ∃c1 c2,cs=c1++c2∧a.R K x.1 c1∧b.R K x.2 c2
 wf:=fun x=>a.wf x.1∧b.wf x.2
 z:=(a.z,b.z)
 zc:=a.zc++b.zc
 len:=fun ⟨c1,c2,e,h1,h2⟩=>by rw [e,List.length_append,a.len h1,b.len h2]
 mono:=fun hle ⟨c1,c2,e,h1,h2⟩=>⟨c1,c2,e,a.mono hle h1,b.mono hle h2⟩
 one:=fun ⟨c1,c2,e,h1,h2⟩ v hv=>by
  rw [e] at hv
  rcases List.mem_append.1 hv with h | h
  ·exact a.one h1 v h
  ·exact b.one h2 v h
 hwf:=fun ⟨c1,c2,e,h1,h2⟩=>⟨a.hwf h1,b.hwf h2⟩
 hz:=fun K=>⟨a.zc,b.zc,rfl,a.hz K,b.hz K⟩
 hs:=fun h=>by cases h
def Kd.st {α:Type} (a:Kd α):Kd α:={ a with agg:=true,hs:=fun h=>by cases h }
def Kd.un:Kd Unit where
 sz:=0
 agg:=true
 R:=fun _ _ cs=>cs=[]
 wf:=fun _=>True
 z:=()
 zc:=[]
 len:=fun h=>by simp [h]
 mono:=fun _ h=>h
 one:=fun h=>by simp [h]
 hwf:=fun _=>trivial
 hz:=fun _=>rfl
 hs:=fun h=>by cases h
end Go.Inc

set_option linter.unusedVariables false
namespace Go.Inc
open Go Go.RowKit
theorem qe9 (w:World) (o:Obj) {i:Nat} (h:i<w.heap.size):(w.alloc o).heap[i]?=w.heap[i]?:=by
 show (w.heap.push o)[i]?=w.heap[i]?
 rw [Array.getElem?_push,if_neg (Nat.ne_of_lt h)]
theorem qcI (w:World) (o:Obj):(w.alloc o).heap[w.heap.size]?=some o:=by
 show (w.heap.push o)[w.heap.size]?=some o
 simp
structure Ext (X:Nat→Prop) (w:World) (K:Ghost) (w':World) (K':Ghost):Prop where
 le:K.le K'
 heap: ∀b,b<w.heap.size→¬X b→w'.heap[b]?=w.heap[b]?
 ghost: ∀b,b<w.heap.size→¬X b→K' b=K b
 size:w.heap.size≤w'.heap.size
 os:w'.os=w.os
 tape:w'.tape=w.tape
 output:w'.output=w.output
def NX:Nat→Prop:=fun _=>False
theorem Ext.refl (X:Nat→Prop) (w:World) (K:Ghost):Ext X w K w K:=⟨Ghost.le.refl K,fun _ _ _=>rfl,fun _ _ _=>rfl,Nat.le_refl _,rfl,rfl,rfl⟩
section
variable {X Y:Nat→Prop} {w0 w w':World} {K0 K K':Ghost}
theorem Ext.comp (h:Ext X w0 K0 w K) (h':Ext Y w K w' K') (hY: ∀b,Y b→b<w0.heap.size→X b):Ext X w0 K0 w' K':=
 ⟨h.le.trans h'.le,fun b hb hx=>(h'.heap b (Nat.lt_of_lt_of_le hb h.size) (fun y=>hx (hY b y hb))).trans (h.heap b hb hx),
  fun b hb hx=>(h'.ghost b (Nat.lt_of_lt_of_le hb h.size) (fun y=>hx (hY b y hb))).trans (h.ghost b hb hx),
  Nat.le_trans h.size h'.size,h'.os.trans h.os,h'.tape.trans h.tape,h'.output.trans h.output⟩
theorem Ext.trans (h:Ext X w0 K0 w K) (h':Ext X w K w' K'):Ext X w0 K0 w' K':=h.comp h' (fun _ hb _=>hb)
theorem Ext.andN (h:Ext X w0 K0 w K) (h':Ext NX w K w' K'):Ext X w0 K0 w' K':=h.comp h' (fun _ hb _=>hb.elim)
theorem Ext.weak (h:Ext X w0 K0 w K) (hXY: ∀b,b<w0.heap.size→X b→Y b):Ext Y w0 K0 w K:=
 ⟨h.le,fun b hb hy=>h.heap b hb (fun x=>hy (hXY b hb x)),fun b hb hy=>h.ghost b hb (fun x=>hy (hXY b hb x)),h.size,h.os,h.tape,h.output⟩
theorem Ext.ofN (h:Ext NX w0 K0 w K):Ext X w0 K0 w K:=h.weak (fun _ _ x=>x.elim)
theorem Ext.drew (w:World) (K:Ghost):Ext X w K w.drew K:=⟨Ghost.le.refl K,fun _ _ _=>rfl,fun _ _ _=>rfl,Nat.le_refl _,rfl,rfl,rfl⟩
theorem Models.drew (h:Models w K):Models w.drew K:=h
theorem Ext.alloc (w:World) (K:Ghost) (o:Obj):Ext X w K (w.alloc o) K:=⟨Ghost.le.refl K,fun b hb _=>qe9 w o hb,fun _ _ _=>rfl,by simp,rfl,rfl,rfl⟩
theorem Models.alloc (h:Models w K) (o:Obj):Models (w.alloc o) K:=fun b t l hb=>by
 obtain ⟨c,fr,hc,hp⟩:=h b t l hb
 exact ⟨c,fr,(qe9 w o (h.lt hb)).trans hc,hp⟩
theorem Ext.allocRow (hM:Models w K) (e:TypeId) (cs:Array Value) (l:List Value):Ext X w K (w.alloc (.cells cs e)) (K.set w.heap.size e l):=
 ⟨Ghost.le_set_new (hM.none_of_ge (Nat.le_refl _)) _ _,fun b hb _=>qe9 w _ hb,fun b hb _=>Ghost.set_other _ _ _ (by omega),by simp,rfl,rfl,rfl⟩
theorem Models.allocRow (h:Models w K) (e:TypeId) (cs:Array Value) (l:List Value) (hl:l<+:cs.toList):Models (w.alloc (.cells cs e)) (K.set w.heap.size e l):=fun b t l' hb=>by
 by_cases he:b=w.heap.size
 ·subst he
  rw [Ghost.set_same] at hb
  cases hb
  exact ⟨cs,(0,0),qcI w _,hl⟩
 ·rw [Ghost.set_other _ _ _ he] at hb
  exact (h.alloc _) b t l' hb
theorem Ext.cells {b:Nat} {c:Array Value} {t:TypeId} {fr:Nat×Nat} (h:Ext X w K w' K') (hb:w.heap[b]?=some (.cells c t fr)) (hx: ¬X b):w'.heap[b]?=some (.cells c t fr):=
 (h.heap b (Array.getElem?_eq_some_iff.1 hb).1 hx).trans hb
end
abbrev Env:=Nat→Value
def ev (ρ:Env):Operand→Value
 | .tmp t=>ρ t
 | .const v=>v
 | .global g=> .pointer (some ⟨g,0,none⟩)
 | .func f=> .func (.func f) #[] #[]
def upd (ρ:Env) (d:Nat) (v:Value):Env:=fun t=>bif Nat.beq t d then v else ρ t
def updO (ρ:Env):Option Nat→Value→Env
 | some d,v=>upd ρ d v
 | none,_=>ρ
def qfI (args:List Value):Env:=fun t=>args.getD t undef
structure Fits (n:Nat) (ds:List Deferred) (ρ:Env) (a:Act):Prop where
 size:a.tmps.size=n
 defers:a.defers=ds
 get: ∀t,a.tmps.getD t undef=ρ t
section fits
variable {ds:List Deferred}
theorem Fits.eval {n:Nat} {ρ:Env} {a:Act} (h:Fits n ds ρ a):a.eval=ev ρ:=by
 funext o
 cases o with
 | tmp t=>exact h.get t
 | const v=>rfl
 | global g=>rfl
 | func f=>rfl
theorem qfh (ρ:Env) (d:Nat) (v:Value):upd ρ d v d=v:=by simp [upd]
theorem qgO (ρ:Env) {d t:Nat} (v:Value) (h:t≠d):upd ρ d v t=ρ t:=by
 simp only [upd]
 cases hb:Nat.beq t d with
 | true=>exact absurd (Nat.eq_of_beq_eq_true hb) h
 | false=>rfl
theorem Fits.upd {n:Nat} {ρ:Env} {a:Act} (h:Fits n ds ρ a) {d:Nat} (hd:d<n) (v:Value):Fits n ds (upd ρ d v) (a.put (some d) v):=by
 refine ⟨by simp [Act.put,h.size],h.defers,fun t=>?_⟩
 by_cases e:t=d
 ·subst e
  rw [qfh]
  have:t<a.tmps.size:=by rw [h.size];exact hd
  simp [Act.put,this]
 ·rw [qgO _ _ e,←h.get t]
  simp [Act.put,Array.getElem?_setIfInBounds_ne (Ne.symm e)]
def qbD (n:Nat):Option Nat→Bool
 | some d=>Nat.blt d n
 | none=>true
theorem Fits.updO {n:Nat} {ρ:Env} {a:Act} (h:Fits n ds ρ a) {d:Option Nat} (hd:qbD n d=true) (v:Value):Fits n ds (updO ρ d v) (a.put d v):=by
 cases d with
 | none=>exact h
 | some d=>exact h.upd (Nat.le_of_ble_eq_true hd) v
def qa5 (ops:Array Oper) (ρ:Env) (j:Nat):Option Bool:=
 match (ops[j]?).bind (·.dst) with
 | some d=>match ρ d with
   | .bool b=>some b
   | _=>none
 | none=>none
theorem Fits.yielded {n:Nat} {ρ:Env} {a:Act} (h:Fits n ds ρ a) (ops:Array Oper):yielded ops a.tmps=qa5 ops ρ:=by
 funext j
 unfold Go.yielded qa5
 cases hd:(ops[j]?).bind (·.dst) with
 | none=>rfl
 | some d=>
   have hg:=h.get d
   simp only [Option.bind_some]
   rcases Nat.lt_or_ge d a.tmps.size with hlt | hge
   ·have e:a.tmps[d]?=some (ρ d):=by
     rw [←hg]
     simp [hlt]
    rw [e]
    cases ρ d<;>rfl
   ·have e:ρ d=undef:=by
     rw [←hg]
     simp [Array.getElem?_eq_none hge]
    rw [e,Array.getElem?_eq_none hge]
    rfl
def Step (P:Program) (o:Oper) (ρ:Env) (w:World) (N:Value→World→Prop):Prop:=
 match (execOp (ev ρ) o).run P w with
 | .ok (.value v) w'=>N v w'
 | .ok .skip w'=>N undef w'
 | .ok (.enter f args) w'=>Calls P f args w' fun e w''=> ∃v,e= .returned v∧N v w''
 | _=>False
theorem Step.mono {P:Program} {o:Oper} {ρ:Env} {w:World} {N N':Value→World→Prop} (h:Step P o ρ w N) (hN: ∀v w',N v w'→N' v w'):Step P o ρ w N':=by
 unfold Step at *
 split at h
 ·exact hN _ _ h
 ·exact hN _ _ h
 ·exact h.mono fun e w'' ⟨v,he,hv⟩=>⟨v,he,hN _ _ hv⟩
 ·exact h.elim
theorem Step.wp {P:Program} {n:Nat} {o:Oper} {ρ:Env} {a:Act} {w:World} {N:Value→World→Prop} (hf:Fits n ds ρ a) (h:Step P o ρ w N)
 {Kk:Act→World→Prop} {Q:Exit→Act→World→Prop} (hK: ∀v w',N v w'→Kk (a.put o.dst v) w'):o.wp P a w Kk Q:=by
 unfold Oper.wp
 rw [hf.eval]
 unfold Step at h
 split at h
 ·rename_i v w' e
  rw [e]
  exact hK _ _ h
 ·rename_i w' e
  rw [e]
  exact hK _ _ h
 ·rename_i f args w' e
  rw [e,Oper.upon_enter]
  refine h.mono fun e w'' hh=>?_
  obtain ⟨v,rfl,hv⟩:=hh
  exact hK _ _ hv
 ·exact h.elim
theorem Step.value {P:Program} {o:Oper} {ρ:Env} {w w':World} {v:Value} {N:Value→World→Prop} (h:(execOp (ev ρ) o).run P w= .ok (.value v) w') (hN:N v w'):Step P o ρ w N:=by
 unfold Step
 rw [h]
 exact hN
theorem Step.skip {P:Program} {o:Oper} {ρ:Env} {w w':World} {N:Value→World→Prop} (h:(execOp (ev ρ) o).run P w= .ok .skip w') (hN:N undef w'):Step P o ρ w N:=by
 unfold Step
 rw [h]
 exact hN
theorem Step.call {P:Program} {o:Oper} {ρ:Env} {w w':World} {f:FuncId} {args:Array Value} {N:Value→World→Prop} (h:(execOp (ev ρ) o).run P w= .ok (.enter f args) w')
 (hN:Calls P f args w' fun e w''=> ∃v,e= .returned v∧N v w''):Step P o ρ w N:=by
 unfold Step
 rw [h]
 exact hN
abbrev Post:=Exit→Env→World→Prop
def lift (n:Nat) (ds:List Deferred) (Q:Post):Exit→Act→World→Prop:=fun e a w=> ∃ρ,Fits n ds ρ a∧Q e ρ w
def nrmQ (Q:Post):Post:=fun e ρ w=>e= .normal∧Q .normal ρ w
def fen (r:Option Nat):Fence:={ Fence.wide with round:=r }
theorem qi5 {r:Option Nat} {n:Nat} {P:Program} {f:FuncId} {args:Array Value} {w:World} {R:Ending→World→Prop}:CallsIn (fen r) n P f args w R↔Calls P f args w R:=callsIn_wide (n:=n)
def qku:List Oper→Bool
 | []=>true
 | o::l=>(match o.op with
   | .defer _=>false
   | _=>true) && qku l
def qgd (ops:Array Oper):Bool:=qku ops.toList
theorem qgD: ∀ {l:List Oper} {i:Nat} {o:Oper},qku l=true→l[i]?=some o→∀c,o.op≠ .defer c
 | [],i,o,h,ho=>by simp at ho
 | x::l,i,o,h,ho=>fun c hc=>by
   simp only [qku,Bool.and_eq_true] at h
   cases i with
   | zero=>
     simp at ho
     subst ho
     rw [hc] at h
     cases h.1
   | succ i=>exact qgD h.2 (by simpa using ho) c hc
theorem qnw {ops:Array Oper} {i:Nat} {o:Oper} (h:qgd ops=true) (ho:ops[i]?=some o): ∀c,o.op≠ .defer c:=qgD h (by simpa using ho)
theorem qpD {r:Option Nat} {n:Nat} {P:Program} {row:String} {args:Array Value} {w:World} {R:Value→World→Prop} (h:Rows P row args w R):RowsIn (fen r) n P row args w R:=fun c cs _=>by
 obtain ⟨v,w',hR,hs⟩:=h c cs
 exact ⟨v,w',hR,stepsIn_wide.2 hs⟩
theorem qrG {r:Option Nat} {P:Program} {o:Oper} {a:Act} {w:World} {K K':Act→World→Prop} {Q:Exit→Act→World→Prop} (hd: ∀c,o.op≠ .defer c) (h:o.wp P a w K Q) (hK: ∀a w,K a w→K' a w):o.wpIn (fen r) 0 P a w K' Q:=by
 refine ⟨fun f _=>trivial,?_⟩
 rw [Oper.semAt_eq _ _ _ hd]
 unfold Oper.wp at h
 revert h
 generalize (execOp a.eval o).run P w=R
 intro h
 have hn:(fen r).depth.isSome=true→1≤0:=fun h=>by cases h
 match R,h with
 | .ok (.value v) w',h=>exact hK _ _ h
 | .ok .skip w',h=>exact hK _ _ h
 | .ok (.defer d) w',h=>exact hK _ _ h
 | .ok (.enter f args) w',h=>
   refine ⟨hn,qi5.2 (Calls.mono h ?_)⟩
   intro e w'' he
   cases e with
   | returned v=>exact hK _ _ he
   | panicked ch=>exact he
   | outgrown=>exact he
 | .ok (.row row args) w',h=>exact ⟨hn,qpD (Rows.mono h fun v w'' he=>hK _ _ he)⟩
 | .halt (.panic v) w',h=>exact h
theorem qgE {r:Option Nat} {P:Program} {ops:Array Oper} {Q:Exit→Act→World→Prop} (hQ: ¬LetsOut Q) (hd:qgd ops=true): ∀(l:List Nat) (a:Act) (w:World),wpOps P ops Q l a w→wpOpsIn (fen r) 0 P ops Q l a w
 | [],_,_,h=>h
 | i::rest,a,w,h=>by
   simp only [wpOps] at h
   simp only [wpOpsIn]
   cases ho:ops[i]? with
   | none=>
     simp only [ho] at h
     exact qgE hQ hd rest a w h
   | some o=>
     simp only [ho] at h
     by_cases hw:Region.wanted o (yielded ops a.tmps)=true
     ·simp only [hw,if_true] at h⊢
      rcases h with h | ⟨_,h⟩
      ·exact qrG (qnw hd ho) h fun a w h=>qgE hQ hd rest a w h
      ·exact absurd h hQ
     ·simp only [hw,if_false,Bool.false_eq_true] at h⊢
      exact ⟨fun f _=>trivial,qgE hQ hd rest _ _ h⟩
theorem qfV {n:Nat} {Q:Post}: ¬LetsOut (lift n ds (nrmQ Q)):=fun ⟨_,_,_,_,h,_⟩=>by cases h
def WP (P:Program) (n:Nat) (c:Code) (Q:Post) (ρ:Env) (w:World):Prop:=∀r ds a,Fits n ds ρ a→c.wpIn (fen r) 0 P (lift n ds Q) a w
def WL (P:Program) (n:Nat) (ops:Array Oper) (Q:Post) (rest:List Oper) (ρ:Env) (w:World):Prop:=∀ds a,Fits n ds ρ a→wpList P ops (lift n ds (nrmQ Q)) rest a w
def qpJ (next:Env→World→Prop) (Q:Post):Post
 | .normal,ρ,w=>next ρ w
 | e,ρ,w=>Q e ρ w
def qmG (id:Nat) (Q:Post):Post
 | .exit id',ρ,w=>if id'=id then Q .normal ρ w else Q (.exit id') ρ w
 | e,ρ,w=>Q e ρ w
section
variable {P:Program} {n:Nat} {Q:Post} {ρ:Env} {w:World}
theorem WP.mono {c:Code} {Q':Post} (h:WP P n c Q ρ w) (hq: ∀e ρ w,Q e ρ w→Q' e ρ w):WP P n c Q' ρ w:=fun r ds a ha=>wpIn_mono (h r ds a ha) fun e a w ⟨ρ',hf,hQ⟩=>⟨ρ',hf,hq _ _ _ hQ⟩
theorem qaf {x y:Code} (h:WP P n x (qpJ (WP P n y Q) Q) ρ w):WP P n (.seq x y) Q ρ w:=fun r ds a ha=>by
 refine wpIn_seq (wpIn_mono (h r ds a ha) ?_)
 rintro e a' w' ⟨ρ',hf,hQ⟩
 cases e with
 | normal=>exact hQ r ds a' hf
 | exit id=>exact ⟨ρ',hf,hQ⟩
 | goto l=>exact ⟨ρ',hf,hQ⟩
 | ret=>exact ⟨ρ',hf,hQ⟩
 | panic ch=>exact ⟨ρ',hf,hQ⟩
 | outgrown=>exact ⟨ρ',hf,hQ⟩
theorem qaO (h:Q .normal ρ w):WP P n .skip Q ρ w:=fun r ds a ha=>wpIn_skip ⟨ρ,ha,h⟩
theorem qbm (h:Q .ret ρ w):WP P n .ret Q ρ w:=fun r ds a ha=>wpIn_ret ⟨ρ,ha,h⟩
theorem qcX {id:Nat} (h:Q (.exit id) ρ w):WP P n (.exit id) Q ρ w:=fun r ds a ha=>wpIn_exit ⟨ρ,ha,h⟩
theorem qbi {id:Nat} {c:Code} (h:WP P n c (qmG id Q) ρ w):WP P n (.block id c) Q ρ w:=fun r ds a ha=>by
 refine wpIn_block (wpIn_mono (h r ds a ha) ?_)
 rintro e a' w' ⟨ρ',hf,hQ⟩
 cases e with
 | exit id'=>
   simp only [qmG] at hQ
   simp only [Exit.inBlock]
   split at hQ
   ·rename_i e;rw [if_pos e];exact ⟨ρ',hf,hQ⟩
   ·rename_i e;rw [if_neg e];exact ⟨ρ',hf,hQ⟩
 | normal=>exact ⟨ρ',hf,hQ⟩
 | goto l=>exact ⟨ρ',hf,hQ⟩
 | ret=>exact ⟨ρ',hf,hQ⟩
 | panic ch=>exact ⟨ρ',hf,hQ⟩
 | outgrown=>exact ⟨ρ',hf,hQ⟩
theorem qay {c:Operand} {x y:Code} (b:Bool) (hc:ev ρ c= .bool b) (ht:b=true→WP P n x Q ρ w) (hf:b=false→WP P n y Q ρ w):WP P n (.cond c x y) Q ρ w:=fun r ds a ha=>
 wpIn_cond_split (by rw [ha.eval];exact hc) (fun h=>ht h r ds a ha) (fun h=>hf h r ds a ha)
theorem qlw {F:Fence} {m:Nat} {c:Code} {ι:Type} {Q:Exit→Act→World→Prop} {a:Act} {w:World} (I:ι→Act→World→Prop) (μ:ι→Nat) (i0:ι) (h0:I i0 a w)
 (round: ∀i a w,I i a w→c.wpIn F m P (Exit.then (fun a' w'=> ∃i',I i' a' w'∧μ i'<μ i) Q) a w):(Code.loop c).wpIn F m P Q a w:=by
 intro b k cs hro hb hr
 have key: ∀n i a w,μ i=n→I i a w→∃e a' w',Q e a' w'∧ArrivesIn (Machine.fenced P F) P (lone (b.atR a (.code c:: .inLoop c::k)) cs w) b k cs e a' w':=by
  intro n
  induction n using Nat.strongRecOn with
  | _ n ih=>
    intro i a w hn hI
    obtain ⟨e,a₁,w₁,hq,harr⟩:=round i a w hI b (.inLoop c::k) cs hro hb hr
    cases e with
    | normal=>
      obtain ⟨i',hI₁,hlt⟩:=hq
      obtain ⟨e₂,a₂,w₂,hq₂,harr₂⟩:=ih (μ i') (hn▸hlt) i' a₁ w₁ rfl hI₁
      exact ⟨e₂,a₂,w₂,hq₂,.of_steps (StepsIn.trans harr (.one (fenced_calm hb hr rfl) stepR_inLoop)) harr₂⟩
    | exit id=>exact ⟨_,a₁,w₁,hq,.pass (x:= .inLoop c) rfl (fun _ _=> .inl (by simp)) harr⟩
    | goto l=>exact ⟨_,a₁,w₁,hq,.pass (x:= .inLoop c) rfl (fun _ _=> .inl (by simp)) harr⟩
    | ret=>exact ⟨_,a₁,w₁,hq,.pass (x:= .inLoop c) rfl (fun _ _=> .inl (by simp)) harr⟩
    | panic ch=>exact ⟨_,a₁,w₁,hq,.pass (x:= .inLoop c) rfl (fun _ _=> .inl (by simp)) harr⟩
    | outgrown=>exact ⟨_,a₁,w₁,hq,.pass (x:= .inLoop c) rfl (fun _ _=> .inl (by simp)) harr⟩
 obtain ⟨e,a',w',hq,harr⟩:=key _ i0 a w rfl h0
 exact ⟨e,a',w',hq,.of_steps (.one (fenced_calm hb hr rfl) stepR_loop) harr⟩
theorem qmq {c:Code} {ι:Type} (I:ι→Env→World→Prop) (μ:ι→Nat) (i0:ι) (h0:I i0 ρ w)
 (round: ∀i ρ w,I i ρ w→WP P n c (qpJ (fun ρ' w'=> ∃i',I i' ρ' w'∧μ i'<μ i) Q) ρ w):WP P n (.loop c) Q ρ w:=fun r ds a ha=>by
 refine qlw (fun i a w=> ∃ρ,Fits n ds ρ a∧I i ρ w) μ i0 ⟨ρ,ha,h0⟩ ?_
 rintro i a w ⟨ρ',hf,hI⟩
 refine wpIn_mono (round i ρ' w hI r ds a hf) ?_
 rintro e a' w' ⟨ρ'',hf',hQ⟩
 cases e with
 | normal=>
   obtain ⟨i',h1,h2⟩:=hQ
   exact ⟨i',⟨ρ'',hf',h1⟩,h2⟩
 | exit id=>exact ⟨ρ'',hf',hQ⟩
 | goto l=>exact ⟨ρ'',hf',hQ⟩
 | ret=>exact ⟨ρ'',hf',hQ⟩
 | panic ch=>exact ⟨ρ'',hf',hQ⟩
 | outgrown=>exact ⟨ρ'',hf',hQ⟩
theorem qhy {e:Exit} {a:Act} {w:World} (h:lift n ds (nrmQ Q) e a w):lift n ds Q e a w:=by
 obtain ⟨ρ',hf,rfl,hq⟩:=h
 exact ⟨ρ',hf,hq⟩
theorem qac {id:Nat} {l:List Oper} (h:WL P n l.toArray Q l ρ w) (hd:qgd l.toArray=true:=by kernel_rfl):WP P n (.region id l.toArray false) Q ρ w:=fun r ds a ha=>by
 refine wpIn_mono (wpIn_region (qgE qfV hd _ _ _ ?_)) fun e a w h=>qhy h
 have e:=wpOps_eq_wpList (P:=P) (ops:=l.toArray) (Q:=lift n ds (nrmQ Q)) l 0 (by simp)
 rw [List.range_eq_range',List.size_toArray,e]
 exact h ds a ha
section
variable {ops:Array Oper} {rest:List Oper} {o:Oper}
theorem qak (h:Q .normal ρ w):WL P n ops Q [] ρ w:=fun ds a ha=>wpList_nil ⟨ρ,ha,rfl,h⟩
theorem qrb (hg:o.guard=none) (hd:qbD n o.dst=true) (h:Step P o ρ w fun v w'=>WL P n ops Q rest (updO ρ o.dst v) w'):WL P n ops Q (o::rest) ρ w:=fun ds a ha=>
 wpList_plain hg fun Kk hK=>h.wp ha fun v w' hN=>hK _ _ (hN _ _ (ha.updO hd v))
theorem qaa (v:Value) (hr:(execOp (ev ρ) o).run P w= .ok (.value v) w) (hg:o.guard=none) (hd:qbD n o.dst=true) (h:WL P n ops Q rest (updO ρ o.dst v) w):WL P n ops Q (o::rest) ρ w:=
 qrb hg hd (Step.value hr h)
end
end
def resE (P:Program) (rs:Array ResultVar) (ρ:Env):Sem Value:=do
 let vs ←rs.mapM fun
  | .tmp t=>pure (ρ t)
  | .cell a t=>do loadVar t (←asAddr (ρ a))
 pure (if h:vs.size=1 then vs[0] else .tuple vs)
theorem Fits.results {n:Nat} {ρ:Env} {a:Act} (h:Fits n ds ρ a) (P:Program) (fn:Func):results fn a.tmps=resE P fn.results ρ:=by
 unfold Go.results resE
 simp only [h.get]
 rfl
def endQ (P:Program) (rs:Array ResultVar) (R:Ending→World→Prop):Post:=fun e ρ w=>
 match e with
 | .normal | .ret=> ∃v,(resE P rs ρ).run P w= .ok v w∧R (.returned v) w
 | _=>False
theorem qm2 (args:List Value) (n:Nat) (t:Nat):(args.toArray++Array.replicate n undef).getD t undef=qfI args t:=by
 unfold qfI
 simp only [Array.getD_eq_getD_getElem?,List.getD_eq_getElem?_getD,Array.getElem?_append,List.size_toArray,List.getElem?_toArray]
 split
 ·rfl
 ·rename_i h
  rw [List.getElem?_eq_none (by omega)]
  rw [Array.getElem?_replicate]
  split<;>rfl
theorem qaD {P:Program} {f:FuncId} {fn:Func} {c:Code} {args:List Value} {w:World} {R:Ending→World→Prop}
 (hf:P.funcs[f]?=some fn) (hb:fn.body=some c) (hn:args.length≤fn.ntmps) (h:WP P fn.ntmps c (endQ P fn.results R) (qfI args) w):Calls P f args.toArray w R:=by
 refine calls_of_wp hf hb (wpIn_wide.1 (wpIn_mono (h none [] _ ⟨?_,rfl,?_⟩) ?_))
 ·simp;omega
 ·intro t;exact qm2 _ _ _
 ·rintro e a w' ⟨ρ,hf,hQ⟩
  cases e with
  | normal=>
    obtain ⟨v,hr,hR⟩:=hQ
    exact ⟨hf.defers,v,by rw [hf.results P];exact hr,hR⟩
  | ret=>
    obtain ⟨v,hr,hR⟩:=hQ
    exact ⟨hf.defers,v,by rw [hf.results P];exact hr,hR⟩
  | exit id=>exact hQ.elim
  | goto l=>exact hQ.elim
  | panic ch=>exact hQ.elim
  | outgrown=>exact hQ.elim
end fits
end Go.Inc

set_option linter.unusedVariables false
namespace Go.Inc
open Go Go.RowKit
def ovl (M:List Nat) (σ ρ:Env):Env:=fun t=>bif M.any (Nat.beq t) then σ t else ρ t
def upds (ρ:Env):List (Nat×Value)→Env
 | []=>ρ
 | (d,v)::r=>upd (upds ρ r) d v
def Off (M:List Nat) (ρ ρ':Env):Prop:=∀t,M.any (Nat.beq t)=false→ρ t=ρ' t
theorem Off.refl (M:List Nat) (ρ:Env):Off M ρ ρ:=fun _ _=>rfl
theorem Off.upd {M:List Nat} {ρ ρ':Env} (h:Off M ρ ρ') {d:Nat} (hd:M.any (Nat.beq d)=true) (v:Value):Off M (upd ρ d v) ρ':=fun t ht=>by
 rw [qgO _ _ (fun e=>by subst e;rw [hd] at ht;cases ht)]
 exact h t ht
theorem Off.ovl {M:List Nat} {ρ ρ' σ:Env} (h:Off M ρ ρ'):Off M (ovl M σ ρ) ρ':=fun t ht=>by
 simp only [Go.Inc.ovl,ht,cond_false]
 exact h t ht
theorem Off.sub {M M':List Nat} {ρ ρ':Env} (h:Off M' ρ ρ') (hs:M'.all (fun t=>M.any (Nat.beq t))=true):Off M ρ ρ':=fun t ht=>by
 refine h t ?_
 cases hx:M'.any (Nat.beq t) with
 | false=>rfl
 | true=>
   obtain ⟨u,hu,he⟩:=List.any_eq_true.1 hx
   have:=Nat.eq_of_beq_eq_true he
   subst this
   rw [List.all_eq_true.1 hs t hu] at ht
   cases ht
theorem Off.trans {M:List Nat} {ρ ρ' ρ'':Env} (h:Off M ρ ρ') (h':Off M ρ' ρ''):Off M ρ ρ'':=fun t ht=>(h t ht).trans (h' t ht)
theorem rebase {M:List Nat} {ρ ρ':Env} (h:Off M ρ' ρ): ∀(l:List (Nat×Value)),(∀p∈l,ρ' p.1=p.2)→ρ'=upds (ovl M ρ' ρ) l
 | [],_=>by
   funext t
   simp only [upds,ovl]
   cases hm:M.any (Nat.beq t) with
   | true=>rfl
   | false=>exact h t hm
 | (d,v)::r,hl=>by
   have ih:=rebase h r (fun p hp=>hl p (List.mem_cons_of_mem _ hp))
   funext t
   show ρ' t=Go.Inc.upd (upds (ovl M ρ' ρ) r) d v t
   by_cases e:t=d
   ·subst e
    rw [qfh]
    exact hl (t,v) (by simp)
   ·rw [qgO _ _ e,←ih]
end Go.Inc

set_option linter.unusedVariables false
namespace Go.Inc
open Go Go.RowKit
structure TyOk {α:Type} (P:Program) (t:TypeId) (k:Kd α) (bytes:Nat):Prop where
 info: ∃i z,P.info? t=some i∧i.size=k.sz∧i.zero=some z∧z.cells.toList=k.zc∧i.bytes=bytes∧z=(if k.agg then .agg k.zc.toArray else k.zc.headD undef)
 desc: ∃d,P.underlying t=some d∧(match d with | .struct _ | .array _ _=>true | _=>false)=k.agg
section
variable {P:Program} {α β γ:Type} {k:Kd α} {k':Kd β} {k'':Kd γ} {t:TypeId} {by_:Nat} {w:World} {K:Ghost}
theorem TyOk.isAgg (h:TyOk P t k by_) (w:World):(isAgg t).run P w= .ok k.agg w:=by
 obtain ⟨d,hd,ha⟩:=h.desc
 unfold Go.isAgg
 rw [Sem.run_bind,run_underlying hd w]
 rw [←ha]
 cases d<;>rfl
theorem TyOk.size (h:TyOk P t k by_) (w:World):(sizeOf t).run P w= .ok k.sz w:=by
 obtain ⟨i,z,hi,hs,_⟩:=h.info
 simp [sizeOf,typeInfo,hi,hs]
theorem TyOk.zero (h:TyOk P t k by_): ∃z,(∀w:World,(zeroValue t).run P w= .ok z w)∧k.V K k.z z:=by
 obtain ⟨i,z,hi,hs,hz,_,_,e⟩:=h.info
 exact ⟨z,fun w=>by simp [zeroValue,typeInfo,hi,hz],k.zc,k.hz K,e⟩
theorem qbe (b o j:Nat):(⟨b,o,none⟩:Addr).add j=⟨b,o+j,none⟩:=by
 unfold Addr.add
 split
 ·subst_vars;rfl
 ·rfl
def Kd.val (k:Kd α) (cs:List Value):Value:=if k.agg then .agg cs.toArray else cs.headD undef
theorem Kd.val_V {x:α} {cs:List Value} (hR:k.R K x cs):k.V K x (k.val cs):=⟨cs,hR,rfl⟩
theorem qbY (hT:TyOk P t k by_) {x:α} {cs:List Value} (a:Addr) (hc: ∀j u,cs[j]?=some u→w.cell? (a.add j)=some u) (hR:k.R K x cs):
 (loadVar t a).run P w= .ok (k.val cs) w:=by
 have hl:=k.len hR
 unfold Kd.val
 cases ha:k.agg with
 | true=>
   have h1:=run_loadCells_list (P:=P) w a cs hc
   rw [hl] at h1
   simp [loadVar,Sem.run_bind,hT.isAgg,hT.size,ha,h1]
 | false=>
   rw [k.hs ha] at hl
   obtain ⟨u,rfl⟩:=List.length_eq_one_iff.1 hl
   have hu:w.cell? a=some u:=by
    have:=hc 0 u rfl
    simpa [Addr.add] using this
   simp [loadVar,Sem.run_bind,hT.isAgg,ha,hu]
theorem qd8 (hT:TyOk P t k by_) {x:α} {cs:List Value} (a:Addr) (hc: ∀j u,cs[j]?=some u→w.cell? (a.add j)=some u) (hR:k.R K x cs):
 ∃v,(loadVar t a).run P w= .ok v w∧k.V K x v:=⟨_,qbY hT a hc hR,Kd.val_V hR⟩
structure Foc (k:Kd α) (k':Kd β) (off:Nat) (g:α→β) (s:α→β→α):Prop where
 foc: ∀ {K x cs},k.R K x cs→∃pre mid post,cs=pre++mid++post∧pre.length=off∧k'.R K (g x) mid∧∀y mid',k'.R K y mid'→k.R K (s x y) (pre++mid'++post)
theorem Foc.id (k:Kd α):Foc k k 0 (fun x=>x) (fun _ y=>y):=⟨fun {K x cs} h=>⟨[],cs,[],by simp,rfl,h,fun y mid' h'=>by simpa using h'⟩⟩
theorem Foc.fst (a:Kd α) (b:Kd β):Foc (Kd.pr a b) a 0 Prod.fst (fun x y=>(y,x.2)):=
 ⟨fun {K x cs} ⟨c1,c2,e,h1,h2⟩=>⟨[],c1,c2,by simp [e],rfl,h1,fun y mid' h'=>⟨mid',c2,by simp,h',h2⟩⟩⟩
theorem Foc.snd (a:Kd α) (b:Kd β):Foc (Kd.pr a b) b a.sz Prod.snd (fun x y=>(x.1,y)):=
 ⟨fun {K x cs} ⟨c1,c2,e,h1,h2⟩=>⟨c1,c2,[],by simp [e],a.len h1,h2,fun y mid' h'=>⟨c1,mid',by simp,h1,h'⟩⟩⟩
theorem Foc.st (k:Kd α):Foc (Kd.st k) k 0 (fun x=>x) (fun _ y=>y):=⟨fun {K x cs} h=>⟨[],cs,[],by simp,rfl,h,fun y mid' h'=>by
 show k.R _ _ ([]++mid'++ [])
 simpa using h'⟩⟩
theorem Foc.trans {o1 o2:Nat} {g1:α→β} {s1:α→β→α} {g2:β→γ} {s2:β→γ→β} (h1:Foc k k' o1 g1 s1) (h2:Foc k' k'' o2 g2 s2):
 Foc k k'' (o1+o2) (fun x=>g2 (g1 x)) (fun x y=>s1 x (s2 (g1 x) y)):=
 ⟨fun {K x cs} h=>by
   obtain ⟨p1,m1,q1,e1,l1,r1,w1⟩:=h1.foc h
   obtain ⟨p2,m2,q2,e2,l2,r2,w2⟩:=h2.foc r1
   refine ⟨p1++p2,m2,q2++q1,by rw [e1,e2];simp,by rw [List.length_append,l1,l2],r2,fun y mid' h'=>?_⟩
   have:=w1 _ _ (w2 y mid' h')
   simpa using this⟩
def ix {α:Type} [Inhabited α] (l:List α) (i:Int):α:=l.getD i.toNat default
theorem qaR {α:Type} [Inhabited α] {l:List α} {i:Int} (h:i.toNat<l.length):ix l i=l[i.toNat]:=by
 unfold ix
 simp [h]
theorem Foc.arr [Inhabited α] (n:Nat) (k:Kd α) (i:Int) (h0:0≤i) (h1:i<n):Foc (Kd.arr n k) k (i.toNat *k.sz) (fun l=>ix l i) (fun l y=>l.set i.toNat y):=
 ⟨fun {K x cs} ⟨hl,h⟩=>by
   have hi:i.toNat<x.length:=by omega
   have hlen:=RL.len (fun _ _=>k.len) h
   have hge:(i.toNat+1) *k.sz≤cs.length:=by rw [hlen];exact Nat.mul_le_mul_right _ hi
   have hadd:(i.toNat+1) *k.sz=i.toNat *k.sz+k.sz:=by rw [Nat.add_mul,Nat.one_mul]
   refine ⟨cs.take (i.toNat *k.sz),(cs.drop (i.toNat *k.sz)).take k.sz,cs.drop ((i.toNat+1) *k.sz),?_,?_,?_,?_⟩
   ·rw [hadd,List.append_assoc,←List.drop_drop,List.take_append_drop,List.take_append_drop]
   ·rw [List.length_take];omega
   ·rw [qaR hi];exact RL.get (fun _ _=>k.len) h _ hi
   ·intro y mid' h'
    exact ⟨by simpa using hl,RL.set (R:=k.R K) (n:=k.sz) (fun _ _=>k.len) h' _ hi h⟩⟩
def Kd.Pt (k:Kd α) (K:Ghost) (x:α) (v:Value):Prop:=∃b e pre mid post,v= .pointer (some ⟨b,pre.length,none⟩)∧K b=some (e,pre++mid++post)∧k.R K x mid
theorem Kd.Pt.mono {K':Ghost} {x:α} {v:Value} (h:k.Pt K x v) (hle:K.le K'):k.Pt K' x v:=by
 obtain ⟨b,e,pre,mid,post,hv,hK,hR⟩:=h
 obtain ⟨l',h',p,rfl⟩:=hle _ _ _ hK
 exact ⟨b,e,pre,mid,post++p,hv,by rw [h'];simp,k.mono hle hR⟩
theorem qbf (hM:Models w K) {b:Nat} {e:TypeId} {pre mid post:List Value} (hK:K b=some (e,pre++mid++post)):
 ∀j u,mid[j]?=some u→w.cell? ((⟨b,pre.length,none⟩:Addr).add j)=some u:=by
 intro j u hu
 obtain ⟨c,fr,hc,p,hp⟩:=hM _ _ _ hK
 rw [qbe,cell_of_row w b _ c e fr hc,←Array.getElem?_toList,←hp]
 simp only [List.append_assoc]
 rw [List.getElem?_append_right (by omega),Nat.add_sub_cancel_left,List.getElem?_append_left ((List.getElem?_eq_some_iff.1 hu).1)]
 exact hu
theorem Kd.Pt.loadH (hT:TyOk P t k by_) {x:α} {a:Addr} (h:k.Pt K x (.pointer (some a))): ∃v,(∀w' K',K.le K'→Models w' K'→(loadVar t a).run P w'= .ok v w')∧k.V K x v:=by
 obtain ⟨b,e,pre,mid,post,hv,hK,hR⟩:=h
 simp only [Value.pointer.injEq,Option.some.injEq] at hv
 subst hv
 refine ⟨k.val mid,fun w' K' hle hM=>?_,Kd.val_V hR⟩
 obtain ⟨l',h',p,rfl⟩:=hle _ _ _ hK
 have h2:K' b=some (e,pre++mid++(post++p)):=by rw [h'];simp
 exact qbY hT _ (qbf hM h2) (k.mono hle hR)
theorem Kd.Pt.load (hT:TyOk P t k by_) (hM:Models w K) {x:α} {a:Addr} (h:k.Pt K x (.pointer (some a))): ∃v,(loadVar t a).run P w= .ok v w∧k.V K x v:=by
 obtain ⟨b,e,pre,mid,post,hv,hK,hR⟩:=h
 simp only [Value.pointer.injEq,Option.some.injEq] at hv
 subst hv
 exact qd8 hT _ (qbf hM hK) hR
theorem Kd.Pt.foc {off:Nat} {g:α→β} {s:α→β→α} (F:Foc k k' off g s) {x:α} {b o:Nat} (h:k.Pt K x (.pointer (some ⟨b,o,none⟩))):k'.Pt K (g x) (.pointer (some ⟨b,o+off,none⟩)):=by
 obtain ⟨b,e,pre,mid,post,hv,hK,hR⟩:=h
 simp only [Value.pointer.injEq,Option.some.injEq,Addr.mk.injEq,and_true] at hv
 obtain ⟨rfl,rfl⟩:=hv
 obtain ⟨p,m,q,rfl,hl,hR',_⟩:=F.foc hR
 exact ⟨b,e,pre++p,m,q++post,by rw [List.length_append,hl],by rw [hK];simp,hR'⟩
theorem Kd.Pt.form {x:α} {v:Value} (h:k.Pt K x v): ∃b o,v= .pointer (some ⟨b,o,none⟩):=by
 obtain ⟨b,e,pre,mid,post,hv,_⟩:=h
 exact ⟨b,_,hv⟩
def Bx (k:Kd α) (w:World) (K:Ghost) (b:Nat) (pre post:List Value) (x:α):Prop:=
 K b=none∧∃cs T,w.heap[b]?=some (.cells (pre++cs++post).toArray T (0,0))∧k.R K x cs
theorem Bx.lt {b:Nat} {pre post:List Value} {x:α} (h:Bx k w K b pre post x):b<w.heap.size:=by
 obtain ⟨_,cs,T,hh,_⟩:=h
 exact (Array.getElem?_eq_some_iff.1 hh).1
theorem Bx.ext {X:Nat→Prop} {w':World} {K':Ghost} {b:Nat} {pre post:List Value} {x:α} (h:Bx k w K b pre post x) (hE:Ext X w K w' K') (hX: ¬X b):Bx k w' K' b pre post x:=by
 have hlt:=h.lt
 obtain ⟨hK,cs,T,hh,hR⟩:=h
 exact ⟨(hE.ghost b hlt hX).trans hK,cs,T,hE.cells hh hX,k.mono hE.le hR⟩
theorem Bx.extN {w':World} {K':Ghost} {b:Nat} {pre post:List Value} {x:α} (h:Bx k w K b pre post x) (hE:Ext NX w K w' K'):Bx k w' K' b pre post x:=h.ext hE (fun h=>h)
theorem Bx.new {x:α} (hM:Models w K) (T:TypeId) {cs:List Value} (hR:k.R K x cs):Bx k (w.alloc (.cells cs.toArray T)) K w.heap.size [] [] x:=
 ⟨hM.none_of_ge (Nat.le_refl _),cs,T,by rw [qcI];simp,hR⟩
theorem Bx.loadH (hT:TyOk P t k' by_) {off:Nat} {g:α→β} {s:α→β→α} (F:Foc k k' off g s) {b:Nat} {pre post:List Value} {x:α} (h:Bx k w K b pre post x):
 ∃v,(∀w' K',K.le K'→w'.heap[b]?=w.heap[b]?→(loadVar t ⟨b,pre.length+off,none⟩).run P w'= .ok v w')∧k'.V K (g x) v:=by
 obtain ⟨hK,cs,T,hh,hR⟩:=h
 obtain ⟨p,m,q,rfl,hl,hR',_⟩:=F.foc hR
 refine ⟨k'.val m,fun w' K' hle he=>qbY hT _ (fun j u hu=>?_) (k'.mono hle hR'),Kd.val_V hR'⟩
 rw [qbe,cell_of_row w' b _ _ T _ (he.trans hh),List.getElem?_toArray]
 simp only [List.append_assoc]
 rw [List.getElem?_append_right (by omega),List.getElem?_append_right (by omega),List.getElem?_append_left (by
  have:=(List.getElem?_eq_some_iff.1 hu).1
  omega)]
 rw [←hu]
 congr 1
 omega
theorem Bx.load (hT:TyOk P t k' by_) {off:Nat} {g:α→β} {s:α→β→α} (F:Foc k k' off g s) {b:Nat} {pre post:List Value} {x:α} (h:Bx k w K b pre post x):
 ∃v,(loadVar t ⟨b,pre.length+off,none⟩).run P w= .ok v w∧k'.V K (g x) v:=by
 obtain ⟨hK,cs,T,hh,hR⟩:=h
 obtain ⟨p,m,q,rfl,hl,hR',_⟩:=F.foc hR
 refine qd8 hT _ (fun j u hu=>?_) hR'
 rw [qbe,cell_of_row w b _ _ T _ hh,List.getElem?_toArray]
 simp only [List.append_assoc]
 rw [List.getElem?_append_right (by omega),List.getElem?_append_right (by omega),List.getElem?_append_left (by
  have:=(List.getElem?_eq_some_iff.1 hu).1
  omega)]
 rw [←hu]
 congr 1
 omega
theorem Models.setRow (h:Models w K) {b:Nat} (hb:K b=none) (cs:Array Value):Models (w.setRow b cs) K:=fun c t l hc=>by
 obtain ⟨c0,fr,hc0,hp⟩:=h c t l hc
 have hne:c≠b:=fun e=>by subst e;rw [hb] at hc;cases hc
 exact ⟨c0,fr,(setRow_other w b c cs hne).trans hc0,hp⟩
theorem Ext.setRow {X:Nat→Prop} (w:World) (K:Ghost) (b:Nat) (cs:Array Value) (hX:X b):Ext X w K (w.setRow b cs) K:=
 ⟨Ghost.le.refl K,fun c hc hx=>setRow_other w b c cs (fun e=>hx (e▸hX)),fun _ _ _=>rfl,by simp,rfl,rfl,rfl⟩
theorem Bx.store (hT:TyOk P t k' by_) (hM:Models w K) {off:Nat} {g:α→β} {s:α→β→α} (F:Foc k k' off g s) {b:Nat} {pre post:List Value} {x:α} (h:Bx k w K b pre post x) {y:β} {v:Value} (hv:k'.V K y v):
 ∃w',(storeVar t ⟨b,pre.length+off,none⟩ v).run P w= .ok () w'∧Bx k w' K b pre post (s x y)∧Ext (· =b) w K w' K∧Models w' K:=by
 obtain ⟨hK,cs,T,hh,hR⟩:=h
 obtain ⟨p,m,q,rfl,hl,hR',hS⟩:=F.foc hR
 have hc:=hv.cells
 have hlm:=k'.len hR'
 have hlv:=k'.len hc
 have hrun:=run_storeCells_at P b (pre.length+off) T v.cells.toList 0 _ w hh (by simp at hlv⊢;omega) (k'.one hc)
 have e1:(pre++(p++m++q)++post).take (pre.length+off)=pre++p:=by
  rw [show pre.length+off=(pre++p).length from by rw [List.length_append,hl]]
  rw [show pre++(p++m++q)++post=(pre++p)++(m++q++post) from by simp]
  exact List.take_left
 have e2:(pre++(p++m++q)++post).drop (pre.length+off+v.cells.toList.length)=q++post:=by
  rw [show pre.length+off+v.cells.toList.length=(pre++p++m).length from by rw [List.length_append,List.length_append,hl,hlm,hlv]]
  rw [show pre++(p++m++q)++post=(pre++p++m)++(q++post) from by simp]
  exact List.drop_left
 simp only [Nat.add_zero,e1,e2] at hrun
 refine ⟨w.setRow b (pre++p++v.cells.toList++(q++post)).toArray,?_,⟨hK,p++v.cells.toList++q,T,?_,hS y _ hc⟩,Ext.setRow w K b _ rfl,hM.setRow hK _⟩
 ·have hsz:v.cells.size=k'.sz:=hv.size
  simp [storeVar,Sem.run_bind,hT.size,hsz]
  simpa using hrun
 ·rw [setRow_heap w b _ _ T _ hh]
  simp
end
end Go.Inc

set_option linter.unusedVariables false
namespace Go.Inc
open Go Go.RowKit
def ob:Value→Option Nat
 | .slice (some a) _ (_+1)=>some a.block
 | _=>none
def Own {α:Type} (k:Kd α) (e:TypeId) (w:World) (K:Ghost) (x:List α) (v:Value):Prop:=
 (∀y∈x,k.wf y)∧x.length≤LM∧
 ((∃A,v= .slice A 0 0∧x=[])∨
  ∃g cap c pre l,v= .slice (some ⟨g,pre.length,none⟩) x.length cap∧w.heap[g]?=some (.cells c e (0,0))∧x.length≤cap∧cap≤maxLen∧c.size=pre.length+cap *k.sz∧
   K g=some (e,pre++l)∧(pre++l)<+:c.toList∧RL (k.R K) x l)
section
variable {P:Program} {α:Type} {k:Kd α} {e t ty:TypeId} {by_:Nat} {w w':World} {K K':Ghost} {x y:List α} {v u:Value}
theorem Own.nil:Own k e w K [] (.slice none 0 0):=⟨by simp,by simp [LM],.inl ⟨none,rfl,rfl⟩⟩
theorem Own.V (h:Own k e w K x v):(Kd.sl k).V K x v:=by
 obtain ⟨hwf,hlm,h⟩:=h
 rcases h with ⟨A,rfl,rfl⟩ | ⟨g,cap,c,pre,l,rfl,hg,hnc,hcm,hcs,hK,hp,hR⟩
 ·exact ⟨[.slice A 0 0],⟨A,0,rfl,by simp,hlm,hwf,.inl rfl⟩,rfl⟩
 ·exact ⟨_,⟨_,cap,rfl,hnc,hlm,hwf,.inr ⟨g,e,pre,l,[],rfl,by simpa using hK,hR⟩⟩,rfl⟩
theorem Own.wf (h:Own k e w K x v):x.length≤LM∧∀y∈x,k.wf y:=⟨h.2.1,h.1⟩
theorem Own.lt (h:Own k e w K x v): ∀g,ob v=some g→g<w.heap.size:=by
 obtain ⟨hwf,hlm,h⟩:=h
 intro g hg
 rcases h with ⟨A,rfl,rfl⟩ | ⟨g',cap,c,pre,l,rfl,hgg,_⟩
 ·cases A<;>simp [ob] at hg
 ·cases cap with
  | zero=>simp [ob] at hg
  | succ cap=>
    simp [ob] at hg
    subst hg
    exact (Array.getElem?_eq_some_iff.1 hgg).1
theorem Own.known (h:Own k e w K x v): ∀g,ob v=some g→∃l,K g=some (e,l):=by
 obtain ⟨hwf,hlm,h⟩:=h
 intro g hg
 rcases h with ⟨A,rfl,rfl⟩ | ⟨g',cap,c,pre,l,rfl,hgg,_,_,_,hK,_⟩
 ·cases A<;>simp [ob] at hg
 ·cases cap with
  | zero=>simp [ob] at hg
  | succ cap=>
    simp [ob] at hg
    subst hg
    exact ⟨_,hK⟩
theorem Own.ext {X:Nat→Prop} (h:Own k e w K x v) (hE:Ext X w K w' K') (hX: ∀g,ob v=some g→¬X g):Own k e w' K' x v:=by
 obtain ⟨hwf,hlm,h⟩:=h
 refine ⟨hwf,hlm,?_⟩
 rcases h with h | ⟨g,cap,c,pre,l,rfl,hg,hnc,hcm,hcs,hK,hp,hR⟩
 ·exact .inl h
 ·cases cap with
  | zero=>
    have hx:x=[]:=List.eq_nil_of_length_eq_zero (by omega)
    subst hx
    exact .inl ⟨_,rfl,rfl⟩
  | succ cap=>
    have hne:=hX g rfl
    have hlt:=(Array.getElem?_eq_some_iff.1 hg).1
    exact .inr ⟨g,cap+1,c,pre,l,rfl,hE.cells hg hne,hnc,hcm,hcs,(hE.ghost g hlt hne).trans hK,hp,RL.mono (fun _ _=>k.mono hE.le) hR⟩
theorem Own.extN (h:Own k e w K x v) (hE:Ext NX w K w' K'):Own k e w' K' x v:=h.ext hE (fun _ _ h=>h)
theorem Own.box {β:Type} {k':Kd β} {b:Nat} {pre post:List Value} {z:β} (h:Own k e w K x v) (hB:Bx k' w K b pre post z):ob v≠some b:=fun he=>by
 obtain ⟨l,hl⟩:=h.known b he
 rw [hB.1] at hl
 cases hl
theorem qmk (hM:Models w K) {A:Option Addr} {l:List α} (hS:k.S K l A):l=[]∨∃b e pre mid post,A=some ⟨b,pre.length,none⟩∧K b=some (e,pre++mid++post)∧RL (k.R K) l mid∧∀j u,mid[j]?=some u→w.cell? ((⟨b,pre.length,none⟩:Addr).add j)=some u:=by
 rcases hS with h | ⟨b,e,pre,mid,post,hA,hK,hR⟩
 ·exact .inl h
 ·exact .inr ⟨b,e,pre,mid,post,hA,hK,hR,qbf hM hK⟩
theorem qbC {l:List α} (h:(Kd.sl k).V K l v): ∃A cap,v= .slice A l.length cap∧l.length≤cap∧l.length≤LM∧(∀x∈l,k.wf x)∧k.S K l A:=by
 obtain ⟨cs,⟨A,cap,rfl,h2,h3,h4,h5⟩,rfl⟩:=h
 exact ⟨A,cap,rfl,h2,h3,h4,h5⟩
theorem qjs (hM:Models w K) (hsz:0<k.sz) {l:List Value} {c:Array Value} {cap:Nat} (hR:RL (k.R K) x l) (hwf: ∀y∈x,k.wf y) (hlm:x.length≤LM) (hcap:x.length≤cap) (hcm:cap≤maxLen) (hc:c.size=cap *k.sz) (hp:l<+:c.toList):
 ∃K',Own k e (w.alloc (.cells c e)) K' x (.slice (some ⟨w.heap.size,0,none⟩) x.length cap)∧Ext NX w K (w.alloc (.cells c e)) K'∧Models (w.alloc (.cells c e)) K':=by
 have hle:K.le (K.set w.heap.size e l):=Ghost.le_set_new (hM.none_of_ge (Nat.le_refl _)) _ _
 refine ⟨K.set w.heap.size e l,⟨hwf,hlm,.inr ⟨w.heap.size,cap,c,[],l,rfl,qcI w _,hcap,hcm,by simpa using hc,?_,by simpa using hp,?_⟩⟩,Ext.allocRow hM e c l,hM.allocRow e c l hp⟩
 ·rw [Ghost.set_same];rfl
 ·exact RL.mono (fun _ _=>k.mono hle) hR
def Cells (k:Kd α) (w:World) (K:Ghost) (y:List α) (u:Value):Prop:=∃A cap2,u= .slice A y.length cap2∧y.length≤LM∧(∀a∈y,k.wf a)∧
 (y=[]∨∃a mid2,A=some a∧RL (k.R K) y mid2∧∀j u,mid2[j]?=some u→w.cell? (a.add j)=some u)
theorem Cells.ofV (hM:Models w K) (hV:(Kd.sl k).V K y u):Cells k w K y u:=by
 obtain ⟨A,cap2,rfl,hc2,hlm2,hwf2,hS⟩:=qbC hV
 refine ⟨A,cap2,rfl,hlm2,hwf2,?_⟩
 rcases qmk hM hS with h | ⟨b2,e2,pre2,mid2,post2,rfl,hK2,hR2,hcell2⟩
 ·exact .inl h
 ·exact .inr ⟨_,mid2,rfl,hR2,hcell2⟩
theorem qgr (ht:P.underlying t=some (.slice e)) (hT:TyOk P e k by_) (hsz:0<k.sz) (hM:Models w K) (hO:Own k e w K x v) (hV:Cells k w K y u) (hlen:(x.length+y.length) *by_≤140737488355328) (hby:0<by_):
 ∃v' w' K',(Builtin.append_ #[t,t] ty #[v,u]).run P w= .ok v' w'∧Own k e w' K' (x++y) v'∧Ext (fun b=>ob v=some b) w K w' K'∧Models w' K'∧(ob v'=ob v∨ob v'=some w.heap.size):=by
 obtain ⟨i,z,hi,hsi,hz,hzc,hbi, -⟩:=hT.info
 obtain ⟨A,cap2,rfl,hlm2,hwf2,hS⟩:=hV
 obtain ⟨hwf,hlm,hO⟩:=hO
 have hxy:x.length+y.length≤140737488355328:=Nat.le_trans (Nat.le_mul_of_pos_right _ hby) hlen
 have hlm':(x++y).length≤LM:=by rw [List.length_append];simp only [LM];omega
 have hwf': ∀a∈x++y,k.wf a:=fun a ha=>by rcases List.mem_append.1 ha with h | h;exact hwf a h;exact hwf2 a h
 have hzs:z.cells.size=k.sz:=by
  have:=k.len (k.hz K)
  rw [←hzc] at this
  simpa using this
 rcases hS with rfl | ⟨adr,mid2,rfl,hR2,hcell2⟩
 ·have hfc: ∀n,(Builtin.firstCells k.sz 0 (.slice A n cap2)).run P w= .ok #[] w:=fun n=>by
   cases A with
   | none=>simp [Builtin.firstCells]
   | some a=>simp [Builtin.firstCells,loadCells,loadCellsFrom]
  rcases hO with ⟨A1,rfl,rfl⟩ | ⟨g,cap,c,pre,l,rfl,hg,hnc,hcm,hcs,hK,hp,hR⟩
  ·refine ⟨.slice A1 0 0,w,K,?_,⟨by simp,by simp [LM],.inl ⟨A1,rfl,rfl⟩⟩,Ext.refl _ _ _,hM,.inl rfl⟩
   cases A1<;>simp [Builtin.append_,run_underlying ht,sizeOf,typeInfo,hi,Builtin.lenOf,hsi,hfc,storeCells]
  ·refine ⟨.slice (some ⟨g,pre.length,none⟩) x.length cap,w,K,?_,⟨by simpa using hwf,by simpa using hlm,.inr ⟨g,cap,c,pre,l,by simp,hg,by simpa using hnc,hcm,hcs,hK,hp,by simpa using hR⟩⟩,Ext.refl _ _ _,hM,.inl rfl⟩
   simp [Builtin.append_,run_underlying ht,sizeOf,typeInfo,hi,Builtin.lenOf,hsi,hfc,storeCells,hnc]
 ·have hl2:mid2.length=y.length *k.sz:=RL.len (fun _ _=>k.len) hR2
  have h1: ∀a∈mid2,a.oneCell'=true:=RL.one (fun _ _=>k.one) hR2
  have h63:((x.length+y.length:Nat):Int)≤9223372036854775807:=by omega
  have grown: ∀(old:Nat) (l:List Value),RL (k.R K) x l→∃K',
   Own k e (w.drew.alloc (.cells (l.toArray++mid2.toArray++Builtin.zeroCells z.cells (grownCap w (x.length+y.length) old e - (x.length+y.length))) e)) K' (x++y) (.slice (some ⟨w.heap.size,0,none⟩) (x.length+y.length) (grownCap w (x.length+y.length) old e))∧
   Ext NX w K (w.drew.alloc (.cells (l.toArray++mid2.toArray++Builtin.zeroCells z.cells (grownCap w (x.length+y.length) old e - (x.length+y.length))) e)) K'∧
   Models (w.drew.alloc (.cells (l.toArray++mid2.toArray++Builtin.zeroCells z.cells (grownCap w (x.length+y.length) old e - (x.length+y.length))) e)) K':=by
   intro old l hRl
   have hll:l.length=x.length *k.sz:=RL.len (fun _ _=>k.len) hRl
   have hge:=grownCap_ge w (x.length+y.length) old e
   have hcm:=grownCap_le_maxLen w (x.length+y.length) old e (by simp only [maxLen];omega)
   obtain ⟨K',h1,h2,h3⟩:=qjs (w:=w.drew) (K:=K) (k:=k) (e:=e) (x:=x++y) (l:=l++mid2) (c:=l.toArray++mid2.toArray++Builtin.zeroCells z.cells (grownCap w (x.length+y.length) old e - (x.length+y.length))) (cap:=grownCap w (x.length+y.length) old e)
    hM hsz (RL.append hRl hR2) hwf' hlm' (by rw [List.length_append];exact hge) hcm (by
     simp only [Array.size_append,List.size_toArray,size_zeroCells,hzs,hll,hl2,←Nat.add_mul]
     congr 1
     omega) (by simp)
   rw [List.length_append] at h1
   exact ⟨K',h1,(Ext.drew w K).trans h2,h3⟩
  rcases hO with ⟨A1,rfl,rfl⟩ | ⟨g,cap,c,pre,l,rfl,hg,hnc,hcm,hcs,hK,hp,hR⟩
  ·obtain ⟨K',g1,g2,g3⟩:=grown 0 [] rfl
   simp only [List.length_nil,Nat.zero_add,List.nil_append,Array.empty_append] at g1 g2 g3 hxy h63 hlen
   by_cases hm:y.length=0
   ·have hy:y=[]:=List.eq_nil_of_length_eq_zero hm
    subst hy
    simp [RL] at hR2
    subst hR2
    refine ⟨.slice A1 0 0,w,K,?_,⟨by simp,by simp [LM],.inl ⟨A1,rfl,rfl⟩⟩,Ext.refl _ _ _,hM,.inl rfl⟩
    cases A1<;>simp [Builtin.append_,run_underlying ht,sizeOf,typeInfo,hi,Builtin.lenOf,Builtin.firstCells,loadCells,loadCellsFrom,storeCells]
   ·refine ⟨_,_,K',?_,g1,g2.ofN,g3,.inr ?_⟩
    ·cases A1 with
     | none=>exact run_append_nil (P:=P) w t ty e i z ht hi hz _ y.length cap2 mid2 (by rw [hl2,hsi]) hcell2 (by omega) (by omega) (by rw [hbi];omega)
     | some a1=>
       have hr:=run_append_grow (P:=P) w t ty e i z ht hi hz a1 0 0 [] (by simp) (by simp) _ y.length cap2 mid2 (by rw [hl2,hsi]) hcell2 (by omega) (by simpa using h63) (growslice_fits (by omega) (by rw [hbi];simpa using hlen))
       simpa using hr
    ·have hge:=grownCap_ge w y.length 0 e
     cases hgc:grownCap w y.length 0 e with
     | zero=>rw [hgc] at hge;omega
     | succ m=>rfl
  ·by_cases hroom:x.length+y.length≤cap
   ·
    have hll:l.length=x.length *k.sz:=RL.len (fun _ _=>k.len) hR
    obtain ⟨q,hq⟩:=hp
    have hcl:c.toList.length=pre.length+cap *k.sz:=by simpa using hcs
    have hql:(pre++l++q).length=pre.length+cap *k.sz:=by rw [hq];exact hcl
    simp only [List.length_append] at hql
    have hmul:(x.length+y.length) *k.sz≤cap *k.sz:=Nat.mul_le_mul_right _ hroom
    rw [Nat.add_mul] at hmul
    have hst:=run_storeCells_at P g (pre.length+x.length *k.sz) e mid2 0 c w hg (by
     simp only [Nat.add_zero]
     rw [hcs,hl2]
     omega) h1
    have et:c.toList.take (pre.length+x.length *k.sz)=pre++l:=by
     rw [←hq,show pre.length+x.length *k.sz=(pre++l).length from by rw [List.length_append,hll]]
     exact List.take_left
    simp only [Nat.add_zero,et] at hst
    have hwrite: ∃K',K'=K.set g e (pre++(l++mid2)):=⟨_,rfl⟩
    obtain ⟨K',hK'⟩:=hwrite
    have hle:K.le K':=by rw [hK'];exact Ghost.le_set_more hK ⟨mid2,by simp⟩
    refine ⟨.slice (some ⟨g,pre.length,none⟩) (x.length+y.length) cap,w.setRow g (pre++l++mid2++c.toList.drop (pre.length+x.length *k.sz+mid2.length)).toArray,K',?_,⟨hwf',hlm',.inr ⟨g,cap,_,pre,l++mid2,by rw [List.length_append],setRow_heap w g c _ e _ hg,by rw [List.length_append];exact hroom,hcm,?_,?_,?_,?_⟩⟩,?_,?_,.inl (by cases cap<;>rfl)⟩
    ·have hf:=run_firstCells_some (P:=P) w k.sz y.length _ y.length cap2 mid2 hl2 hcell2
     simp [Builtin.append_,run_underlying ht,sizeOf,typeInfo,hi,Builtin.lenOf,hroom,hsi,hf,qbe,hst]
    ·simp only [List.size_toArray,List.length_append,List.length_drop,hcl,hl2,hll]
     omega
    ·rw [hK',Ghost.set_same]
    ·rw [List.toList_toArray]
     exact ⟨c.toList.drop (pre.length+x.length *k.sz+mid2.length),by simp⟩
    ·exact RL.append (RL.mono (fun _ _=>k.mono hle) hR) (RL.mono (fun _ _=>k.mono hle) hR2)
    ·have hne:cap≠0∨(y.length=0∧x.length=0):=by omega
     have hobx: ∀b,b=g→ob (.slice (some ⟨g,pre.length,none⟩) x.length cap)=some b∨mid2=[]:=fun b hb=>by
      cases cap with
      | zero=>right;exact List.eq_nil_of_length_eq_zero (by rw [hl2,show y.length=0 from by omega,Nat.zero_mul])
      | succ cap=>left;subst hb;rfl
     refine ⟨hle,fun b hb hx=>?_,fun b hb hx=>?_,by simp,rfl,rfl,rfl⟩
     ·by_cases hbg:b=g
      ·subst hbg
       rcases hobx b rfl with h | h
       ·exact absurd h hx
       ·rw [setRow_heap w b c _ e _ hg,hg,h]
        congr 2
        apply Array.ext'
        rw [List.toList_toArray]
        simp only [List.append_nil,List.length_nil,Nat.add_zero]
        rw [←et,List.take_append_drop]
      ·exact setRow_other w g b _ hbg
     ·by_cases hbg:b=g
      ·subst hbg
       rcases hobx b rfl with h | h
       ·exact absurd h hx
       ·rw [hK',Ghost.set_same,hK,h];simp
      ·rw [hK',Ghost.set_other _ _ _ hbg]
    ·intro b t' l' hb
     rw [hK'] at hb
     by_cases hbg:b=g
     ·subst hbg
      rw [Ghost.set_same] at hb
      cases hb
      exact ⟨_,_,setRow_heap w b c _ e _ hg,by rw [List.toList_toArray];exact ⟨c.toList.drop (pre.length+x.length *k.sz+mid2.length),by simp⟩⟩
     ·rw [Ghost.set_other _ _ _ hbg] at hb
      obtain ⟨c0,fr,h0,h00⟩:=hM b t' l' hb
      exact ⟨c0,fr,(setRow_other w g b _ hbg).trans h0,h00⟩
   ·obtain ⟨K',g1,g2,g3⟩:=grown cap l hR
    have hll:l.length=x.length *k.sz:=RL.len (fun _ _=>k.len) hR
    have holds: ∀j u,l[j]?=some u→w.cell? ((⟨g,pre.length,none⟩:Addr).add j)=some u:=qbf (post:=[]) hM (by simpa using hK)
    have hr:=run_append_grow (P:=P) (ty:=ty) w t e i z ht hi hz ⟨g,pre.length,none⟩ x.length cap l (by rw [hll,hsi]) holds _ y.length cap2 mid2 (by rw [hl2,hsi]) hcell2 (by omega) h63 (growslice_fits (by omega) (by rw [hbi];exact hlen))
    refine ⟨_,_,K',hr,g1,g2.ofN,g3,.inr ?_⟩
    have hge:=grownCap_ge w (x.length+y.length) cap e
    cases hgc:grownCap w (x.length+y.length) cap e with
    | zero=>rw [hgc] at hge;omega
    | succ m=>rfl
theorem qk4 (ht:P.underlying t=some (.slice e)) (hT:TyOk P e k by_) (hsz:0<k.sz) (hM:Models w K) (hO:Own k e w K x v) (hV:(Kd.sl k).V K y u) (hlen:(x.length+y.length) *by_≤140737488355328) (hby:0<by_):
 ∃v' w' K',(Builtin.append_ #[t,t] ty #[v,u]).run P w= .ok v' w'∧Own k e w' K' (x++y) v'∧Ext (fun b=>ob v=some b) w K w' K'∧Models w' K'∧(ob v'=ob v∨ob v'=some w.heap.size):=qgr ht hT hsz hM hO (Cells.ofV hM hV) hlen hby
end
end Go.Inc

set_option linter.unusedVariables false
namespace Go.Inc
open Go Go.RowKit
def band (k:IntKind) (a b:Int):Int:=k.wrap ((BitVec.ofInt k.bits a &&& BitVec.ofInt k.bits b).toNat:Int)
def bor (k:IntKind) (a b:Int):Int:=k.wrap ((BitVec.ofInt k.bits a ||| BitVec.ofInt k.bits b).toNat:Int)
def bxor (k:IntKind) (a b:Int):Int:=k.wrap ((BitVec.ofInt k.bits a^^^BitVec.ofInt k.bits b).toNat:Int)
def shl (k:IntKind) (a b:Int):Int:=k.wrap (a *2^(min b.toNat k.bits))
def shr (k:IntKind) (a b:Int):Int:=a.fdiv (2^(min b.toNat k.bits))
section
variable {P:Program} {α β:Type} {k:Kd α} {k':Kd β} {e t:TypeId} {by_:Nat} {w:World} {K:Ghost} {ρ:Env}
variable {dst:Option Tmp} {ty:TypeId} {pos:String} {af:Array Edge} {g:Option (Nat×Bool)} {x y z:Operand} {v u:Value} {ik ik':IntKind} {a b:Int} {p q:Bool}
theorem qm5 (t:TypeId) (h:P.underlying t=some .bool):(Op.equal t (.bool p) (.bool q)).run P w= .ok (p==q) w:=by
 have hd: ∀d:Nat,(Op.equalIn (d+1) t (.bool p) (.bool q)).run P w= .ok (p==q) w:=fun d=>by simp [Op.equalIn,run_underlying h]
 exact hd 9999
theorem qm6 (t t3:TypeId) (h:P.underlying t=some (.pointer t3)):(Op.equal t (.pointer none) (.pointer none)).run P w= .ok true w:=by
 have hd: ∀d:Nat,(Op.equalIn (d+1) t (.pointer none) (.pointer none)).run P w= .ok true w:=fun d=>by simp [Op.equalIn,run_underlying h]
 exact hd 9999
theorem qm7 (t t3:TypeId) (ad:Addr) (h:P.underlying t=some (.pointer t3)):(Op.equal t (.pointer (some ad)) (.pointer none)).run P w= .ok false w:=by
 have hd: ∀d:Nat,(Op.equalIn (d+1) t (.pointer (some ad)) (.pointer none)).run P w= .ok false w:=fun d=>by simp [Op.equalIn,run_underlying h]
 exact hd 9999
theorem R_mv (hx:ev ρ x=v):(execOp (ev ρ) ⟨dst,.move x,ty,pos,af,g⟩).run P w= .ok (.value v) w:=by subst hx;rfl
theorem R_as (hx:ev ρ x=v):(execOp (ev ρ) ⟨dst,.assign x,ty,pos,af,g⟩).run P w= .ok (.value v) w:=by subst hx;rfl
theorem qk1 (hx:ev ρ x= .int ik a) (hy:ev ρ y= .int ik b) {t1 t2:TypeId}:(execOp (ev ρ) ⟨dst,.binOp .add t1 x y t2,ty,pos,af,g⟩).run P w= .ok (.value (.int ik (ik.wrap (a+b)))) w:=by
 unfold execOp;simp only [hx,hy];simp [binOp,eqGuard,Op.intArith]
theorem qq5 (hx:ev ρ x= .int ik a) (hy:ev ρ y= .int ik b) {t1 t2:TypeId}:(execOp (ev ρ) ⟨dst,.binOp .sub t1 x y t2,ty,pos,af,g⟩).run P w= .ok (.value (.int ik (ik.wrap (a - b)))) w:=by
 unfold execOp;simp only [hx,hy];simp [binOp,eqGuard,Op.intArith]
theorem qt3 (hx:ev ρ x= .int ik a) (hy:ev ρ y= .int ik b) {t1 t2:TypeId}:(execOp (ev ρ) ⟨dst,.binOp .mul t1 x y t2,ty,pos,af,g⟩).run P w= .ok (.value (.int ik (ik.wrap (a *b)))) w:=by
 unfold execOp;simp only [hx,hy];simp [binOp,eqGuard,Op.intArith]
theorem qsJ (hx:ev ρ x= .int ik a) (hy:ev ρ y= .int ik b) (hb:b≠0) {t1 t2:TypeId}:(execOp (ev ρ) ⟨dst,.binOp .quo t1 x y t2,ty,pos,af,g⟩).run P w= .ok (.value (.int ik (ik.wrap (a.tdiv b)))) w:=by
 unfold execOp;simp only [hx,hy];simp [binOp,eqGuard,Op.intDiv,hb]
theorem qsK (hx:ev ρ x= .int ik a) (hy:ev ρ y= .int ik b) (hb:b≠0) {t1 t2:TypeId}:(execOp (ev ρ) ⟨dst,.binOp .rem t1 x y t2,ty,pos,af,g⟩).run P w= .ok (.value (.int ik (a.tmod b))) w:=by
 unfold execOp;simp only [hx,hy];simp [binOp,eqGuard,Op.intDiv,hb]
theorem qg2 (hx:ev ρ x= .int ik a) (hy:ev ρ y= .int ik b) {t1 t2:TypeId}:(execOp (ev ρ) ⟨dst,.binOp .lss t1 x y t2,ty,pos,af,g⟩).run P w= .ok (.value (.bool (decide (a<b)))) w:=by
 unfold execOp;simp only [hx,hy];simp [binOp,eqGuard,Op.intCmp]
theorem qt2 (hx:ev ρ x= .int ik a) (hy:ev ρ y= .int ik b) {t1 t2:TypeId}:(execOp (ev ρ) ⟨dst,.binOp .leq t1 x y t2,ty,pos,af,g⟩).run P w= .ok (.value (.bool (decide (a≤b)))) w:=by
 unfold execOp;simp only [hx,hy];simp [binOp,eqGuard,Op.intCmp]
theorem qsE (hx:ev ρ x= .int ik a) (hy:ev ρ y= .int ik b) {t1 t2:TypeId}:(execOp (ev ρ) ⟨dst,.binOp .gtr t1 x y t2,ty,pos,af,g⟩).run P w= .ok (.value (.bool (decide (b<a)))) w:=by
 unfold execOp;simp only [hx,hy];simp [binOp,eqGuard,Op.intCmp]
theorem qsB (hx:ev ρ x= .int ik a) (hy:ev ρ y= .int ik b) {t1 t2:TypeId}:(execOp (ev ρ) ⟨dst,.binOp .geq t1 x y t2,ty,pos,af,g⟩).run P w= .ok (.value (.bool (decide (b≤a)))) w:=by
 unfold execOp;simp only [hx,hy];simp [binOp,eqGuard,Op.intCmp]
theorem qt0 (hx:ev ρ x= .int ik a) (hy:ev ρ y= .int ik b) {t1 t2:TypeId}:(execOp (ev ρ) ⟨dst,.binOp .eql t1 x y t2,ty,pos,af,g⟩).run P w= .ok (.value (.bool (decide (a=b)))) w:=by
 unfold execOp;simp only [hx,hy];simp [binOp,eqGuard,Op.intCmp];exact (Bool.beq_eq_decide_eq a b)
theorem qt6 (hx:ev ρ x= .int ik a) (hy:ev ρ y= .int ik b) {t1 t2:TypeId}:(execOp (ev ρ) ⟨dst,.binOp .neq t1 x y t2,ty,pos,af,g⟩).run P w= .ok (.value (.bool (decide (a≠b)))) w:=by
 unfold execOp;simp only [hx,hy];simp [binOp,eqGuard,Op.intCmp];rw [bne,Bool.beq_eq_decide_eq]
theorem qtW (hx:ev ρ x= .int ik a) (hy:ev ρ y= .int ik b) {t1 t2:TypeId}:(execOp (ev ρ) ⟨dst,.binOp .and t1 x y t2,ty,pos,af,g⟩).run P w= .ok (.value (.int ik (band ik a b))) w:=by
 unfold execOp;simp only [hx,hy];simp [binOp,eqGuard,Op.intBits,band]
theorem R_or (hx:ev ρ x= .int ik a) (hy:ev ρ y= .int ik b) {t1 t2:TypeId}:(execOp (ev ρ) ⟨dst,.binOp .or t1 x y t2,ty,pos,af,g⟩).run P w= .ok (.value (.int ik (bor ik a b))) w:=by
 unfold execOp;simp only [hx,hy];simp [binOp,eqGuard,Op.intBits,bor]
theorem qt8 (hx:ev ρ x= .int ik a) (hy:ev ρ y= .int ik b) {t1 t2:TypeId}:(execOp (ev ρ) ⟨dst,.binOp .xor t1 x y t2,ty,pos,af,g⟩).run P w= .ok (.value (.int ik (bxor ik a b))) w:=by
 unfold execOp;simp only [hx,hy];simp [binOp,eqGuard,Op.intBits,bxor]
theorem qsP (hx:ev ρ x= .int ik a) (hy:ev ρ y= .int ik' b) (hb:0≤b) {t1 t2:TypeId}:(execOp (ev ρ) ⟨dst,.binOp .shl t1 x y t2,ty,pos,af,g⟩).run P w= .ok (.value (.int ik (shl ik a b))) w:=by
 unfold execOp;simp only [hx,hy];simp [binOp,eqGuard,Op.shift,shl,show ¬b<0 from by omega]
theorem qsQ (hx:ev ρ x= .int ik a) (hy:ev ρ y= .int ik' b) (hb:0≤b) {t1 t2:TypeId}:(execOp (ev ρ) ⟨dst,.binOp .shr t1 x y t2,ty,pos,af,g⟩).run P w= .ok (.value (.int ik (shr ik a b))) w:=by
 unfold execOp;simp only [hx,hy];simp [binOp,eqGuard,Op.shift,shr,show ¬b<0 from by omega]
theorem qtZ (hx:ev ρ x= .bool p) (hy:ev ρ y= .bool q) {t1 t2:TypeId} (ht:P.underlying t1=some .bool):(execOp (ev ρ) ⟨dst,.binOp .eql t1 x y t2,ty,pos,af,g⟩).run P w= .ok (.value (.bool (decide (p=q)))) w:=by
 unfold execOp;simp only [hx,hy];simp [binOp,eqGuard,qm5 _ ht];cases p<;>cases q<;>rfl
theorem qt4 (hx:ev ρ x= .bool p) (hy:ev ρ y= .bool q) {t1 t2:TypeId} (ht:P.underlying t1=some .bool):(execOp (ev ρ) ⟨dst,.binOp .neq t1 x y t2,ty,pos,af,g⟩).run P w= .ok (.value (.bool (decide (p≠q)))) w:=by
 unfold execOp;simp only [hx,hy];simp [binOp,eqGuard,qm5 _ ht];cases p<;>cases q<;>rfl
theorem qhV (hx:ev ρ x= .bool p) {t1:TypeId}:(execOp (ev ρ) ⟨dst,.unOp .not t1 x,ty,pos,af,g⟩).run P w= .ok (.value (.bool (!p))) w:=by
 unfold execOp;simp only [hx];simp [Op.unary]
theorem qt5 (hx:ev ρ x= .int ik a) {t1:TypeId}:(execOp (ev ρ) ⟨dst,.unOp .neg t1 x,ty,pos,af,g⟩).run P w= .ok (.value (.int ik (ik.wrap (0 - a)))) w:=by
 unfold execOp;simp only [hx];simp [Op.unary,Op.intArith]
theorem qtX (hx:ev ρ x= .int ik a) {t1:TypeId}:(execOp (ev ρ) ⟨dst,.unOp .xor t1 x,ty,pos,af,g⟩).run P w= .ok (.value (.int ik (bxor ik (if ik.signed then -1 else ik.max) a))) w:=by
 unfold execOp;simp only [hx];simp [Op.unary,Op.intBits,bxor]
theorem qsz (hx:ev ρ x= .int ik' a) {t1 t2:TypeId} {d1:TypeDesc} (h1:P.underlying t1=some d1) (h2:P.underlying t2=some (.int ik)):(execOp (ev ρ) ⟨dst,.convert t1 t2 x,ty,pos,af,g⟩).run P w= .ok (.value (.int ik (ik.wrap a))) w:=by
 unfold execOp;simp only [hx];simp [convert,run_underlying h1,run_underlying h2,Conv.intToInt]
theorem qaL {ad:Addr} (hx:ev ρ x= .pointer (some ad)):(execOp (ev ρ) ⟨dst,.nilCheck x,ty,pos,af,g⟩).run P w= .ok (.value (.pointer (some ad))) w:=by
 unfold execOp;simp only [hx];rfl
theorem qk3 {ad:Addr} (hx:ev ρ x= .pointer (some ad)) (hy:ev ρ y= .pointer none) {t1 t2 t3:TypeId} (ht:P.underlying t1=some (.pointer t3)):(execOp (ev ρ) ⟨dst,.binOp .eql t1 x y t2,ty,pos,af,g⟩).run P w= .ok (.value (.bool false)) w:=by
 unfold execOp;simp only [hx,hy];simp [binOp,eqGuard,qm7 _ _ _ ht]
theorem qmg {ad:Addr} (hx:ev ρ x= .pointer (some ad)) (hy:ev ρ y= .pointer none) {t1 t2 t3:TypeId} (ht:P.underlying t1=some (.pointer t3)):(execOp (ev ρ) ⟨dst,.binOp .neq t1 x y t2,ty,pos,af,g⟩).run P w= .ok (.value (.bool true)) w:=by
 unfold execOp;simp only [hx,hy];simp [binOp,eqGuard,qm7 _ _ _ ht]
theorem qgo (hx:ev ρ x= .pointer none) (hy:ev ρ y= .pointer none) {t1 t2 t3:TypeId} (ht:P.underlying t1=some (.pointer t3)):(execOp (ev ρ) ⟨dst,.binOp .eql t1 x y t2,ty,pos,af,g⟩).run P w= .ok (.value (.bool true)) w:=by
 unfold execOp;simp only [hx,hy];simp [binOp,eqGuard,qm6 _ _ ht]
theorem qhW (hx:ev ρ x= .pointer none) (hy:ev ρ y= .pointer none) {t1 t2 t3:TypeId} (ht:P.underlying t1=some (.pointer t3)):(execOp (ev ρ) ⟨dst,.binOp .neq t1 x y t2,ty,pos,af,g⟩).run P w= .ok (.value (.bool false)) w:=by
 unfold execOp;simp only [hx,hy];simp [binOp,eqGuard,qm6 _ _ ht]
theorem qg1 {vs:Array Value} {i:Nat} (hx:ev ρ x= .tuple vs) (hi:vs[i]?=some v):(execOp (ev ρ) ⟨dst,.extract x i,ty,pos,af,g⟩).run P w= .ok (.value v) w:=by
 unfold execOp;simp only [hx];simp [Instr.extract,hi]
theorem R_fn {fn:Fn} {fs cs:Array Operand} {vs us:Array Value} (h1:fs.map (ev ρ)=vs) (h2:cs.map (ev ρ)=us):(execOp (ev ρ) ⟨dst,.makeFunc fn fs cs,ty,pos,af,g⟩).run P w= .ok (.value (.func fn vs us)) w:=by
 unfold execOp;simp only [h1,h2];rfl
theorem R_fa {bl o:Nat} {fs:Array Field} {fd:Field} {f off:Nat} {t1:TypeId} (hx:ev ρ x= .pointer (some ⟨bl,o,none⟩)) (hu:P.underlying t1=some (.struct fs)) (hf:fs[f]?=some fd) (ho:fd.offset=off) (hT:TyOk P fd.type k by_) (hsz:(Nat.beq k.sz 0)=false):
 (execOp (ev ρ) ⟨dst,.fieldAddr t1 x f,ty,pos,af,g⟩).run P w= .ok (.value (.pointer (some ⟨bl,o+off,none⟩))) w:=by
 unfold execOp
 have h0:k.sz≠0:=fun h=>by rw [h] at hsz;cases hsz
 simp only [hx]
 simp [Instr.fieldAt,run_underlying hu,hf,Instr.sureAddr,fieldPlace,hT.size,h0,ho,qbe]
theorem qsF {bl o n:Nat} {i:Int} {t1 te:TypeId} (hx:ev ρ x= .pointer (some ⟨bl,o,none⟩)) (hy:ev ρ y= .int ik i) (hu:P.underlying t1=some (.array n te)) (hT:TyOk P te k by_) (h0:0≤i) (h1:i<n):
 (execOp (ev ρ) ⟨dst,.indexAddr t1 x y,ty,pos,af,g⟩).run P w= .ok (.value (.pointer (some ⟨bl,o+i.toNat *k.sz,none⟩))) w:=by
 unfold execOp
 simp only [hx,hy]
 simp [Instr.indexAt,asIntOf,run_underlying hu,Instr.sureAddr,hT.size,h0,h1,qbe]
theorem qdZ {l:List α} (hx:ev ρ x=v) (hV:(Kd.sl k).V K l v) {t1 te:TypeId} (hu:P.underlying t1=some (.slice te)):
 (execOp (ev ρ) ⟨dst,.call { callee:= .builtin .len,args:= #[x],argTypes:= #[t1] },ty,pos,af,g⟩).run P w= .ok (.value (.int .i64 (l.length:Int))) w:=by
 obtain ⟨A,cap,rfl,_⟩:=qbC hV
 unfold execOp
 simp [resolve,invoke,builtin,hx,Builtin.len_,run_underlying hu,goInt]
theorem qsH {s:List UInt8} (hx:ev ρ x= .string ⟨s.toArray⟩) {t1:TypeId} (hu:P.underlying t1=some .string):
 (execOp (ev ρ) ⟨dst,.call { callee:= .builtin .len,args:= #[x],argTypes:= #[t1] },ty,pos,af,g⟩).run P w= .ok (.value (.int .i64 (s.length:Int))) w:=by
 unfold execOp
 simp [resolve,invoke,builtin,hx,Builtin.len_,run_underlying hu,goInt]
 rfl
theorem qsG {n:Nat} {t1 te:TypeId} (hx:ev ρ x=v) (hu:P.underlying t1=some (.array n te)):
 (execOp (ev ρ) ⟨dst,.call { callee:= .builtin .len,args:= #[x],argTypes:= #[t1] },ty,pos,af,g⟩).run P w= .ok (.value (.int .i64 (n:Int))) w:=by
 unfold execOp
 simp [resolve,invoke,builtin,Builtin.len_,run_underlying hu,goInt]
theorem qeV [Inhabited α] {l:List α} {i:Int} {t1:TypeId} (hx:ev ρ x=v) (hV:(Kd.sl k).V K l v) (hy:ev ρ y= .int ik i) (hu:P.underlying t1=some (.slice e)) (hT:TyOk P e k by_) (h0:0≤i) (h1:i<(l.length:Int)):
 ∃bl o,(∀w:World,(execOp (ev ρ) ⟨dst,.indexAddr t1 x y,ty,pos,af,g⟩).run P w= .ok (.value (.pointer (some ⟨bl,o,none⟩))) w)∧k.Pt K (ix l i) (.pointer (some ⟨bl,o,none⟩)):=by
 obtain ⟨A,cap,rfl,hc,hlm,hwf,hS⟩:=qbC hV
 rcases hS with rfl | ⟨b,e2,pre,mid,post,rfl,hK,hR⟩
 ·simp at h1;omega
 ·have hi:i.toNat<l.length:=by omega
  have hlen:=RL.len (fun _ _=>k.len) hR
  have hge:(i.toNat+1) *k.sz≤mid.length:=by rw [hlen];exact Nat.mul_le_mul_right _ hi
  have hadd:(i.toNat+1) *k.sz=i.toNat *k.sz+k.sz:=by rw [Nat.add_mul,Nat.one_mul]
  refine ⟨b,pre.length+i.toNat *k.sz,?_,b,e2,pre++mid.take (i.toNat *k.sz),(mid.drop (i.toNat *k.sz)).take k.sz,mid.drop ((i.toNat+1) *k.sz)++post,?_,?_,?_⟩
  ·intro w
   unfold execOp
   simp only [hx,hy]
   simp [Instr.indexAt,asIntOf,run_underlying hu,hT.size,h0,h1,qbe]
  ·rw [List.length_append,List.length_take,Nat.min_eq_left (by omega)]
  ·rw [hK,hadd]
   congr 2
   rw [←List.drop_drop]
   simp only [List.append_assoc]
   rw [←List.append_assoc (List.take k.sz _),List.take_append_drop,←List.append_assoc (List.take _ mid),List.take_append_drop]
  ·rw [qaR hi];exact RL.get (fun _ _=>k.len) hR _ hi
theorem S_ld {X:α} {ad:Addr} {Z:Nat→Prop} (hx:ev ρ x= .pointer (some ad)) (hT:TyOk P t k by_) (h:k.Pt K X (.pointer (some ad))):
 ∃v,(∀w' K',Ext Z w K w' K'→Models w' K'→(execOp (ev ρ) ⟨dst,.load t x,ty,pos,af,g⟩).run P w'= .ok (.value v) w')∧k.V K X v:=by
 obtain ⟨v,hr,hV⟩:=h.loadH hT
 refine ⟨v,fun w' K' hE hM=>?_,hV⟩
 unfold execOp
 simp only [hx]
 simp [Instr.loadAt,Instr.sureAddr,hr w' K' hE.le hM]
theorem qa9 {X:α} {off o bl:Nat} {gg:α→β} {ss:α→β→α} {Z:Nat→Prop} (F:Foc k k' off gg ss) {pre post:List Value} (hx:ev ρ x= .pointer (some ⟨bl,o,none⟩)) (hT:TyOk P t k' by_) (h:Bx k w K bl pre post X) (ho:o=pre.length+off) (hZ: ¬Z bl):
 ∃v,(∀w' K',Ext Z w K w' K'→Models w' K'→(execOp (ev ρ) ⟨dst,.load t x,ty,pos,af,g⟩).run P w'= .ok (.value v) w')∧k'.V K (gg X) v:=by
 obtain ⟨v,hr,hV⟩:=h.loadH hT F
 refine ⟨v,fun w' K' hE hM=>?_,hV⟩
 subst ho
 unfold execOp
 simp only [hx]
 simp [Instr.loadAt,Instr.sureAddr,hr w' K' hE.le (hE.heap _ h.lt hZ)]
theorem qg3 {X:α} {Y:β} {off o bl:Nat} {gg:α→β} {ss:α→β→α} (F:Foc k k' off gg ss) {pre post:List Value} (hM:Models w K) (hx:ev ρ x= .pointer (some ⟨bl,o,none⟩)) (hy:ev ρ y=v) (hV:k'.V K Y v) (hT:TyOk P t k' by_) (h:Bx k w K bl pre post X) (ho:o=pre.length+off):
 ∃w',(execOp (ev ρ) ⟨dst,.store t x y,ty,pos,af,g⟩).run P w= .ok .skip w'∧Bx k w' K bl pre post (ss X Y)∧Ext (· =bl) w K w' K∧Models w' K:=by
 obtain ⟨w',hr,hB,hE,hM'⟩:=h.store hT hM F hV
 refine ⟨w',?_,hB,hE,hM'⟩
 subst ho
 unfold execOp
 simp only [hx,hy]
 simp [Instr.storeAt,Instr.sureAddr,hr]
theorem qeU {X:α} (hM:Models w K) (hx:ev ρ x=v) (hV:k.V K X v):
 ∃bl w',(execOp (ev ρ) ⟨dst,.box t x,ty,pos,af,g⟩).run P w= .ok (.value (.pointer (some ⟨bl,0,none⟩))) w'∧Bx k w' K bl [] [] X∧Ext NX w K w' K∧Models w' K∧w.heap.size≤bl:=by
 refine ⟨w.heap.size,w.alloc (.cells v.cells.toList.toArray t),?_,Bx.new hM t hV.cells,Ext.alloc _ _ _,hM.alloc _,Nat.le_refl _⟩
 unfold execOp
 simp only [hx]
 simp [Instr.box,newVar,newRow]
theorem qcW (hM:Models w K) (hT:TyOk P t k by_):
 ∃bl w',(execOp (ev ρ) ⟨dst,.alloc t,ty,pos,af,g⟩).run P w= .ok (.value (.pointer (some ⟨bl,0,none⟩))) w'∧Bx k w' K bl [] [] k.z∧Ext NX w K w' K∧Models w' K∧w.heap.size≤bl:=by
 obtain ⟨z,hz,hV⟩:=hT.zero (K:=K)
 refine ⟨w.heap.size,w.alloc (.cells z.cells.toList.toArray t),?_,Bx.new hM t hV.cells,Ext.alloc _ _ _,hM.alloc _,Nat.le_refl _⟩
 unfold execOp
 simp [Instr.alloc,hz,newVar,newRow]
theorem qdt (hT:TyOk P t k' by_) {c:Array Value} {off:Nat} {Y:β} {pre mid post:List Value} (hc:c.toList=pre++mid++post) (ho:pre.length=off) (hR:k'.R K Y mid): ∃v,(∀w:World,(part t c off).run P w= .ok v w)∧k'.V K Y v:=by
 have hl:=k'.len hR
 cases ha:k'.agg with
 | true=>
   refine ⟨.agg mid.toArray,fun w=>?_,Kd.V.mk hR ha⟩
   have:c.extract off (off+k'.sz)=mid.toArray:=by
    apply Array.ext'
    rw [Array.toList_extract,hc,List.extract_eq_take_drop,←ho]
    simp only [List.append_assoc,List.drop_left,Nat.add_sub_cancel_left]
    rw [←hl,List.take_left]
   simp [part,hT.isAgg,hT.size,ha,this]
 | false=>
   rw [k'.hs ha] at hl
   obtain ⟨u,rfl⟩:=List.length_eq_one_iff.1 hl
   refine ⟨u,fun w=>?_,Kd.V.mk1 hR ha⟩
   have:c[off]?=some u:=by
    rw [←Array.getElem?_toList,hc,←ho]
    simp
   simp [part,hT.isAgg,ha,this]
theorem qbV {X:α} (hV:k.V K X v) (ha:k.agg=true): ∃c,v= .agg c∧k.R K X c.toList:=by
 obtain ⟨cs,h,rfl⟩:=hV
 simp only [ha,if_true]
 exact ⟨_,rfl,by simpa using h⟩
theorem qt9 {X:α} {off:Nat} {gg:α→β} {ss:α→β→α} (F:Foc k k' off gg ss) {fs:Array Field} {fd:Field} {f:Nat} {t1:TypeId} (hx:ev ρ x=v) (hV:k.V K X v) (ha:k.agg=true) (hu:P.underlying t1=some (.struct fs)) (hf:fs[f]?=some fd) (ho:fd.offset=off) (hT:TyOk P fd.type k' by_):
 ∃u,(∀w:World,(execOp (ev ρ) ⟨dst,.field t1 x f,ty,pos,af,g⟩).run P w= .ok (.value u) w)∧k'.V K (gg X) u:=by
 obtain ⟨c,rfl,hR⟩:=qbV hV ha
 obtain ⟨pre,mid,post,hc,hl,hR',_⟩:=F.foc hR
 obtain ⟨u,hr,hu'⟩:=qdt (P:=P) hT hc hl hR'
 refine ⟨u,fun w=>?_,hu'⟩
 unfold execOp
 simp only [hx]
 simp [Instr.field,run_underlying hu,hf,asAgg,ho,hr]
theorem qs1 [Inhabited α] {l:List α} {n:Nat} {i:Int} {t1 te:TypeId} (hx:ev ρ x=v) (hV:(Kd.arr n k).V K l v) (hy:ev ρ y= .int ik i) (hu:P.underlying t1=some (.array n te)) (hT:TyOk P te k by_) (h0:0≤i) (h1:i<(n:Int)):
 ∃u,(∀w:World,(execOp (ev ρ) ⟨dst,.index t1 x y,ty,pos,af,g⟩).run P w= .ok (.value u) w)∧k.V K (ix l i) u:=by
 obtain ⟨c,rfl,hR⟩:=qbV hV rfl
 obtain ⟨pre,mid,post,hc,hl,hR',_⟩:=(Foc.arr n k i h0 h1).foc hR
 obtain ⟨u,hr,hu'⟩:=qdt (P:=P) hT hc hl hR'
 refine ⟨u,fun w=>?_,hu'⟩
 unfold execOp
 simp only [hx,hy]
 simp [Instr.index,asIntOf,run_underlying hu,h0,h1,hT.size,hr]
theorem qq8 {X Y:List α} {t1:TypeId} (hM:Models w K) (hx:ev ρ x=v) (hO:Own k e w K X v) (hy:ev ρ y=u) (hV:(Kd.sl k).V K Y u) (ht:P.underlying t1=some (.slice e)) (hT:TyOk P e k by_) (hsz:(Nat.blt 0 k.sz && Nat.blt 0 by_)=true) (hlen:(X.length+Y.length) *by_≤140737488355328):
 ∃v' w' K',(execOp (ev ρ) ⟨dst,.call { callee:= .builtin .append,args:= #[x,y],argTypes:= #[t1,t1] },ty,pos,af,g⟩).run P w= .ok (.value v') w'∧Own k e w' K' (X++Y) v'∧Ext (fun b=>ob v=some b) w K w' K'∧Models w' K'∧(ob v'=ob v∨ob v'=some w.heap.size):=by
 simp only [Bool.and_eq_true] at hsz
 obtain ⟨v',w',K',hr,h1,h2,h3,h4⟩:=qk4 (ty:=ty) ht hT (Nat.le_of_ble_eq_true hsz.1) hM hO hV hlen (Nat.le_of_ble_eq_true hsz.2)
 refine ⟨v',w',K',?_,h1,h2,h3,h4⟩
 unfold execOp
 simp [resolve,invoke,builtin,hx,hy,hr]
end
end Go.Inc

set_option linter.unusedVariables false
namespace Go.Inc
open Go Go.RowKit
section
variable {P:Program} {α β γ:Type} {k:Kd α} {k':Kd β} {k'':Kd γ} {e t:TypeId} {by_:Nat} {w:World} {K:Ghost} {ρ:Env}
variable {dst:Option Tmp} {ty:TypeId} {pos:String} {af:Array Edge} {g:Option (Nat×Bool)} {x y z:Operand} {v u:Value} {ik ik':IntKind} {a b:Int} {p q:Bool}
theorem qbE {f:FuncId} {xs:List Operand} {vs:List Value} {ts:Array TypeId} (hc: ∀(args:Array Value) (w:World),(callFunc f args).run P w= .ok (.enter f args) w) (ha:xs.map (ev ρ)=vs):
 (execOp (ev ρ) ⟨dst,.call { callee:= .value (.func f),args:=xs.toArray,argTypes:=ts },ty,pos,af,g⟩).run P w= .ok (.enter f vs.toArray) w:=by
 subst ha
 unfold execOp
 simp [resolve,Deferred.ofValue,invoke,ev,hc]
theorem qmd {f:FuncId} {fo:Operand} {cs:List Value} {xs:List Operand} {vs:List Value} {ts:Array TypeId} (hf:ev ρ fo= .func (.func f) #[] cs.toArray) (hc: ∀(args:Array Value) (w:World),(callFunc f args).run P w= .ok (.enter f args) w) (ha:xs.map (ev ρ)++cs=vs):
 (execOp (ev ρ) ⟨dst,.call { callee:= .value fo,args:=xs.toArray,argTypes:=ts },ty,pos,af,g⟩).run P w= .ok (.enter f vs.toArray) w:=by
 subst ha
 unfold execOp
 simp [resolve,hf,Deferred.ofValue,invoke,hc]
theorem qkA {rs:Array ResultVar} (h:rs= #[]):(resE P rs ρ).run P w= .ok (.tuple #[]) w:=by subst h;simp [resE]
theorem qcv {rs:Array ResultVar} {t1:Tmp} (h:rs= #[.tmp t1]) (h1:ρ t1=v):(resE P rs ρ).run P w= .ok v w:=by subst h;simp [resE,h1]
theorem qnJ {rs:Array ResultVar} {t1 t2:Tmp} {v1 v2:Value} (h:rs= #[.tmp t1,.tmp t2]) (h1:ρ t1=v1) (h2:ρ t2=v2):(resE P rs ρ).run P w= .ok (.tuple #[v1,v2]) w:=by subst h;simp [resE,h1,h2]
theorem qql {rs:Array ResultVar} {t1 t2 t3:Tmp} {v1 v2 v3:Value} (h:rs= #[.tmp t1,.tmp t2,.tmp t3]) (h1:ρ t1=v1) (h2:ρ t2=v2) (h3:ρ t3=v3):(resE P rs ρ).run P w= .ok (.tuple #[v1,v2,v3]) w:=by subst h;simp [resE,h1,h2,h3]
theorem qqm {rs:Array ResultVar} {t1:Tmp} {T:TypeId} {bl:Nat} {X:α} (h:rs= #[.cell t1 T]) (h1:ρ t1= .pointer (some ⟨bl,0,none⟩)) (hT:TyOk P T k by_) (hB:Bx k w K bl [] [] X): ∃v,(resE P rs ρ).run P w= .ok v w∧k.V K X v:=by
 obtain ⟨v,hr,hV⟩:=hB.load hT (Foc.id k)
 have hr':(loadVar T ⟨bl,0,none⟩).run P w= .ok v w:=hr
 refine ⟨v,?_,hV⟩
 subst h
 simp [resE,h1,asAddr,hr']
theorem qe0 (hw:(Kd.int ik).wf a):(Kd.int ik).V K a (.int ik a):=⟨[.int ik a],⟨rfl,hw⟩,rfl⟩
theorem qbk (h:(Kd.int ik).V K a v):v= .int ik a:=by
 obtain ⟨cs,⟨rfl,_⟩,rfl⟩:=h
 rfl
theorem qcp:Kd.bool.V K p (.bool p):=⟨[.bool p],rfl,rfl⟩
theorem qbP (h:Kd.bool.V K p v):v= .bool p:=by
 obtain ⟨cs,rfl,rfl⟩:=h
 rfl
theorem qrP {s:List UInt8} (hw:s.length≤LM):Kd.str.V K s (.string ⟨s.toArray⟩):=⟨_,⟨rfl,hw⟩,rfl⟩
theorem qpG {s:List UInt8} (h:Kd.str.V K s v):v= .string ⟨s.toArray⟩:=by
 obtain ⟨cs,⟨rfl,_⟩,rfl⟩:=h
 rfl
def bI (c:UInt8):Int:=(c.toNat:Int)
def toB (a:Int):UInt8:=UInt8.ofNat a.toNat
theorem qul (c:UInt8):(Kd.int .u8).wf (bI c):=by
 have:=UInt8.toNat_lt c
 constructor
 ·show (0:Int)≤_;unfold bI;omega
 ·show _≤(255:Int);unfold bI;omega
theorem qmM {c:UInt8} (h:Kd.byte.V K c v):v= .int .u8 (bI c):=by
 obtain ⟨cs,rfl,rfl⟩:=h
 rfl
theorem qtg (hw:(Kd.int .u8).wf a):bI (toB a)=a:=by
 have h1:(0:Int)≤a:=hw.1
 have h2:a≤(255:Int):=hw.2
 unfold bI toB
 rw [UInt8.toNat_ofNat_of_lt' (by show a.toNat<256;omega)]
 omega
theorem qtj (hw:(Kd.int .u8).wf a):Kd.byte.V K (toB a) (.int .u8 a):=by
 have:=qtg hw
 unfold bI at this
 exact ⟨[.int .u8 a],by show [Value.int .u8 a]=[.int .u8 ((toB a).toNat:Int)];rw [this],rfl⟩
theorem qcm (ik:IntKind) (a:Int):(Kd.int ik).wf (ik.wrap a):=by
 cases ik<;>(constructor<;>simp only [IntKind.wrap,IntKind.min,IntKind.max,IntKind.signed,IntKind.bits]<;>(first | (simp;omega) | (split<;>simp<;>omega)))
theorem qaw {ik:IntKind} {a:Int} (h:(Kd.int ik).wf a):ik.wrap a=a:=by
 obtain ⟨h1,h2⟩:=h
 cases ik<;>simp only [IntKind.wrap,IntKind.min,IntKind.max,IntKind.signed,IntKind.bits] at * <;>(first | (simp at*;omega) | (simp at*;split<;>omega))
theorem qbv {n:Nat} (h:n≤LM):(Kd.int .i64).wf (n:Int):=by
 unfold LM at h
 constructor
 ·show (-9223372036854775808:Int)≤_;omega
 ·show _≤(9223372036854775807:Int);omega
theorem wf64 (h1: -9223372036854775808≤a) (h2:a≤9223372036854775807):(Kd.int .i64).wf a:=⟨h1,h2⟩
theorem qk2 {n:Int} (hx:ev ρ x= .int .i64 a) (hy:ev ρ y= .int .i64 1) (hw:(Kd.int .i64).wf a) (hlt:a<n) (hn:(Kd.int .i64).wf n) {t1 t2:TypeId}:
 (execOp (ev ρ) ⟨dst,.binOp .add t1 x y t2,ty,pos,af,g⟩).run P w= .ok (.value (.int .i64 (a+1))) w:=by
 rw [qk1 hx hy,qaw]
 have h1:(-9223372036854775808:Int)≤a:=hw.1
 have h2:n≤(9223372036854775807:Int):=hn.2
 exact wf64 (by omega) (by omega)
theorem qgA {n:Int} (hw:(Kd.int .i64).wf a) (hlt:a<n) (hn:(Kd.int .i64).wf n):(Kd.int .i64).wf (a+1):=by
 have h1:(-9223372036854775808:Int)≤a:=hw.1
 have h2:n≤(9223372036854775807:Int):=hn.2
 exact wf64 (by omega) (by omega)
theorem qqo {ik:IntKind} {a b:Int} (h:(Kd.int ik).wf a):(Kd.int ik).wf (shr ik a b):=by
 unfold shr
 have hp:(0:Int)<2^min b.toNat ik.bits:=Int.pow_pos (by omega)
 obtain ⟨h1,h2⟩:=h
 generalize (2:Int)^min b.toNat ik.bits=m at hp
 rw [Int.fdiv_eq_ediv_of_nonneg _ (by omega)]
 have hmin:ik.min≤0:=by cases ik<;>decide
 have hmax:0≤ik.max:=by cases ik<;>decide
 constructor
 ·refine Int.le_trans ?_ (Int.ediv_le_ediv hp h1)
  have h3:=Int.ediv_mul_le ik.min (show m≠0 by omega)
  rw [Int.le_ediv_iff_mul_le hp]
  have:ik.min *m≤ik.min *1:=Int.mul_le_mul_of_nonpos_left hmin (by omega)
  omega
 ·rcases Int.lt_or_le a 0 with hn | hn
  ·have:a/m<0:=Int.ediv_neg_of_neg_of_pos hn hp
   omega
  ·have:=Int.ediv_le_self m hn
   omega
theorem qnW {a:Int} (b:Int) (h:0≤a):a.tmod b≤a:=by
 obtain ⟨m,rfl⟩:=Int.eq_ofNat_of_zero_le h
 have h1:((m:Int).tmod b).natAbs=m%b.natAbs:=by rw [Int.natAbs_tmod];rfl
 have h2:=Nat.mod_le m b.natAbs
 omega
theorem qnX {ik:IntKind} {a b:Int} (h:(Kd.int ik).wf a):(Kd.int ik).wf (a.tmod b):=by
 obtain ⟨h1,h2⟩:=h
 have hmin:ik.min≤0:=by cases ik<;>decide
 have hmax:0≤ik.max:=by cases ik<;>decide
 rcases Int.lt_or_le a 0 with hn | hn
 ·have e:a.tmod b= -((-a).tmod b):=by rw [Int.neg_tmod,Int.neg_neg]
  have h3:=Int.tmod_nonneg b (show 0≤ -a by omega)
  have h4:(-a).tmod b≤ -a:=qnW b (by omega)
  exact ⟨by omega,by omega⟩
 ·have h3:=Int.tmod_nonneg b hn
  have h4:a.tmod b≤a:=qnW b hn
  exact ⟨by omega,by omega⟩
def RetV (k:Kd α) (w:World) (K:Ghost) (Q:α→Prop):Ending→World→Prop:=fun e w'=> ∃v K' r,e= .returned v∧Q r∧Ext NX w K w' K'∧Models w' K'∧k.V K' r v
def RetO (k:Kd α) (el:TypeId) (w:World) (K:Ghost) (Q:List α→Prop):Ending→World→Prop:=fun e w'=> ∃v K' r,e= .returned v∧Q r∧Ext NX w K w' K'∧Models w' K'∧Own k el w' K' r v∧(∀g,ob v=some g→w.heap.size≤g)
theorem RetV.imp {Q Q':α→Prop} {e:Ending} {w':World} (h:RetV k w K Q e w') (hQ: ∀r,Q r→Q' r):RetV k w K Q' e w':=by
 obtain ⟨v,K',r,h1,h2,h3⟩:=h
 exact ⟨v,K',r,h1,hQ r h2,h3⟩
theorem RetO.imp {el:TypeId} {Q Q':List α→Prop} {e:Ending} {w':World} (h:RetO k el w K Q e w') (hQ: ∀r,Q r→Q' r):RetO k el w K Q' e w':=by
 obtain ⟨v,K',r,h1,h2,h3⟩:=h
 exact ⟨v,K',r,h1,hQ r h2,h3⟩
theorem qe8 (sz:Nat) (hR: ∀x cs,k.R K x cs→cs.length=sz): ∀(l:List (α×Value)) (i:Nat) (pre:List Value) (cells:Array Value),(∀p∈l,k.V K p.1 p.2)→pre.length=i *sz→cells.toList.take (i *sz)=pre→cells.size=(i+l.length) *sz→k.sz=sz→
 ∃c,Instr.fill (fun j=>some (j *sz,sz)) cells ((l.map (·.2)).zipIdx i |>.map fun p=>(p.2,p.1))=some c∧∃mid,c.toList=pre++mid∧RL (k.R K) (l.map (·.1)) mid
 | [],i,pre,cells,_,hp,ht,hs,hk=>⟨cells,rfl,[],by
     have:cells.toList.length=i *sz:=by simpa using hs
     rw [List.take_of_length_le (by omega)] at ht
     simpa using ht,rfl⟩
 | (a,v)::l,i,pre,cells,hV,hp,ht,hs,hk=>by
   have hv:=hV (a,v) (by simp)
   have hvs:=hv.size
   have hlen:cells.toList.length=(i+(l.length+1)) *sz:=by simpa using hs
   have hge:(i+1) *sz≤cells.toList.length:=by rw [hlen];exact Nat.mul_le_mul_right _ (by omega)
   have hadd:(i+1) *sz=i *sz+sz:=by rw [Nat.add_mul,Nat.one_mul]
   have fold: ∀(m:List Value) (o:Nat) (c:Array Value),o+m.length≤c.size→((m.zipIdx).foldl (fun cs (p:Value×Nat)=>cs.setIfInBounds (o+p.2) p.1) c).toList=c.toList.take o++m++c.toList.drop (o+m.length):=by
    have gen: ∀(m:List Value) (o s:Nat) (c:Array Value),o+s+m.length≤c.size→((m.zipIdx s).foldl (fun cs (p:Value×Nat)=>cs.setIfInBounds (o+p.2) p.1) c).toList=c.toList.take (o+s)++m++c.toList.drop (o+s+m.length):=by
     intro m
     induction m with
     | nil=>intro o s c _;simp
     | cons x m ih=>
       intro o s c hc
       simp only [List.length_cons] at hc
       rw [List.zipIdx_cons,List.foldl_cons,ih o (s+1) _ (by simp;omega)]
       simp only [Array.toList_setIfInBounds]
       have h1:(c.toList.set (o+s) x).take (o+(s+1))=c.toList.take (o+s)++ [x]:=by
        rw [←Nat.add_assoc,List.take_add_one]
        rw [List.take_set_of_le (Nat.le_refl _)]
        congr 1
        have:o+s<c.toList.length:=by simp;omega
        rw [List.getElem?_set_self this]
        rfl
       have h2:(c.toList.set (o+s) x).drop (o+(s+1)+m.length)=c.toList.drop (o+s+(m.length+1)):=by
        rw [List.drop_set_of_lt (by omega)]
        congr 1
        omega
       rw [h1,h2]
       simp
    intro m o c h
    simpa using gen m o 0 c (by simpa using h)
   have hlv:v.cells.toList.length=sz:=by simpa [hk] using hvs
   have hge':(i+1) *sz≤cells.size:=by simpa using hge
   have hf:=fold v.cells.toList (i *sz) cells (by rw [hlv];omega)
   rw [ht,hlv,←hadd] at hf
   obtain ⟨c,hc,mid,hm,hRm⟩:=qe8 sz hR l (i+1) (pre++v.cells.toList) (v.cells.zipIdx.foldl (fun cs (p:Value×Nat)=>cs.setIfInBounds (i *sz+p.2) p.1) cells) (fun p hp=>hV p (by simp [hp])) (by rw [List.length_append,hlv,hp,hadd]) (by
    rw [←Array.foldl_toList,Array.toList_zipIdx,hf]
    rw [List.take_append_of_le_length (by rw [List.length_append,hp,hlv];omega)]
    exact List.take_of_length_le (by rw [List.length_append,hp,hlv];omega)) (by
    have:(v.cells.zipIdx.foldl (fun cs (p:Value×Nat)=>cs.setIfInBounds (i *sz+p.2) p.1) cells).toList.length=(i+1+l.length) *sz:=by
     rw [←Array.foldl_toList,Array.toList_zipIdx,hf]
     simp only [List.length_append,List.length_drop,hp,hlv,hlen]
     rw [show i+(l.length+1)=i+1+l.length from by omega]
     have:(i+1) *sz≤(i+1+l.length) *sz:=Nat.mul_le_mul_right _ (by omega)
     omega
    simpa using this) hk
   refine ⟨c,?_,v.cells.toList++mid,by rw [hm];simp,v.cells.toList,mid,rfl,hv.cells,hRm⟩
   simp only [List.map_cons,List.zipIdx_cons,Instr.fill]
   have hvs':v.cells.size=sz:=hvs.trans hk
   have hcond: ¬((decide (v.cells.size≠sz) || decide (i *sz+v.cells.size>cells.size))=true):=by simp;omega
   rw [if_neg hcond]
   exact hc
theorem qiY {l:List (α×Value)} {ps:List (Nat×Operand)} {n:Nat} {t1:TypeId} (hM:Models w K) (hps:ps.map (fun p=>(p.1,ev ρ p.2))=((l.map (·.2)).zipIdx.map fun p=>(p.2,p.1))) (hV: ∀p∈l,k.V K p.1 p.2) (hn:n=l.length) (ht:P.underlying t1=some (.slice e)) (hT:TyOk P e k by_) (hsz:Nat.blt 0 k.sz=true) (hbig:Nat.ble (n *k.sz) 16777216=true):
 ∃v' w' K',(execOp (ev ρ) ⟨dst,.buildSlice t1 n ps.toArray,ty,pos,af,g⟩).run P w= .ok (.value v') w'∧Own k e w' K' (l.map (·.1)) v'∧Ext NX w K w' K'∧Models w' K'∧(∀g,ob v'=some g→w.heap.size≤g):=by
 have hsz':0<k.sz:=Nat.le_of_ble_eq_true hsz
 have hbig':n *k.sz≤16777216:=Nat.le_of_ble_eq_true hbig
 obtain ⟨i,z,hi,hsi,hz,hzc,hbi, -⟩:=hT.info
 have key: ∃c,(Instr.buildSlice t1 n ((l.map (·.2)).zipIdx.map fun p=>(p.2,p.1)).toArray).run P w= .ok (.slice (some ⟨w.heap.size,0,none⟩) n n) (w.alloc (.cells c e))∧RL (k.R K) (l.map (·.1)) c.toList:=by
  by_cases h0:n *k.sz=0
  ·obtain ⟨c,hc,mid,hm,hRm⟩:=qe8 (k:=k) (K:=K) k.sz (fun _ _=>k.len) l 0 [] ((Array.range (n *k.sz)).map ((#[]:Array Value)[· %(#[]:Array Value).size]!)) hV (by simp) (by simp) (by simp [hn]) rfl
   refine ⟨c,?_,by rw [hm];simpa using hRm⟩
   unfold Instr.buildSlice
   rw [Sem.run_bind,run_underlying ht w]
   simp only [Result.andThen_ok,Sem.run_bind,hT.size]
   rw [if_neg (by omega),if_pos h0]
   simp only [pure_bind,hc]
   simp [newRow]
  ·obtain ⟨c,hc,mid,hm,hRm⟩:=qe8 (k:=k) (K:=K) k.sz (fun _ _=>k.len) l 0 [] ((Array.range (n *k.sz)).map (z.cells[· %z.cells.size]!)) hV (by simp) (by simp) (by simp [hn]) rfl
   refine ⟨c,?_,by rw [hm];simpa using hRm⟩
   have hzv:(zeroValue e).run P w= .ok z w:=by simp [zeroValue,typeInfo,hi,hz]
   unfold Instr.buildSlice
   rw [Sem.run_bind,run_underlying ht w]
   simp only [Result.andThen_ok,Sem.run_bind,hT.size]
   rw [if_neg (by omega),if_neg h0]
   rw [Sem.run_bind,hzv]
   simp only [Result.andThen_ok,pure_bind,hc]
   simp [newRow]
 obtain ⟨c,hr,hRc⟩:=key
 have hlc:=RL.len (fun _ _=>k.len) hRc
 rw [List.length_map,←hn] at hlc
 have hnl:n≤16777216:=Nat.le_trans (Nat.le_mul_of_pos_right _ hsz') hbig'
 obtain ⟨K',h1,h2,h3⟩:=qjs (w:=w) (K:=K) (k:=k) (e:=e) (x:=l.map (·.1)) (l:=c.toList) (c:=c) (cap:=n) hM hsz' hRc (by
  intro y hy
  obtain ⟨p,hp,rfl⟩:=List.mem_map.1 hy
  exact (hV p hp).wf) (by rw [List.length_map,←hn];unfold LM;omega) (by rw [List.length_map,←hn];exact Nat.le_refl _) (by unfold maxLen;omega) (by simpa using hlc) (List.prefix_refl _)
 rw [List.length_map,←hn] at h1
 refine ⟨_,_,K',?_,h1,h2,h3,?_⟩
 ·unfold execOp
  simp only [List.map_toArray,hps]
  simp [hr]
 ·intro g hg
  cases n with
  | zero=>simp [ob] at hg
  | succ n=>simp [ob] at hg;omega
end
end Go.Inc

set_option linter.unusedVariables false
namespace Go.Inc
open Go Go.RowKit
def Slots (ρ:Env):List (Nat×Value)→Prop
 | []=>True
 | (d,v)::r=>ρ d=v∧Slots ρ r
theorem Slots.all {ρ:Env}: ∀ {l:List (Nat×Value)},Slots ρ l→∀p∈l,ρ p.1=p.2
 | [],_,p,hp=>by cases hp
 | (d,v)::r,h,p,hp=>by
   rcases List.mem_cons.1 hp with rfl | hp
   ·exact h.1
   ·exact h.2.all p hp
def lay (M:List Nat) (σ ρ:Env) (l:List (Nat×Value)):Env:=upds (ovl M σ ρ) l
theorem Off.updO {M:List Nat} {ρ ρ':Env} (h:Off M ρ ρ') {d:Nat} (hd:M.any (Nat.beq d)=true) (v:Value):Off M (updO ρ (some d) v) ρ':=h.upd hd v
theorem Off.updN {M:List Nat} {ρ ρ':Env} (h:Off M ρ ρ') (v:Value):Off M (Go.Inc.updO ρ none v) ρ':=h
def subB (M' M:List Nat):Bool:=M'.all fun t=>M.any (Nat.beq t)
theorem Off.upds {M:List Nat} {ρ ρ':Env} (h:Off M ρ ρ'): ∀(l:List (Nat×Value)),subB (l.map (·.1)) M=true→Off M (Go.Inc.upds ρ l) ρ'
 | [],_=>h
 | (d,v)::r,hs=>by
   simp only [subB,List.map_cons,List.all_cons,Bool.and_eq_true] at hs
   exact (h.upds r hs.2).upd hs.1 v
theorem Off.lay {M M':List Nat} {ρ ρ' σ:Env} {l:List (Nat×Value)} (h:Off M ρ ρ') (hs:(subB M' M && subB (l.map (·.1)) M)=true):Off M (Go.Inc.lay M' σ ρ l) ρ':=by
 simp only [Bool.and_eq_true] at hs
 refine Off.upds (fun t ht=>?_) l hs.2
 have hM:M'.any (Nat.beq t)=false:=by
  cases hx:M'.any (Nat.beq t) with
  | false=>rfl
  | true=>
    obtain ⟨u,hu,he⟩:=List.any_eq_true.1 hx
    have:=Nat.eq_of_beq_eq_true he
    subst this
    rw [List.all_eq_true.1 hs.1 t hu] at ht
    cases ht
 show (bif M'.any (Nat.beq t) then σ t else ρ t)=ρ' t
 rw [hM]
 exact h t ht
theorem Off.lay0 {M:List Nat} {ρ σ:Env} {l:List (Nat×Value)} (hs:subB (l.map (·.1)) M=true):Off M (Go.Inc.lay M σ ρ l) ρ:=by
 refine Off.upds (fun t ht=>?_) l hs
 show (bif M.any (Nat.beq t) then σ t else ρ t)=ρ t
 rw [ht]
 rfl
section
variable {P:Program} {n:Nat} {Q:Post} {ρ:Env} {w:World}
def qfj {ι:Type} (M:List Nat) (J:ι→List (Nat×Value)→World→Prop) (μ:ι→Nat) (ρ:Env) (i:ι):Env→World→Prop:=fun ρ' w''=> ∃i' l',J i' l' w''∧μ i'<μ i∧Off M ρ' ρ∧Slots ρ' l'
theorem qfj.mk {ι:Type} {M:List Nat} {J:ι→List (Nat×Value)→World→Prop} {μ:ι→Nat} {ρ ρ':Env} {i:ι} {w:World} (i':ι) (l':List (Nat×Value)) (h1:J i' l' w) (h2:μ i'<μ i) (h3:Off M ρ' ρ) (h4:Slots ρ' l'):qfj M J μ ρ i ρ' w:=⟨i',l',h1,h2,h3,h4⟩
theorem qdi {c:Code} {ι:Type} (M:List Nat) (J:ι→List (Nat×Value)→World→Prop) (μ:ι→Nat) (i0:ι) (l0:List (Nat×Value)) (h0:J i0 l0 w) (hl0:Slots ρ l0)
 (round: ∀i l σ w',J i l w'→WP P n c (qpJ (qfj M J μ ρ i) Q) (lay M σ ρ l) w'):WP P n (.loop c) Q ρ w:=by
 refine qmq (fun i ρ' w'=>Off M ρ' ρ∧∃l,J i l w'∧Slots ρ' l) μ i0 ⟨Off.refl _ _,l0,h0,hl0⟩ ?_
 rintro i ρ' w' ⟨hoff,l,hJ,hl⟩
 have he:ρ'=lay M ρ' ρ l:=rebase hoff l hl.all
 have hr:=round i l ρ' w' hJ
 rw [←he] at hr
 refine hr.mono ?_
 intro e ρ'' w'' hq
 cases e with
 | normal=>
   obtain ⟨i',l',h1,h2,h3,h4⟩:=hq
   exact ⟨i',⟨h3,l',h1,h4⟩,h2⟩
 | exit id=>exact hq
 | goto l=>exact hq
 | ret=>exact hq
 | panic ch=>exact hq
 | outgrown=>exact hq
attribute [irreducible] qfj
theorem qeX {p:Prop} [Decidable p] (h:decide p=true):p:=of_decide_eq_true h
theorem qeW {p:Prop} [Decidable p] (h:decide p=false): ¬p:=of_decide_eq_false h
end
end Go.Inc

set_option linter.unusedVariables false
namespace Go.Inc
open Go Go.RowKit
theorem Own.ne_type {α β:Type} {k:Kd α} {k':Kd β} {e e':TypeId} {w:World} {K:Ghost} {x:List α} {y:List β} {v u:Value} (h:Own k e w K x v) (h':Own k' e' w K y u) (hne:e≠e'): ∀g,ob v=some g→¬(ob u=some g):=fun g hg hx=>by
 obtain ⟨l,hl⟩:=h.known g hg
 obtain ⟨l',hl'⟩:=h'.known g hx
 rw [hl] at hl'
 cases hl'
 exact hne rfl
section
variable {P:Program} {n:Nat} {Q:Post} {ops:Array Oper} {rest:List Oper} {o:Oper} {ρ:Env} {w:World} {K:Ghost}
variable {α β:Type} {k:Kd α} {k':Kd β} {e t:TypeId} {by_:Nat}
end
section
variable {P:Program} {α β:Type} {k:Kd α} {k':Kd β} {e t:TypeId} {by_:Nat} {w:World} {K:Ghost} {ρ:Env}
variable {dst:Option Tmp} {ty:TypeId} {pos:String} {af:Array Edge} {g:Option (Nat×Bool)} {x y z:Operand} {v u:Value} {ik ik':IntKind} {a b:Int} {p q:Bool}
def RV1 (k:Kd α) (w:World) (K:Ghost) (r:α):Ending→World→Prop:=fun e w'=> ∃v K',e= .returned v∧Ext NX w K w' K'∧Models w' K'∧k.V K' r v
def RO1 (k:Kd α) (el:TypeId) (w:World) (K:Ghost) (r:List α):Ending→World→Prop:=fun e w'=> ∃v K',e= .returned v∧Ext NX w K w' K'∧Models w' K'∧Own k el w' K' r v∧(∀g,ob v=some g→w.heap.size≤g)
theorem RetV.one {r:α} {e:Ending} {w':World} (h:RetV k w K (fun x=>x=r) e w'):RV1 k w K r e w':=by
 obtain ⟨v,K',_,h1,rfl,h3⟩:=h
 exact ⟨v,K',h1,h3⟩
theorem RetO.one {r:List α} {el:TypeId} {e:Ending} {w':World} (h:RetO k el w K (fun x=>x=r) e w'):RO1 k el w K r e w':=by
 obtain ⟨v,K',_,h1,rfl,h3⟩:=h
 exact ⟨v,K',h1,h3⟩
theorem bI_V {c:UInt8}:Kd.byte.V K c (.int .u8 (bI c)):=⟨_,rfl,rfl⟩
theorem qqw {a:Int} (h:(Kd.int ik).wf a) (h1:ik'.min≤ik.min) (h2:ik.max≤ik'.max):(Kd.int ik').wf a:=⟨Int.le_trans h1 h.1,Int.le_trans h.2 h2⟩
theorem qtY (hx:ev ρ x= .int ik' a) {t1 t2:TypeId} {d1:TypeDesc} (h1:P.underlying t1=some d1) (h2:P.underlying t2=some (.int ik)) (hw:(Kd.int ik').wf a) (h3:ik.min≤ik'.min) (h4:ik'.max≤ik.max):(execOp (ev ρ) ⟨dst,.convert t1 t2 x,ty,pos,af,g⟩).run P w= .ok (.value (.int ik a)) w:=by
 rw [qsz hx h1 h2,qaw (qqw hw h3 h4)]
theorem qt1 {s:List UInt8} {i:Int} {t1:TypeId} (hx:ev ρ x= .string ⟨s.toArray⟩) (hy:ev ρ y= .int ik i) (hu:P.underlying t1=some .string) (h0:0≤i) (h1:i<(s.length:Int)):
 (execOp (ev ρ) ⟨dst,.index t1 x y,ty,pos,af,g⟩).run P w= .ok (.value (.int .u8 (bI (ix s i)))) w:=by
 have hi:i.toNat<s.length:=by omega
 have hs:(⟨s.toArray⟩:ByteArray)[i.toNat]?=some s[i.toNat]:=by
  rw [getElem?_pos (⟨s.toArray⟩:ByteArray) i.toNat (by show i.toNat<s.toArray.size;simpa using hi)]
  rfl
 unfold execOp
 simp only [hx,hy]
 simp [Instr.index,asIntOf,run_underlying hu,h0,hs,qaR hi,bI]
end
end Go.Inc

set_option linter.unusedVariables false
namespace Go.Inc
open Go Go.RowKit
section
variable {P:Program} {ρ:Env}
theorem mapN:([]:List Operand).map (ev ρ)=[]:=rfl
theorem mapC {x:Operand} {l:List Operand} {v:Value} {vs:List Value} (h:ev ρ x=v) (ht:l.map (ev ρ)=vs):(x::l).map (ev ρ)=v::vs:=by rw [List.map_cons,h,ht]
end
section
variable {P:Program} {w:World} {ρ:Env} {dst:Option Tmp} {ty:TypeId} {pos:String} {af:Array Edge} {g:Option (Nat×Bool)} {x y z:Operand} {p q:Prop} [Decidable p] [Decidable q]
end
end Go.Inc

set_option linter.unusedVariables false
namespace Go.Inc
open Go Go.RowKit
def qbj (c:UInt8):Value:= .int .u8 (c.toNat:Int)
theorem qg0 {K:Ghost}: ∀ {xs:List UInt8} {cs:List Value},RL (Kd.byte.R K) xs cs→cs=xs.map qbj
 | [],cs,h=>h
 | x::xs,cs,h=>by
   obtain ⟨c1,c2,rfl,h1,h2⟩:=h
   have h1':c1=[qbj x]:=h1
   rw [qg0 h2,h1']
   rfl
theorem qka {K:Ghost}: ∀(xs:List UInt8),RL (Kd.byte.R K) xs (xs.map qbj)
 | []=>rfl
 | x::xs=>⟨[qbj x],xs.map qbj,rfl,rfl,qka xs⟩
theorem qbO {K:Ghost} {n:Nat} {xs:List UInt8} {v:Value} (h:(Kd.arr n Kd.byte).V K xs v):v= .agg (xs.map qbj).toArray∧xs.length=n:=by
 obtain ⟨cs,⟨hl,hR⟩,rfl⟩:=h
 rw [qg0 hR]
 exact ⟨rfl,hl⟩
section
variable {P:Program} {α β:Type} {k:Kd α} {k':Kd β} {e t:TypeId} {by_:Nat} {w:World} {K:Ghost} {ρ:Env}
variable {dst:Option Tmp} {ty:TypeId} {pos:String} {af:Array Edge} {g:Option (Nat×Bool)} {x y z:Operand} {v u:Value} {ik ik':IntKind} {a b:Int} {p q:Bool}
theorem qha (s r:List UInt8):(s==r)=decide (s=r):=by
 rw [Bool.eq_iff_iff]
 simp
theorem qsM {s r:List UInt8} (hx:ev ρ x= .string ⟨s.toArray⟩) (hy:ev ρ y= .string ⟨r.toArray⟩) {t1 t2:TypeId} (ht:P.underlying t1=some .string):(execOp (ev ρ) ⟨dst,.binOp .eql t1 x y t2,ty,pos,af,g⟩).run P w= .ok (.value (.bool (decide (s=r)))) w:=by
 unfold execOp;simp only [hx,hy];simp [binOp,eqGuard,Op.stringOp,ByteArray.toList_eq,qha]
theorem qsT {s r:List UInt8} (hx:ev ρ x= .string ⟨s.toArray⟩) (hy:ev ρ y= .string ⟨r.toArray⟩) {t1 t2:TypeId} (ht:P.underlying t1=some .string):(execOp (ev ρ) ⟨dst,.binOp .neq t1 x y t2,ty,pos,af,g⟩).run P w= .ok (.value (.bool (decide (s≠r)))) w:=by
 unfold execOp;simp only [hx,hy];simp [binOp,eqGuard,Op.stringOp,ByteArray.toList_eq,qha]
def sless (s r:List UInt8):Bool:=Op.bytesLess s r
theorem qsS {s r:List UInt8} (hx:ev ρ x= .string ⟨s.toArray⟩) (hy:ev ρ y= .string ⟨r.toArray⟩) {t1 t2:TypeId} (ht:P.underlying t1=some .string):(execOp (ev ρ) ⟨dst,.binOp .lss t1 x y t2,ty,pos,af,g⟩).run P w= .ok (.value (.bool (sless s r))) w:=by
 unfold execOp;simp only [hx,hy];simp [binOp,eqGuard,Op.stringOp,ByteArray.toList_eq,sless]
theorem qsO {s r:List UInt8} (hx:ev ρ x= .string ⟨s.toArray⟩) (hy:ev ρ y= .string ⟨r.toArray⟩) {t1 t2:TypeId} (ht:P.underlying t1=some .string):(execOp (ev ρ) ⟨dst,.binOp .gtr t1 x y t2,ty,pos,af,g⟩).run P w= .ok (.value (.bool (!(sless s r || decide (s=r))))) w:=by
 unfold execOp;simp only [hx,hy];simp [binOp,eqGuard,Op.stringOp,ByteArray.toList_eq,sless,qha]
theorem qsR {s r:List UInt8} (hx:ev ρ x= .string ⟨s.toArray⟩) (hy:ev ρ y= .string ⟨r.toArray⟩) {t1 t2:TypeId} (ht:P.underlying t1=some .string):(execOp (ev ρ) ⟨dst,.binOp .leq t1 x y t2,ty,pos,af,g⟩).run P w= .ok (.value (.bool (sless s r || decide (s=r)))) w:=by
 unfold execOp;simp only [hx,hy];simp [binOp,eqGuard,Op.stringOp,ByteArray.toList_eq,sless,qha]
theorem qsN {s r:List UInt8} (hx:ev ρ x= .string ⟨s.toArray⟩) (hy:ev ρ y= .string ⟨r.toArray⟩) {t1 t2:TypeId} (ht:P.underlying t1=some .string):(execOp (ev ρ) ⟨dst,.binOp .geq t1 x y t2,ty,pos,af,g⟩).run P w= .ok (.value (.bool (!sless s r))) w:=by
 unfold execOp;simp only [hx,hy];simp [binOp,eqGuard,Op.stringOp,ByteArray.toList_eq,sless]
theorem qsL {s r:List UInt8} (hx:ev ρ x= .string ⟨s.toArray⟩) (hy:ev ρ y= .string ⟨r.toArray⟩) {t1 t2:TypeId} (ht:P.underlying t1=some .string) (hl:s.length+r.length≤LM):(execOp (ev ρ) ⟨dst,.binOp .add t1 x y t2,ty,pos,af,g⟩).run P w= .ok (.value (.string ⟨(s++r).toArray⟩)) w:=by
 unfold execOp;simp only [hx,hy]
 have h1:(⟨s.toArray⟩:ByteArray).size=s.length:=by simp [ByteArray.size]
 have h2:(⟨r.toArray⟩:ByteArray).size=r.length:=by simp [ByteArray.size]
 have h3: ¬((9223372036854775807:Int)<((s.length:Int)+(r.length:Int))):=by unfold LM at hl;omega
 simp [binOp,eqGuard,Op.stringOp,h1,h2,h3]
 apply ByteArray.ext
 rw [ByteArray.data_append]
 simp
theorem qd5 (d:Nat) {t:TypeId} (hT:TyOk P t Kd.byte by_) (he:P.underlying t=some (.int .u8)) (xs ys:List UInt8): ∀(is:List Nat),(∀i∈is,i<xs.length∧i<ys.length)→
 (Op.eqItems (d+1) t 1 (xs.map qbj).toArray (ys.map qbj).toArray is).run P w= .ok (is.all fun i=>xs[i]?==ys[i]?) w
 | [],_=>by simp [Op.eqItems]
 | i::is,h=>by
   obtain ⟨h1,h2⟩:=h i (by simp)
   have p1: ∀(zs:List UInt8) (hz:i<zs.length),(part t (zs.map qbj).toArray i).run P w= .ok (qbj zs[i]) w:=fun zs hz=>by
    unfold part
    rw [Sem.run_bind,hT.isAgg]
    simp [Kd.byte,hz]
   have p2:(Op.equalIn (d+1) t (qbj xs[i]) (qbj ys[i])).run P w= .ok (xs[i]==ys[i]) w:=by
    unfold qbj
    rw [run_equalIn_int w d t .u8 .u8 _ _ he]
    congr 1
    rw [Bool.eq_iff_iff]
    simp [←UInt8.toNat_inj]
    omega
   rw [Op.eqItems]
   simp only [Nat.mul_one,Sem.run_bind,p1 xs h1,p1 ys h2,p2,Result.andThen_ok]
   have ih:=qd5 d hT he xs ys is (fun j hj=>h j (by simp [hj]))
   cases hb:(xs[i]==ys[i]) with
   | false=>simp [h1,h2,hb]
   | true=>simp [h1,h2,hb,ih]
theorem qtd (xs ys:List UInt8) (n:Nat) (hx:xs.length=n) (hy:ys.length=n):((List.range n).all fun i=>xs[i]?==ys[i]?)=decide (xs=ys):=by
 rw [Bool.eq_iff_iff]
 simp only [List.all_eq_true,List.mem_range,beq_iff_eq,decide_eq_true_eq]
 constructor
 ·intro h
  apply List.ext_getElem?
  intro i
  rcases Nat.lt_or_ge i n with hi | hi
  ·exact h i hi
  ·rw [List.getElem?_eq_none (by omega),List.getElem?_eq_none (by omega)]
 ·rintro rfl i _
  rfl
theorem qhm (d:Nat) {t e:TypeId} {n:Nat} {xs ys:List UInt8} {v u:Value} (hv:(Kd.arr n Kd.byte).V K xs v) (hu:(Kd.arr n Kd.byte).V K ys u) (ht:P.underlying t=some (.array n e)) (he:P.underlying e=some (.int .u8)) (hT:TyOk P e Kd.byte by_):
 (Op.equalIn (d+2) t v u).run P w= .ok (decide (xs=ys)) w:=by
 obtain ⟨rfl,hx⟩:=qbO hv
 obtain ⟨rfl,hy⟩:=qbO hu
 obtain ⟨i,z,hi,hsi,hz,hzc,hbi, -⟩:=hT.info
 rw [run_equalIn_array w (d+1) _ _ ht hi]
 have hc:P.cellsOf e=1:=by
  unfold Program.cellsOf
  rw [hi]
  simp [hsi,Kd.byte]
 rw [hc,qd5 d hT he xs ys _ (fun j hj=>by have:=List.mem_range.1 hj;omega),qtd xs ys n hx hy]
theorem qsx {n:Nat} {xs ys:List UInt8} (hx:ev ρ x=v) (hy:ev ρ y=u) (hv:(Kd.arr n Kd.byte).V K xs v) (hu:(Kd.arr n Kd.byte).V K ys u) {t1 t2 te:TypeId} (ht:P.underlying t1=some (.array n te)) (he:P.underlying te=some (.int .u8)) (hT:TyOk P te Kd.byte by_) (hg:P.eqGuardType P.depth t1=false):
 (execOp (ev ρ) ⟨dst,.binOp .eql t1 x y t2,ty,pos,af,g⟩).run P w= .ok (.value (.bool (decide (xs=ys)))) w:=by
 have h:=qhm (P:=P) (w:=w) 9998 hv hu ht he hT
 obtain ⟨rfl,_⟩:=qbO hv
 obtain ⟨rfl,_⟩:=qbO hu
 unfold execOp
 simp only [hx,hy]
 simp only [Sem.run_bind,run_eqGuard_agg w _ _ _ _ _ _ hg,Result.andThen_ok,run_eql_struct,h]
 rfl
theorem qi4 {l:List UInt8} {A:Option Addr} (hM:Models w K) (hS:Kd.byte.S K l A):l=[]∨∃a,A=some a∧∀j (hj:j<l.length),w.cell? (a.add j)=some (.int .u8 (l[j].toNat:Int)):=by
 rcases qmk hM hS with h | ⟨bl,e2,pre,mid,post,hA,hK,hR,hc⟩
 ·exact .inl h
 ·refine .inr ⟨_,hA,fun j hj=>hc j _ ?_⟩
  rw [qg0 hR]
  simp [qbj,hj]
theorem qsW {l:List UInt8} {Z:Nat→Prop} (hx:ev ρ x=v) (hV:(Kd.sl Kd.byte).V K l v) {t1 t2:TypeId} (h1:P.underlying t1=some (.slice e)) (h2:P.underlying t2=some .string) (he:P.underlying e=some (.int .u8)):
 ∀w' K',Ext Z w K w' K'→Models w' K'→(execOp (ev ρ) ⟨dst,.convert t1 t2 x,ty,pos,af,g⟩).run P w'= .ok (.value (.string ⟨l.toArray⟩)) w':=by
 intro w' K' hE hM
 obtain ⟨A,cap,rfl,hc,hl,hwf,hS⟩:=qbC (hV.mono hE.le)
 unfold execOp
 simp only [hx]
 have key:(convert t1 t2 (.slice A l.length cap)).run P w'= .ok (.string ⟨l.toArray⟩) w':=by
  rcases qi4 hM hS with rfl | ⟨a,rfl,hcell⟩
  ·cases A with
   | none=>simp [convert,run_underlying h1,run_underlying h2,run_underlying he,Conv.bytesToString];rfl
   | some a=>exact run_convert_bytes_back w' t1 t2 e a cap [] h1 he h2 (fun j hj=>by simp at hj)
  ·exact run_convert_bytes_back w' t1 t2 e a cap l h1 he h2 hcell
 simp [key]
theorem qub {l:List UInt8} (hM:Models w K) (hx:ev ρ x= .string ⟨l.toArray⟩) (hw:l.length≤LM) {t1 t2:TypeId} (h1:P.underlying t1=some .string) (h2:P.underlying t2=some (.slice e)) (he:P.underlying e=some (.int .u8)):
 ∃v w' K',(execOp (ev ρ) ⟨dst,.convert t1 t2 x,ty,pos,af,g⟩).run P w= .ok (.value v) w'∧(Kd.sl Kd.byte).V K' l v∧Ext NX w K w' K'∧Models w' K':=by
 have hsz:(⟨l.toArray⟩:ByteArray).size=l.length:=by simp [ByteArray.size]
 have hr:=run_bytes_of_string (P:=P) w t1 t2 e ⟨l.toArray⟩ h1 h2 he
 rw [hsz] at hr
 generalize hC:bytesRow ⟨l.toArray⟩ (grownCap w l.length 0 e)=C at hr
 have hp:l.map qbj<+:C.toList:=by
  rw [←hC]
  unfold bytesRow
  rw [Array.toList_append]
  refine ⟨_,congrArg (· ++_) ?_⟩
  simp [qbj]
 have hle:K.le (K.set w.heap.size e (l.map qbj)):=Ghost.le_set_new (hM.none_of_ge (Nat.le_refl _)) _ _
 refine ⟨.slice (some ⟨w.heap.size,0,none⟩) l.length (grownCap w l.length 0 e),w.drew.alloc (.cells C e (C.size,C.size+1)),K.set w.heap.size e (l.map qbj),?_,?_,?_,?_⟩
 ·unfold execOp
  simp only [hx]
  simp [hr]
 ·refine ⟨_,⟨_,grownCap w l.length 0 e,rfl,grownCap_ge w l.length 0 e,hw,fun _ _=>trivial,.inr ⟨w.heap.size,e,[],l.map qbj,[],rfl,?_,qka l⟩⟩,rfl⟩
  rw [Ghost.set_same];simp
 ·exact (Ext.drew w K).trans ⟨hle,fun b hb _=>qe9 w.drew _ hb,fun b hb _=>Ghost.set_other _ _ _ (by have:b<w.heap.size:=hb;omega),by simp,rfl,rfl,rfl⟩
 ·intro b t' l' hb
  by_cases hbe:b=w.heap.size
  ·subst hbe
   rw [Ghost.set_same] at hb
   cases hb
   exact ⟨C,_,qcI w.drew _,hp⟩
  ·rw [Ghost.set_other _ _ _ hbe] at hb
   exact (hM.drew.alloc _) b t' l' hb
theorem qnf {bl n:Nat} {c:Array Value} {el:TypeId} {fr:Nat×Nat} (h:w.heap[bl]?=some (.cells c el fr)): ∃fr',(w.freeze ⟨bl,n,none⟩ 1).heap[bl]?=some (.cells c el fr'):=by
 unfold World.freeze
 rw [if_neg (by decide)]
 obtain ⟨lo,hi⟩:=fr
 simp only [Array.getElem?_modify,if_true,h]
 exact ⟨_,rfl⟩
theorem qeQ {bl n j:Nat} (h:j≠bl):(w.freeze ⟨bl,n,none⟩ 1).heap[j]?=w.heap[j]?:=by
 unfold World.freeze
 rw [if_neg (by decide)]
 simp only [Array.getElem?_modify,if_neg (Ne.symm h)]
theorem qs3 {l:List α} (hM:Models w K) (hx:ev ρ x=v) (hO:Own k e w K l v) {t1:TypeId} (h1:P.underlying t1=some (.slice e)) (he:P.underlying e=some (.int .u8)) (hne:l≠ []):
 ∃w',(execOp (ev ρ) ⟨dst,.convert t1 t1 x,ty,pos,af,g⟩).run P w= .ok (.value v) w'∧(Kd.sl k).V K l v∧Ext (fun b=>ob v=some b) w K w' K∧Models w' K:=by
 have hV:=hO.V
 obtain ⟨hwf,hlm,hO⟩:=hO
 rcases hO with ⟨A,rfl,rfl⟩ | ⟨bl,cap,c,pre,l',rfl,hg,hnc,hcm,hcs,hK,hp,hR⟩
 ·exact absurd rfl hne
 ·have hpos:0<cap:=by
   have:l.length≠0:=fun h=>hne (List.eq_nil_of_length_eq_zero h)
   omega
  obtain ⟨cap,rfl⟩: ∃m,cap=m+1:=⟨cap - 1,by omega⟩
  have hsh:w.shape? bl=some (e,c.size):=by
   unfold World.shape?
   rw [hg]
  refine ⟨w.freeze ⟨bl,c.size,none⟩ 1,?_,hV,⟨Ghost.le.refl K,fun j hj hx=>qeQ (fun h=>hx (by subst h;rfl)),fun _ _ _=>rfl,?_,rfl,rfl,rfl⟩,?_⟩
  ·unfold execOp
   simp only [hx]
   simp [convert,run_underlying h1,run_underlying he,markStringish,hsh]
  ·unfold World.freeze
   rw [if_neg (by decide)]
   simp
  ·intro b' t' l1 hb
   obtain ⟨c0,fr,h0,h00⟩:=hM b' t' l1 hb
   by_cases hbe:b'=bl
   ·subst hbe
    obtain ⟨fr',hf⟩:=qnf (n:=c.size) h0
    exact ⟨c0,fr',hf,h00⟩
   ·exact ⟨c0,fr,(qeQ hbe).trans h0,h00⟩
end
end Go.Inc

set_option linter.unusedVariables false
namespace Go.Inc
open Go Go.RowKit
def qci (ρ:Env):Option Operand→Int→Prop
 | none,n=>n=0
 | some x,n=> ∃ik,ev ρ x= .int ik n
def qbp (ρ:Env) (len:Int):Option Operand→Int→Prop
 | none,n=>n=len
 | some x,n=> ∃ik,ev ρ x= .int ik n
section
variable {P:Program} {α β γ:Type} {k:Kd α} {k':Kd β} {e t:TypeId} {by_:Nat} {w:World} {K:Ghost} {ρ:Env}
variable {dst:Option Tmp} {ty:TypeId} {pos:String} {af:Array Edge} {g:Option (Nat×Bool)} {x y z:Operand} {v u:Value} {ik ik':IntKind} {a b:Int} {p q:Bool}
theorem qci.no:qci ρ none 0:=rfl
theorem qci.yes (h:ev ρ x= .int ik a):qci ρ (some x) a:=⟨ik,h⟩
theorem qbp.no {n:Int}:qbp ρ n none n:=rfl
theorem qbp.yes {n:Int} (h:ev ρ x= .int ik a):qbp ρ n (some x) a:=⟨ik,h⟩
theorem qb2 {y:Nat} {code:BoundsCode} {i:Int} (h0:0≤i) (h1:i≤(y:Int)):(Instr.sliceBound (.int ik i) y code).run P w= .ok i.toNat w:=by
 simp [Instr.sliceBound,asIntOf,h0,h1]
theorem qdl {isS:Bool} {n cap:Nat} {lo hi:Option Operand} {a b:Int} (hl:qci ρ lo a) (hh:qbp ρ (n:Int) hi b) (h0:0≤a) (h1:a≤b) (h2:b≤(n:Int)) (h3:n≤cap):
 (Instr.sliceBounds isS n cap (lo.map (ev ρ)) (hi.map (ev ρ)) none).run P w= .ok (a.toNat,b.toNat,cap) w:=by
 have hb: ∀code:BoundsCode,(match hi.map (ev ρ) with | some v=>Instr.sliceBound v cap code | none=>(pure n:Sem Nat)).run P w= .ok b.toNat w:=fun code=>by
  cases hi with
  | none=>simp only [qbp] at hh;subst hh;simp
  | some x=>obtain ⟨ik,hx⟩:=hh;simp only [Option.map_some,hx];exact qb2 (by omega) (by omega)
 have hl': ∀code:BoundsCode,(match lo.map (ev ρ) with | some v=>Instr.sliceBound v b.toNat code | none=>(pure 0:Sem Nat)).run P w= .ok a.toNat w:=fun code=>by
  cases lo with
  | none=>simp only [qci] at hl;subst hl;simp
  | some x=>obtain ⟨ik,hx⟩:=hl;simp only [Option.map_some,hx];exact qb2 (by omega) (by omega)
 unfold Instr.sliceBounds
 cases hi with
 | none=>
   cases lo with
   | none=>
     simp only [qbp,qci] at hh hl
     subst hh;subst hl
     simp
   | some y=>
     simp only [qbp] at hh
     subst hh
     have:=hl' .sliceB
     simp only [Option.map_some,Int.toNat_natCast] at this
     simp [this]
 | some x=>
   have hb':=hb (if isS then .sliceAcap else .sliceAlen)
   simp only [Option.map_some] at hb'
   cases lo with
   | none=>
     simp only [qci] at hl
     subst hl
     simp [hb']
   | some y=>
     have:=hl' .sliceB
     simp only [Option.map_some] at this
     simp [hb',this]
theorem qoI {l:List α} {lo hi:Option Operand} (hx:ev ρ x=v) (hV:(Kd.sl k).V K l v) {t1:TypeId} (hu:P.underlying t1=some (.slice e)) (hT:TyOk P e k by_) (hl:qci ρ lo a) (hh:qbp ρ (l.length:Int) hi b) (h0:0≤a) (h1:a≤b) (h2:b≤(l.length:Int)):
 ∃v,(∀w:World,(execOp (ev ρ) ⟨dst,.slice t1 x lo hi none,ty,pos,af,g⟩).run P w= .ok (.value v) w)∧(Kd.sl k).V K ((l.take b.toNat).drop a.toNat) v:=by
 obtain ⟨A,cap,rfl,hc,hlm,hwf,hS⟩:=qbC hV
 have hrun: ∀w:World,_:=fun w=>qdl (P:=P) (w:=w) (isS:=true) (n:=l.length) (cap:=cap) hl hh h0 h1 h2 hc
 have hlen:((l.take b.toNat).drop a.toNat).length=b.toNat - a.toNat:=by rw [List.length_drop,List.length_take];omega
 refine ⟨.slice (if cap=a.toNat then A else A.map (·.add (a.toNat *k.sz))) (b.toNat - a.toNat) (cap - a.toNat),?_,?_⟩
 ·intro w
  unfold execOp
  simp only [hx]
  simp [Instr.sliceAt,Instr.slice,run_underlying hu,hrun w,hT.size]
 ·rw [←hlen]
  refine ⟨_,⟨_,cap - a.toNat,rfl,by rw [hlen];omega,by rw [hlen];omega,fun y hy=>hwf y (List.mem_of_mem_take (List.mem_of_mem_drop hy)),?_⟩,rfl⟩
  by_cases hne:(l.take b.toNat).drop a.toNat=[]
  ·exact .inl hne
  ·have hlt:a.toNat<b.toNat:=by
    rcases Nat.lt_or_ge a.toNat b.toNat with h | h
    ·exact h
    ·exact absurd (List.eq_nil_of_length_eq_zero (by rw [hlen];omega)) hne
   rw [if_neg (by omega)]
   rcases hS with rfl | ⟨bl,e2,pre,mid,post,rfl,hK,hR⟩
   ·simp at hne
   ·have hml:=RL.len (fun _ _=>k.len) hR
    have h3:=(RL.split (fun _ _=>k.len) a.toNat (RL.split (fun _ _=>k.len) b.toNat hR).1).2
    refine .inr ⟨bl,e2,pre++mid.take (a.toNat *k.sz),(mid.take (b.toNat *k.sz)).drop (a.toNat *k.sz),mid.drop (b.toNat *k.sz)++post,?_,?_,h3⟩
    ·have:a.toNat *k.sz≤mid.length:=by rw [hml];exact Nat.mul_le_mul_right _ (by omega)
     simp only [Option.map_some,qbe,List.length_append,List.length_take]
     congr 3
     omega
    ·rw [hK]
     congr 2
     have e1:mid.take (a.toNat *k.sz)++(mid.take (b.toNat *k.sz)).drop (a.toNat *k.sz)=mid.take (b.toNat *k.sz):=by
      have h4:mid.take (a.toNat *k.sz)=(mid.take (b.toNat *k.sz)).take (a.toNat *k.sz):=by
       rw [List.take_take,Nat.min_eq_left (Nat.mul_le_mul_right _ (by omega))]
      rw [h4,List.take_append_drop]
     have e2:mid=mid.take (a.toNat *k.sz)++(mid.take (b.toNat *k.sz)).drop (a.toNat *k.sz)++mid.drop (b.toNat *k.sz):=by rw [e1,List.take_append_drop]
     conv=>lhs;rw [e2]
     simp only [List.append_assoc]
theorem qs8 {l:List α} {lo:Operand} (hx:ev ρ x=v) (hV:(Kd.sl k).V K l v) {t1:TypeId} (hu:P.underlying t1=some (.slice e)) (hT:TyOk P e k by_) (hl:ev ρ lo= .int ik a) (h0:0≤a) (h1:a≤(l.length:Int)):
 ∃v,(∀w:World,(execOp (ev ρ) ⟨dst,.slice t1 x (some lo) none none,ty,pos,af,g⟩).run P w= .ok (.value v) w)∧(Kd.sl k).V K (l.drop a.toNat) v:=by
 have h:=qoI (dst:=dst) (ty:=ty) (pos:=pos) (af:=af) (g:=g) hx hV hu hT (qci.yes hl) qbp.no h0 h1 (Int.le_refl _)
 simpa using h
theorem quc {l:List α} {hi:Operand} (hx:ev ρ x=v) (hV:(Kd.sl k).V K l v) {t1:TypeId} (hu:P.underlying t1=some (.slice e)) (hT:TyOk P e k by_) (hh:ev ρ hi= .int ik b) (h0:0≤b) (h1:b≤(l.length:Int)):
 ∃v,(∀w:World,(execOp (ev ρ) ⟨dst,.slice t1 x none (some hi) none,ty,pos,af,g⟩).run P w= .ok (.value v) w)∧(Kd.sl k).V K (l.take b.toNat) v:=by
 have h:=qoI (dst:=dst) (ty:=ty) (pos:=pos) (af:=af) (g:=g) hx hV hu hT qci.no (qbp.yes hh) (Int.le_refl _) h0 h1
 simpa using h
theorem qta {l:List α} {lo hi:Operand} (hx:ev ρ x=v) (hV:(Kd.sl k).V K l v) {t1:TypeId} (hu:P.underlying t1=some (.slice e)) (hT:TyOk P e k by_) (hl:ev ρ lo= .int ik a) (hh:ev ρ hi= .int ik' b) (h0:0≤a) (h1:a≤b) (h2:b≤(l.length:Int)):
 ∃v,(∀w:World,(execOp (ev ρ) ⟨dst,.slice t1 x (some lo) (some hi) none,ty,pos,af,g⟩).run P w= .ok (.value v) w)∧(Kd.sl k).V K ((l.take b.toNat).drop a.toNat) v:=qoI hx hV hu hT (qci.yes hl) (qbp.yes hh) h0 h1 h2
theorem qs6 {l:List α} (hx:ev ρ x=v) (hV:(Kd.sl k).V K l v) {t1:TypeId} (hu:P.underlying t1=some (.slice e)) (hT:TyOk P e k by_):
 ∃A,∀w:World,(execOp (ev ρ) ⟨dst,.slice t1 x none (some (.const (.int ik 0))) (some (.const (.int ik' 0))),ty,pos,af,g⟩).run P w= .ok (.value (.slice A 0 0)) w:=by
 obtain ⟨A,cap,rfl,hc,hlm,hwf,hS⟩:=qbC hV
 refine ⟨A,fun w=>?_⟩
 unfold execOp
 simp only [hx]
 have h1: ∀(ik:IntKind) (y:Nat) (c:BoundsCode),(Instr.sliceBound (.int ik 0) y c).run P w= .ok 0 w:=fun ik y c=>qb2 (by omega) (by omega)
 simp [Instr.sliceAt,Instr.slice,run_underlying hu,ev,Instr.sliceBounds,h1,hT.size]
theorem qiZ {l:List α} (hx:ev ρ x=v) (hV:(Kd.sl k).V K l v) (hy:ev ρ y= .slice none 0 0) {t1 t2:TypeId} (hu:P.underlying t1=some (.slice e)):
 ∃r:Bool,(∀w:World,(execOp (ev ρ) ⟨dst,.binOp .eql t1 x y t2,ty,pos,af,g⟩).run P w= .ok (.value (.bool r)) w)∧(r=true→l=[]):=by
 obtain ⟨A,cap,rfl,hc,hlm,hwf,hS⟩:=qbC hV
 refine ⟨A.isNone,?_,?_⟩
 ·intro w
  unfold execOp
  simp only [hx,hy]
  have hd:(Op.equal t1 (.slice A l.length cap) (.slice none 0 0)).run P w= .ok A.isNone w:=by
   have: ∀d:Nat,(Op.equalIn (d+1) t1 (.slice A l.length cap) (.slice none 0 0)).run P w= .ok A.isNone w:=fun d=>by
    cases A<;>simp [Op.equalIn,run_underlying hu]
   exact this 9999
  cases A<;>simp [binOp,eqGuard,hd]
 ·intro hA
  cases A with
  | some _=>cases hA
  | none=>
    rcases hS with h | ⟨_,_,_,_,_,h,_⟩
    ·exact h
    ·cases h
theorem S_mk {n c:Int} {t1:TypeId} (hM:Models w K) (hx:ev ρ x= .int ik n) (hy:ev ρ y= .int ik' c) (hu:P.underlying t1=some (.slice e)) (hT:TyOk P e k by_) (hsz:Nat.blt 0 k.sz=true) (h0:0≤n) (h1:n≤c) (h2:(by_:Int) *c≤281474976710656) (h3:c≤281474976710656):
 ∃v w' K',(execOp (ev ρ) ⟨dst,.makeSlice t1 x y,ty,pos,af,g⟩).run P w= .ok (.value v) w'∧Own k e w' K' (List.replicate n.toNat k.z) v∧Ext NX w K w' K'∧Models w' K'∧(∀g,ob v=some g→w.heap.size≤g):=by
 obtain ⟨i,z,hi,hsi,hz,hzc,hbi, -⟩:=hT.info
 have hr:=run_make (P:=P) w t1 e i z hu hi hz ik ik' n c h0 h1 (by rw [hbi];exact h2) (by omega)
 rw [hsi] at hr
 have hzl:z.cells.size=k.sz:=by
  have:=k.len (k.hz K)
  rw [←hzc] at this
  simpa using this
 have hrow: ∀m,(madeCells z.cells (m *k.sz)).toList=(List.replicate m k.zc).flatten:=fun m=>by
  apply List.ext_getElem?
  intro j
  have hzl':k.zc.length=k.sz:=k.len (k.hz K)
  have hpos:0<k.sz:=Nat.le_of_ble_eq_true hsz
  rcases Nat.lt_or_ge j (m *k.sz) with hj | hj
  ·have hmod:j%k.sz<k.sz:=Nat.mod_lt _ hpos
   have e2: ∀(m j:Nat),j<m *k.sz→((List.replicate m k.zc).flatten)[j]?=k.zc[j%k.sz]?:=by
    intro m
    induction m with
    | zero=>intro j hj;simp at hj
    | succ m ih=>
      intro j hj
      rw [List.replicate_succ,List.flatten_cons]
      rcases Nat.lt_or_ge j k.sz with h | h
      ·rw [List.getElem?_append_left (by omega),Nat.mod_eq_of_lt h]
      ·rw [List.getElem?_append_right (by omega),hzl',ih _ (by rw [Nat.add_mul,Nat.one_mul] at hj;omega),Nat.mod_eq_sub_mod h]
   rw [e2 m j hj]
   unfold madeCells
   have hz2:z.cells[j%k.sz]?=k.zc[j%k.sz]?:=by rw [←hzc];simp
   simp [hj,hzl]
   rw [←hz2]
   rw [getElem!_pos z.cells _ (by rw [hzl];exact hmod)]
   simp [hzl,hmod]
  ·rw [List.getElem?_eq_none (by simp [madeCells];exact hj),List.getElem?_eq_none]
   have:((List.replicate m k.zc).flatten).length=m *k.sz:=by simp [hzl']
   omega
 have hR:=RL.replicate (R:=k.R K) (k.hz K) n.toNat
 obtain ⟨K',h1',h2',h3'⟩:=qjs (w:=w) (K:=K) (k:=k) (e:=e) (x:=List.replicate n.toNat k.z) (l:=(List.replicate n.toNat k.zc).flatten) (c:=madeCells z.cells (c.toNat *k.sz)) (cap:=c.toNat) hM (Nat.le_of_ble_eq_true hsz) hR (fun y hy=>by rw [List.eq_of_mem_replicate hy];exact k.hwf (k.hz K)) (by simp;unfold LM;omega) (by simp;omega) (by unfold maxLen;omega) (by simp [madeCells]) (by
  rw [hrow]
  refine ⟨(List.replicate (c.toNat - n.toNat) k.zc).flatten,?_⟩
  rw [←List.flatten_append,List.replicate_append_replicate]
  congr 2
  omega)
 rw [List.length_replicate] at h1'
 refine ⟨_,_,K',?_,h1',h2',h3',?_⟩
 ·unfold execOp
  simp only [hx,hy]
  simp [hr]
 ·intro g hg
  cases hc:c.toNat with
  | zero=>rw [hc] at hg;simp [ob] at hg
  | succ m=>rw [hc] at hg;simp [ob] at hg;omega
theorem qt7 {s:List UInt8} {lo hi:Option Operand} (hx:ev ρ x= .string ⟨s.toArray⟩) {t1:TypeId} (hu:P.underlying t1=some .string) (hl:qci ρ lo a) (hh:qbp ρ (s.length:Int) hi b) (h0:0≤a) (h1:a≤b) (h2:b≤(s.length:Int)):
 (execOp (ev ρ) ⟨dst,.slice t1 x lo hi none,ty,pos,af,g⟩).run P w= .ok (.value (.string ⟨((s.take b.toNat).drop a.toNat).toArray⟩)) w:=by
 have hsz:(⟨s.toArray⟩:ByteArray).size=s.length:=by simp [ByteArray.size]
 have hrun:=qdl (P:=P) (w:=w) (isS:=false) (n:=s.length) (cap:=s.length) hl hh h0 h1 h2 (Nat.le_refl _)
 unfold execOp
 simp only [hx]
 simp [Instr.sliceAt,Instr.slice,run_underlying hu,hsz,hrun]
 apply ByteArray.ext
 rw [ByteArray.data_extract]
 simp [List.drop_take]
end
end Go.Inc

set_option linter.unusedVariables false
namespace Go.Inc
open Go Go.RowKit
section
variable {P:Program} {α β γ:Type} {k:Kd α} {k':Kd β} {e t:TypeId} {by_:Nat} {w:World} {K:Ghost} {ρ:Env}
variable {dst:Option Tmp} {ty:TypeId} {pos:String} {af:Array Edge} {g:Option (Nat×Bool)} {x y z:Operand} {v u:Value} {ik ik':IntKind} {a b:Int} {p q:Bool}
theorem Bx.wf {bl:Nat} {pre post:List Value} {x:α} (h:Bx k w K bl pre post x):k.wf x:=by
 obtain ⟨_,cs,T,_,hR⟩:=h
 exact k.hwf hR
theorem Bx.sub {off:Nat} {gg:α→β} {ss:α→β→α} (F:Foc k k' off gg ss) {bl:Nat} {pre post:List Value} {x:α} (h:Bx k w K bl pre post x):
 ∃p q,p.length=off∧Bx k' w K bl (pre++p) (q++post) (gg x)∧∀ {w':World} {K':Ghost} {y:β},K.le K'→Bx k' w' K' bl (pre++p) (q++post) y→Bx k w' K' bl pre post (ss x y):=by
 obtain ⟨hK,cs,T,hh,hR⟩:=h
 obtain ⟨p,m,q,rfl,hl,hR',hS⟩:=F.foc hR
 refine ⟨p,q,hl,⟨hK,m,T,by rw [hh];simp,hR'⟩,?_⟩
 rintro w' K' y hle ⟨hK',cs',T',hh',hR2⟩
 refine ⟨hK',p++cs'++q,T',by rw [hh'];simp,?_⟩
 obtain ⟨p2,m2,q2,e2,hl2,hRm2,hS2⟩:=F.foc (k.mono hle hR)
 have hm:m.length=m2.length:=(k'.len hR').trans (k'.len hRm2).symm
 have e3:p=p2∧m=m2∧q=q2:=by
  rw [List.append_assoc,List.append_assoc] at e2
  have h1:=List.append_inj e2 (hl.trans hl2.symm)
  have h2:=List.append_inj h1.2 hm
  exact ⟨h1.1,h2.1,h2.2⟩
 obtain ⟨rfl,rfl,rfl⟩:=e3
 exact hS2 y cs' hR2
theorem qmi {X Y:List α} {t1:TypeId} (hM:Models w K) (hx:ev ρ x=v) (hO:Own k e w K X v) (hy:ev ρ y=u) (hV:Cells k w K Y u) (ht:P.underlying t1=some (.slice e)) (hT:TyOk P e k by_) (hsz:(Nat.blt 0 k.sz && Nat.blt 0 by_)=true) (hlen:(X.length+Y.length) *by_≤140737488355328):
 ∃v' w' K',(execOp (ev ρ) ⟨dst,.call { callee:= .builtin .append,args:= #[x,y],argTypes:= #[t1,t1] },ty,pos,af,g⟩).run P w= .ok (.value v') w'∧Own k e w' K' (X++Y) v'∧Ext (fun b=>ob v=some b) w K w' K'∧Models w' K'∧(ob v'=ob v∨ob v'=some w.heap.size):=by
 simp only [Bool.and_eq_true] at hsz
 obtain ⟨v',w',K',hr,h1,h2,h3,h4⟩:=qgr (ty:=ty) ht hT (Nat.le_of_ble_eq_true hsz.1) hM hO hV hlen (Nat.le_of_ble_eq_true hsz.2)
 refine ⟨v',w',K',?_,h1,h2,h3,h4⟩
 unfold execOp
 simp [resolve,invoke,builtin,hx,hy,hr]
theorem Cells.ofBx {n bl:Nat} {pre post:List Value} {l:List α} (hB:Bx (Kd.arr n k) w K bl pre post l) {i j:Nat} (hij:i≤j) (hj:j≤n) (hn:n≤LM) {cap:Nat} {o:Nat} (ho:o=pre.length+i *k.sz):
 Cells k w K ((l.take j).drop i) (.slice (some ⟨bl,o,none⟩) (j - i) cap):=by
 obtain ⟨hK,cs,T,hh,hl,hR⟩:=hB
 have hlen:((l.take j).drop i).length=j - i:=by rw [List.length_drop,List.length_take];omega
 have hcl:=RL.len (fun _ _=>k.len) hR
 refine ⟨_,cap,by rw [hlen],by rw [hlen];omega,fun y hy=>(RL.all (p:=k.wf) (fun _ _=>k.hwf) hR) y (List.mem_of_mem_take (List.mem_of_mem_drop hy)),.inr ⟨_,(cs.take (j *k.sz)).drop (i *k.sz),rfl,?_,?_⟩⟩
 ·exact (RL.split (fun _ _=>k.len) i (RL.split (fun _ _=>k.len) j hR).1).2
 ·intro m u hu
  rw [qbe,cell_of_row w bl _ _ T _ hh,ho,List.getElem?_toArray]
  simp only [List.append_assoc]
  rw [List.getElem?_append_right (by omega)]
  rw [List.getElem?_drop] at hu
  have hlt:=(List.getElem?_eq_some_iff.1 hu).1
  rw [List.getElem?_take] at hu
  rw [List.length_take] at hlt
  rw [if_pos (by omega)] at hu
  rw [List.getElem?_append_left (by omega),←hu]
  congr 1
  omega
theorem qud {n bl o:Nat} {lo hi:Option Operand} {t1 te:TypeId} (hx:ev ρ x= .pointer (some ⟨bl,o,none⟩)) (hu:P.underlying t1=some (.array n te)) (hT:TyOk P te k by_) (hl:qci ρ lo a) (hh:qbp ρ (n:Int) hi b) (h0:0≤a) (h1:a≤b) (h2:b≤(n:Int)) (h3:a<(n:Int)):
 (execOp (ev ρ) ⟨dst,.slice t1 x lo hi none,ty,pos,af,g⟩).run P w= .ok (.value (.slice (some ⟨bl,o+a.toNat *k.sz,none⟩) (b.toNat - a.toNat) (n - a.toNat))) w:=by
 have hrun:=qdl (P:=P) (w:=w) (isS:=false) (n:=n) (cap:=n) hl hh h0 h1 h2 (Nat.le_refl _)
 have hne: ¬(n=a.toNat):=by omega
 unfold execOp
 simp only [hx]
 simp [Instr.sliceAt,Instr.sureAddr,run_underlying hu,hrun,hT.size,hne,qbe]
end
end Go.Inc

set_option linter.unusedVariables false
namespace Go.Inc
open Go Go.RowKit
section
variable {P:Program} {α β γ:Type} {k:Kd α} {k':Kd β} {e t:TypeId} {by_:Nat} {w:World} {K:Ghost} {ρ:Env}
variable {dst:Option Tmp} {ty:TypeId} {pos:String} {af:Array Edge} {g:Option (Nat×Bool)} {x y z:Operand} {v u:Value} {ik ik':IntKind} {a b:Int} {p q:Bool}
theorem Bx.freeze (hM:Models w K) {bl:Nat} {pre post:List Value} {X:α} (h:Bx k w K bl pre post X):
 ∃K',Ext (· =bl) w K w K'∧Models w K'∧k.Pt K' X (.pointer (some ⟨bl,pre.length,none⟩)):=by
 obtain ⟨hK,cs,T,hh,hR⟩:=h
 have hle:K.le (K.set bl T (pre++cs++post)):=Ghost.le_set_new hK _ _
 refine ⟨K.set bl T (pre++cs++post),⟨hle,fun _ _ _=>rfl,fun c _ hc=>Ghost.set_other _ _ _ hc,Nat.le_refl _,rfl,rfl,rfl⟩,?_,⟨bl,T,pre,cs,post,rfl,Ghost.set_same _ _ _ _,k.mono hle hR⟩⟩
 intro c t l hc
 by_cases he:c=bl
 ·subst he
  rw [Ghost.set_same] at hc
  cases hc
  exact ⟨_,_,hh,by rw [List.toList_toArray];exact List.prefix_refl _⟩
 ·rw [Ghost.set_other _ _ _ he] at hc
  exact hM c t l hc
theorem Pt.cut {n bl o:Nat} {l:List α} (h:(Kd.arr n k).Pt K l (.pointer (some ⟨bl,o,none⟩))) {i j:Nat} (hij:i≤j) (hj:j≤n) (hn:n≤LM):
 (Kd.sl k).V K ((l.take j).drop i) (.slice (some ⟨bl,o+i *k.sz,none⟩) (j - i) (n - i)):=by
 obtain ⟨b,e,pre,mid,post,hv,hK,hl,hR⟩:=h
 simp only [Value.pointer.injEq,Option.some.injEq,Addr.mk.injEq,and_true] at hv
 obtain ⟨rfl,rfl⟩:=hv
 have hlen:((l.take j).drop i).length=j - i:=by rw [List.length_drop,List.length_take];omega
 have hml:=RL.len (fun _ _=>k.len) hR
 have him:i *k.sz≤mid.length:=by rw [hml];exact Nat.mul_le_mul_right _ (by omega)
 rw [←hlen]
 refine ⟨_,⟨_,n - i,rfl,by rw [hlen];omega,by rw [hlen];omega,fun y hy=>(RL.all (p:=k.wf) (fun _ _=>k.hwf) hR) y (List.mem_of_mem_take (List.mem_of_mem_drop hy)),.inr ⟨bl,e,pre++mid.take (i *k.sz),(mid.take (j *k.sz)).drop (i *k.sz),mid.drop (j *k.sz)++post,?_,?_,(RL.split (fun _ _=>k.len) i (RL.split (fun _ _=>k.len) j hR).1).2⟩⟩,rfl⟩
 ·simp only [List.length_append,List.length_take]
  congr 3
  omega
 ·rw [hK]
  congr 2
  have e1:mid.take (i *k.sz)++(mid.take (j *k.sz)).drop (i *k.sz)=mid.take (j *k.sz):=by
   have h4:mid.take (i *k.sz)=(mid.take (j *k.sz)).take (i *k.sz):=by
    rw [List.take_take,Nat.min_eq_left (Nat.mul_le_mul_right _ hij)]
   rw [h4,List.take_append_drop]
  have e2:mid=mid.take (i *k.sz)++(mid.take (j *k.sz)).drop (i *k.sz)++mid.drop (j *k.sz):=by rw [e1,List.take_append_drop]
  conv=>lhs;rw [e2]
  simp only [List.append_assoc]
theorem qra {n bl o m cap i:Nat} {pre post:List Value} {l Y:List α} {t1 t2:TypeId} (hM:Models w K) (hx:ev ρ x= .slice (some ⟨bl,o,none⟩) m cap) (hy:ev ρ y=u) (hC:Cells k w K Y u) (ht:P.underlying t1=some (.slice e)) (hT:TyOk P e k by_)
 (hB:Bx (Kd.arr n k) w K bl pre post l) (ho:o=pre.length+i *k.sz) (hi:i+m≤n):
 ∃w',(execOp (ev ρ) ⟨dst,.call { callee:= .builtin .copy,args:= #[x,y],argTypes:= #[t1,t2] },ty,pos,af,g⟩).run P w= .ok (.value (.int .i64 ((min Y.length m:Nat):Int))) w'∧
  Bx (Kd.arr n k) w' K bl pre post (l.take i++Y.take m++l.drop (i+min Y.length m))∧Ext (· =bl) w K w' K∧Models w' K:=by
 obtain ⟨A,cap2,rfl,hlm,hwf,hS⟩:=hC
 obtain ⟨hK,cs,T,hh,hl,hR⟩:=hB
 have hcl:=RL.len (fun _ _=>k.len) hR
 have hsrc: ∃mid,(∀w':World,w'=w→(Builtin.firstCells k.sz (min Y.length m) (.slice A Y.length cap2)).run P w'= .ok mid.toArray w')∧RL (k.R K) (Y.take m) mid:=by
  rcases hS with rfl | ⟨ad,mid,rfl,hRY,hc⟩
  ·refine ⟨[],fun w' _=>?_,by simp [RL]⟩
   cases A<;>simp [Builtin.firstCells,loadCells,loadCellsFrom]
  ·have hml:=RL.len (fun _ _=>k.len) hRY
   refine ⟨mid.take (m *k.sz),fun w' hw=>?_,(RL.split (fun _ _=>k.len) m hRY).1⟩
   subst hw
   refine run_firstCells_some w' k.sz (min Y.length m) ad _ _ _ ?_ ?_
   ·rw [List.length_take,hml]
    rcases Nat.le_total Y.length m with h | h
    ·rw [Nat.min_eq_left h,Nat.min_eq_right (Nat.mul_le_mul_right _ h)]
    ·rw [Nat.min_eq_right h,Nat.min_eq_left (Nat.mul_le_mul_right _ h)]
   ·intro j u hu
    refine hc j u ?_
    rw [List.getElem?_take] at hu
    split at hu
    ·exact hu
    ·cases hu
 obtain ⟨mid,hrun,hRm⟩:=hsrc
 have hmm:=RL.len (fun _ _=>k.len) hRm
 have hmin:(Y.take m).length=min Y.length m:=by rw [List.length_take,Nat.min_comm]
 rw [hmin] at hmm
 have hle:i *k.sz+mid.length≤cs.length:=by
  rw [hmm,hcl,←Nat.add_mul]
  exact Nat.mul_le_mul_right _ (by omega)
 have hst:=run_storeCells_at P bl (pre.length+i *k.sz) T mid 0 _ w hh (by simp;omega) (fun v hv=>RL.one (fun _ _=>k.one) hRm v hv)
 have e1:(pre++cs++post).take (pre.length+i *k.sz)=pre++cs.take (i *k.sz):=by
  rw [List.append_assoc,List.take_length_add_append,List.take_append_of_le_length (by omega)]
 have e2:(pre++cs++post).drop (pre.length+i *k.sz+mid.length)=cs.drop (i *k.sz+mid.length)++post:=by
  rw [List.append_assoc,Nat.add_assoc,List.drop_length_add_append,List.drop_append_of_le_length (by omega)]
 simp only [Nat.add_zero,e1,e2] at hst
 refine ⟨w.setRow bl (pre++cs.take (i *k.sz)++mid++(cs.drop (i *k.sz+mid.length)++post)).toArray,?_,⟨hK,cs.take (i *k.sz)++mid++cs.drop (i *k.sz+mid.length),T,?_,?_,?_⟩,Ext.setRow w K bl _ rfl,hM.setRow hK _⟩
 ·have key:(Builtin.copy_ #[t1,t2] ty #[.slice (some ⟨bl,o,none⟩) m cap,.slice A Y.length cap2]).run P w= .ok (.int .i64 ((min Y.length m:Nat):Int)) (w.setRow bl (pre++cs.take (i *k.sz)++mid++(cs.drop (i *k.sz+mid.length)++post)).toArray):=by
   unfold Builtin.copy_
   have h1:=hrun w rfl
   rw [show min Y.length m=Nat.min Y.length m from rfl] at h1⊢
   simp [run_underlying ht,Builtin.lenOf,hT.size,h1,ho]
   rw [show (pre++(cs.take (i *k.sz)++(mid++(cs.drop (i *k.sz+mid.length)++post))))=pre++cs.take (i *k.sz)++mid++(cs.drop (i *k.sz+mid.length)++post) from by simp]
   rw [hst]
   rfl
  unfold execOp
  simp [resolve,invoke,builtin,hx,hy,key]
 ·rw [setRow_heap w bl _ _ T _ hh]
  simp
 ·simp only [List.length_append,List.length_take,List.length_drop,hl]
  omega
 ·have h1:=(RL.split (fun _ _=>k.len) i hR).1
  have h2:=(RL.split (fun _ _=>k.len) (i+min Y.length m) hR).2
  rw [Nat.add_mul,←hmm] at h2
  exact RL.append (RL.append h1 hRm) h2
end
end Go.Inc

set_option linter.unusedVariables false
namespace Go.Inc
open Go Go.RowKit
inductive Parts (P:Program) (K:Ghost) (fs:Array Field) {α:Type} (k:Kd α):List (Nat×Value)→α→α→Prop
 | nil {X:α}:Parts P K fs k [] X X
 | cons {β:Type} {k':Kd β} {i by_ off:Nat} {fd:Field} {v:Value} {X Z:α} {y:β} {gg:α→β} {ss:α→β→α} {r:List (Nat×Value)} (hf:fs[i]?=some fd) (ho:fd.offset=off) (hT:TyOk P fd.type k' by_) (F:Foc k k' off gg ss) (hV:k'.V K y v) (hr:Parts P K fs k r (ss X y) Z):Parts P K fs k ((i,v)::r) X Z
section
variable {P:Program} {α β γ:Type} {k:Kd α} {k':Kd β} {e t:TypeId} {by_:Nat} {w:World} {K:Ghost} {ρ:Env}
variable {dst:Option Tmp} {ty:TypeId} {pos:String} {af:Array Edge} {g:Option (Nat×Bool)} {x y z:Operand} {v u:Value} {ik ik':IntKind} {a b:Int} {p q:Bool}
theorem qpe: ∀(m:List Value) (o s:Nat) (c:Array Value),o+s+m.length≤c.size→((m.zipIdx s).foldl (fun cs (p:Value×Nat)=>cs.setIfInBounds (o+p.2) p.1) c).toList=c.toList.take (o+s)++m++c.toList.drop (o+s+m.length):=by
 intro m
 induction m with
 | nil=>intro o s c _;simp
 | cons x m ih=>
   intro o s c hc
   simp only [List.length_cons] at hc
   rw [List.zipIdx_cons,List.foldl_cons,ih o (s+1) _ (by simp;omega)]
   simp only [Array.toList_setIfInBounds]
   have h1:(c.toList.set (o+s) x).take (o+(s+1))=c.toList.take (o+s)++ [x]:=by
    rw [←Nat.add_assoc,List.take_add_one]
    rw [List.take_set_of_le (Nat.le_refl _)]
    congr 1
    have:o+s<c.toList.length:=by simp;omega
    rw [List.getElem?_set_self this]
    rfl
   have h2:(c.toList.set (o+s) x).drop (o+(s+1)+m.length)=c.toList.drop (o+s+(m.length+1)):=by
    rw [List.drop_set_of_lt (by omega)]
    congr 1
    omega
   rw [h1,h2]
   simp
theorem qh9 {c:Array Value} {off:Nat} {pre mid post:List Value} (hc:c.toList=pre++mid++post) (hp:pre.length=off) (hv:v.cells.toList.length=mid.length) (place:Nat→Option (Nat×Nat)) {i:Nat} (hpl:place i=some (off,mid.length)) (rest:List (Nat×Value)):
 ∃c':Array Value,c'.toList=pre++v.cells.toList++post∧Instr.fill place c ((i,v)::rest)=Instr.fill place c' rest:=by
 have hcs:c.size=pre.length+mid.length+post.length:=by
  have:=congrArg List.length hc
  simpa [Nat.add_assoc] using this
 have hvs:v.cells.size=mid.length:=by simpa using hv
 refine ⟨v.cells.zipIdx.foldl (fun cs (p:Value×Nat)=>cs.setIfInBounds (off+p.2) p.1) c,?_,?_⟩
 ·rw [←Array.foldl_toList,Array.toList_zipIdx,qpe _ _ _ _ (by rw [hv];omega),Nat.add_zero,hc,hv,←hp]
  simp
 ·have hcond: ¬((decide (v.cells.size≠mid.length) || decide (off+v.cells.size>c.size))=true):=by simp;omega
  simp only [Instr.fill,hpl]
  rw [if_neg hcond]
theorem qlb {fs:Array Field} (place:Nat→Option (Nat×Nat)) (hpl: ∀i fd inf,fs[i]?=some fd→P.info? fd.type=some inf→place i=some (fd.offset,inf.size)) {ps:List (Nat×Value)} {X Z:α} (h:Parts P K fs k ps X Z):
 ∀(c:Array Value),k.R K X c.toList→∃c',Instr.fill place c ps=some c'∧k.R K Z c'.toList:=by
 induction h with
 | nil=>intro c hR;exact ⟨c,rfl,hR⟩
 | cons hf ho hT F hV hr ih=>
   intro c hR
   obtain ⟨pre,mid,post,hc,hl,hR',hS⟩:=F.foc hR
   have hml:=Kd.len _ hR'
   have hvl:(Value.cells _).toList.length=mid.length:=(Kd.len _ hV.cells).trans hml.symm
   obtain ⟨c',hc',hfill⟩:=qh9 hc hl hvl place (by
    obtain ⟨inf,_,hinf,hsz,_⟩:=hT.info
    rw [hpl _ _ _ hf hinf,ho,hml,hsz]) _
   rw [hfill]
   exact ih c' (by rw [hc'];exact hS _ _ hV.cells)
theorem qdN {fs:List Field} (h: ∀f∈fs,∃i,P.info? f.type=some i): ∃l,(∀w:World,(fs.mapM fun f=>do pure (f.offset,←sizeOf f.type):Sem (List (Nat×Nat))).run P w= .ok l w)∧∀(i:Nat) (fd:Field) inf,fs[i]?=some fd→P.info? fd.type=some inf→l[i]?=some (fd.offset,inf.size):=by
 induction fs with
 | nil=>exact ⟨[],fun w=>by simp,fun i fd inf h=>by simp at h⟩
 | cons f fs ih=>
   obtain ⟨l,hl,hq⟩:=ih (fun f hf=>h f (by simp [hf]))
   obtain ⟨i,hi⟩:=h f (by simp)
   have hs: ∀w:World,(sizeOf f.type).run P w= .ok i.size w:=fun w=>by simp [sizeOf,typeInfo,hi]
   refine ⟨(f.offset,i.size)::l,fun w=>?_,?_⟩
   ·rw [List.mapM_cons]
    simp only [Sem.run_bind,hs w,hl w,Result.andThen_ok,Sem.run_pure]
   ·intro j fd inf hj hinf
    cases j with
    | zero=>
      simp at hj
      subst hj
      rw [hi] at hinf
      cases hinf
      rfl
    | succ j=>exact hq j fd inf (by simpa using hj) hinf
theorem qq9 {fs:Array Field} {ps:List (Nat×Operand)} {vs:List (Nat×Value)} {Z:α} (hT:TyOk P t k by_) (ha:k.agg=true) (hu:P.underlying t=some (.struct fs)) (hfs: ∀f∈fs.toList,∃i,P.info? f.type=some i) (hps:ps.map (fun p=>(p.1,ev ρ p.2))=vs) (h:Parts P K fs k vs k.z Z):
 ∃v,(∀w:World,(execOp (ev ρ) ⟨dst,.build t ps.toArray,ty,pos,af,g⟩).run P w= .ok (.value v) w)∧k.V K Z v:=by
 obtain ⟨i,z,hi,hsi,hz,hzc,hbi, -⟩:=hT.info
 obtain ⟨l,hl,hq⟩:=qdN (P:=P) hfs
 obtain ⟨c',hfill,hR⟩:=qlb (P:=P) (fun j=>l.toArray[j]?) (fun j fd inf hj hinf=>by simpa using hq j fd inf (by simpa using hj) hinf) h z.cells (by rw [hzc];exact k.hz K)
 refine ⟨.agg c',fun w=>?_,⟨c'.toList,hR,by simp [ha]⟩⟩
 have hzr:(zeroValue t).run P w= .ok z w:=by simp [zeroValue,typeInfo,hi,hz]
 have key:(Instr.build t vs.toArray).run P w= .ok (.agg c') w:=by
  unfold Instr.build
  have hm:(fs.mapM fun f=>do pure (f.offset,←sizeOf f.type):Sem (Array (Nat×Nat))).run P w= .ok l.toArray w:=by
   rw [Array.mapM_eq_mapM_toList]
   rw [←bind_pure_comp]
   simp only [Sem.run_bind,hl,Result.andThen_ok,Sem.run_pure]
  simp only [Sem.run_bind,hzr,Result.andThen_ok,run_underlying hu,hm]
  rw [hfill]
  rfl
 unfold execOp
 simp only [List.map_toArray,hps]
 simp [key]
theorem qp7 {l:List (α×Value)} {ps:List (Nat×Operand)} {n:Nat} (hT0:TyOk P t (Kd.arr n k) by_) {by':Nat} (hT:TyOk P e k by') (hu:P.underlying t=some (.array n e)) (hps:ps.map (fun p=>(p.1,ev ρ p.2))=((l.map (·.2)).zipIdx.map fun p=>(p.2,p.1))) (hV: ∀p∈l,k.V K p.1 p.2) (hn:l.length=n):
 ∃v,(∀w:World,(execOp (ev ρ) ⟨dst,.build t ps.toArray,ty,pos,af,g⟩).run P w= .ok (.value v) w)∧(Kd.arr n k).V K (l.map (·.1)) v:=by
 obtain ⟨i,z,hi,hsi,hz,hzc,hbi, -⟩:=hT0.info
 have hzr: ∀w:World,(zeroValue t).run P w= .ok z w:=fun w=>by simp [zeroValue,typeInfo,hi,hz]
 have hzs:z.cells.size=n *k.sz:=by
  have:=(Kd.arr n k).len ((Kd.arr n k).hz K)
  rw [←hzc] at this
  exact (show z.cells.size=(Kd.arr n k).sz by simpa using this)
 obtain ⟨c,hc,mid,hm,hRm⟩:=qe8 (k:=k) (K:=K) k.sz (fun _ _=>k.len) l 0 [] z.cells hV (by simp) (by simp) (by rw [hzs,hn];simp) rfl
 refine ⟨.agg c,fun w=>?_,⟨c.toList,⟨by simp [hn],by rw [hm];simpa using hRm⟩,by simp [Kd.arr]⟩⟩
 unfold execOp
 simp only [List.map_toArray,hps]
 have key:(Instr.build t ((l.map (·.2)).zipIdx.map fun p=>(p.2,p.1)).toArray).run P w= .ok (.agg c) w:=by
  unfold Instr.build
  simp only [Sem.run_bind,hzr w,Result.andThen_ok,run_underlying hu,hT.size]
  simp [hc]
 simp [key]
end
end Go.Inc

set_option linter.unusedVariables false
namespace Go.Inc
open Go Go.RowKit
def Ents {κ ν:Type} (kk:Kd κ) (kv:Kd ν) (K:Ghost):List MapEntry→List (κ×ν)→Prop
 | [],[]=>True
 | e::es,(a,b)::m=>kk.V K a e.key∧kv.V K b e.val∧Ents kk kv K es m
 | _,_=>False
def mfind {κ ν:Type} [DecidableEq κ] (x:κ):List (κ×ν)→Option ν
 | []=>none
 | (a,b)::m=>if x=a then some b else mfind x m
def mset {κ ν:Type} [DecidableEq κ] (x:κ) (y:ν):List (κ×ν)→List (κ×ν)
 | []=> [(x,y)]
 | (a,b)::m=>if x=a then (a,y)::m else (a,b)::mset x y m
def mb:Value→Option Nat
 | .map r=>r
 | _=>none
def Mp {κ ν:Type} (kk:Kd κ) (kv:Kd ν) (w:World) (K:Ghost) (m:List (κ×ν)) (v:Value):Prop:=
 (v= .map none∧m=[])∨∃r es clock,v= .map (some r)∧K r=none∧w.heap[r]?=some (.map es clock)∧Ents kk kv K es.toList m
section
variable {κ ν:Type} {kk:Kd κ} {kv:Kd ν} {P:Program} {w w':World} {K K':Ghost} {m:List (κ×ν)} {v u:Value}
theorem Ents.mono (hle:K.le K'): ∀ {es:List MapEntry} {m:List (κ×ν)},Ents kk kv K es m→Ents kk kv K' es m
 | [],[],h=>h
 | e::es,(a,b)::m,⟨h1,h2,h3⟩=>⟨h1.mono hle,h2.mono hle,h3.mono hle⟩
 | [],_::_,h=>h.elim
 | _::_,[],h=>h.elim
theorem Mp.ext {X:Nat→Prop} (h:Mp kk kv w K m v) (hE:Ext X w K w' K') (hX: ∀r,mb v=some r→¬X r):Mp kk kv w' K' m v:=by
 rcases h with h | ⟨r,es,clock,rfl,hK,hh,hE'⟩
 ·exact .inl h
 ·have hne:=hX r rfl
  have hlt:=(Array.getElem?_eq_some_iff.1 hh).1
  exact .inr ⟨r,es,clock,rfl,(hE.ghost r hlt hne).trans hK,(hE.heap r hlt hne).trans hh,hE'.mono hE.le⟩
theorem Mp.extN (h:Mp kk kv w K m v) (hE:Ext NX w K w' K'):Mp kk kv w' K' m v:=h.ext hE (fun _ _ h=>h)
theorem Mp.lt (h:Mp kk kv w K m v): ∀r,mb v=some r→r<w.heap.size:=by
 rcases h with ⟨rfl,_⟩ | ⟨r,es,clock,rfl,hK,hh,hE'⟩
 ·intro r h;cases h
 ·intro r' h
  cases h
  exact (Array.getElem?_eq_some_iff.1 hh).1
theorem Mp.box {α:Type} {k:Kd α} {bl:Nat} {pre post:List Value} {x:α} (h:Mp kk kv w K m v) (hB:Bx k w K bl pre post x):mb v≠some bl:=fun he=>by
 rcases h with ⟨rfl,_⟩ | ⟨r,es,clock,rfl,hK,hh,hE'⟩
 ·cases he
 ·cases he
  obtain ⟨_,cs,T,hc,_⟩:=hB
  rw [hh] at hc
  cases hc
theorem Mp.own {α:Type} {k:Kd α} {e:TypeId} {x:List α} (h:Mp kk kv w K m v) (hO:Own k e w K x u): ∀g,ob u=some g→mb v≠some g:=fun g hg he=>by
 rcases h with ⟨rfl,_⟩ | ⟨r,es,clock,rfl,hK,hh,hE'⟩
 ·cases he
 ·cases he
  obtain ⟨l,hl⟩:=hO.known g hg
  rw [hK] at hl
  cases hl
structure KeyOk (P:Program) (kt:TypeId) (kk:Kd κ) [DecidableEq κ]:Prop where
 check: ∀ {em:Bool} {K:Ghost} {x:κ} {v:Value} {w:World},kk.V K x v→(Instr.checkKey em 10000 kt v).run P w= .ok () w
 stays: ∀ {K:Ghost} {x:κ} {v u:Value} {w:World},kk.V K x v→kk.V K x u→(Instr.keyThatStays v u).run P w= .ok u w
 ask: ∀ {K:Ghost} {x y:κ} {v u:Value} {w:World},kk.V K x v→kk.V K y u→(Op.equal kt v u).run P w= .ok (decide (x=y)) w
 now: ∃d,P.underlying kt=some d∧∀ {K:Ghost} {x y:κ} {v u:Value},kk.V K x v→kk.V K y u→(Instr.sameNow d v u=none∨Instr.sameNow d v u=some (decide (x=y)))
theorem Ents.snoc: ∀ {es:List MapEntry} {m:List (κ×ν)} {x:κ} {y:ν} {e:MapEntry},Ents kk kv K es m→kk.V K x e.key→kv.V K y e.val→Ents kk kv K (es++ [e]) (m++ [(x,y)])
 | [],[],_,_,_,_,h1,h2=>⟨h1,h2,trivial⟩
 | e::es,(a,b)::m,_,_,_,⟨h1,h2,h3⟩,h4,h5=>⟨h1,h2,h3.snoc h4 h5⟩
 | [],_::_,_,_,_,h,_,_=>h.elim
 | _::_,[],_,_,_,h,_,_=>h.elim
variable [DecidableEq κ] {kt vt:TypeId}
def mat {κ ν:Type} [DecidableEq κ] (x:κ):List (κ×ν)→List MapEntry→Nat→Option (Nat×Value)
 | (a,_)::m,e::es,i=>if x=a then some (i,e.val) else mat x m es (i+1)
 | _,_,_=>none
theorem qmx (hk:KeyOk P kt kk) {x:κ} (hv:kk.V K x v): ∀ {es:List MapEntry} {m:List (κ×ν)} (i:Nat),Ents kk kv K es m→(Instr.findAsking kt v es i).run P w= .ok (mat x m es i) w
 | [],[],i,h=>by simp [Instr.findAsking,mat]
 | e::es,(a,b)::m,i,⟨h1,h2,h3⟩=>by
   simp only [Instr.findAsking,Sem.run_bind,hk.ask hv h1,Result.andThen_ok,mat]
   by_cases hx:x=a
   ·simp [hx]
   ·simp only [hx,decide_false,Bool.false_eq_true,if_false]
    exact qmx hk hv (i+1) h3
 | [],_::_,_,h=>h.elim
 | _::_,[],_,h=>h.elim
theorem qnx {d:TypeDesc} (hn: ∀ {K:Ghost} {x y:κ} {v u:Value},kk.V K x v→kk.V K y u→(Instr.sameNow d v u=none∨Instr.sameNow d v u=some (decide (x=y)))) {x:κ} (hv:kk.V K x v): ∀ {es:List MapEntry} {m:List (κ×ν)} (i:Nat),Ents kk kv K es m→Instr.findNow d v es i=none∨Instr.findNow d v es i=some (mat x m es i)
 | [],[],i,h=>by simp [Instr.findNow,mat]
 | e::es,(a,b)::m,i,⟨h1,h2,h3⟩=>by
   rcases hn hv h1 with h | h
   ·exact .inl (by simp [Instr.findNow,h])
   ·by_cases hx:x=a
    ·exact .inr (by simp [Instr.findNow,h,mat,hx])
    ·rcases qnx hn hv (i+1) h3 with h' | h'
     ·exact .inl (by simp [Instr.findNow,h,hx,h'])
     ·exact .inr (by simp [Instr.findNow,h,hx,h',mat])
 | [],_::_,_,h=>h.elim
 | _::_,[],_,h=>h.elim
theorem qhp (hk:KeyOk P kt kk) {x:κ} (hv:kk.V K x v) {es:List MapEntry} {m:List (κ×ν)} (hE:Ents kk kv K es m):(Instr.findKey kt v es).run P w= .ok (mat x m es 0) w:=by
 obtain ⟨d,hd,hn⟩:=hk.now
 unfold Instr.findKey
 simp only [Sem.run_bind,run_underlying hd,Result.andThen_ok]
 rcases qnx hn hv 0 hE with h | h
 ·simp only [h]
  exact qmx hk hv 0 hE
 ·simp [h]
theorem qfb {x:κ}: ∀ {es:List MapEntry} {m:List (κ×ν)} (i:Nat),Ents kk kv K es m→(mat x m es i=none∧mfind x m=none)∨∃j b e,mat x m es i=some (i+j,e.val)∧mfind x m=some b∧es[j]?=some e∧kv.V K b e.val∧kk.V K x e.key
 | [],[],i,h=> .inl ⟨rfl,rfl⟩
 | e::es,(a,b)::m,i,⟨h1,h2,h3⟩=>by
   by_cases hx:x=a
   ·subst hx
    exact .inr ⟨0,b,e,by simp [mat],by simp [mfind],rfl,h2,h1⟩
   ·rcases qfb (i+1) h3 (x:=x) with ⟨h,h'⟩ | ⟨j,b',e',hj,hb,he,hv,hk⟩
    ·exact .inl ⟨by simp [mat,hx,h],by simp [mfind,hx,h']⟩
    ·exact .inr ⟨j+1,b',e',by simp [mat,hx,hj];omega,by simp [mfind,hx,hb],by simpa using he,hv,hk⟩
 | [],_::_,_,h=>h.elim
 | _::_,[],_,h=>h.elim
theorem qih {x:κ} {y:ν}: ∀ {m:List (κ×ν)},mfind x m=none→mset x y m=m++ [(x,y)]
 | [],_=>rfl
 | (a,b)::m,h=>by
   simp only [mfind] at h
   split at h
   ·cases h
   ·rename_i hx
    simp [mset,hx,qih h]
theorem qii {x:κ} {y:ν} {ky vv:Value} (hy:kv.V K y vv) (hx:kk.V K x ky): ∀ {es:List MapEntry} {m:List (κ×ν)} (i:Nat),Ents kk kv K es m→(mat x m es i=none)∨∃j b,mat x m es i=some (i+j,b)∧j<es.length∧Ents kk kv K (es.modify j fun e=> { e with key:=ky,val:=vv }) (mset x y m)
 | [],[],i,h=> .inl rfl
 | e::es,(a,b)::m,i,⟨h1,h2,h3⟩=>by
   by_cases hxa:x=a
   ·subst hxa
    refine .inr ⟨0,e.val,by simp [mat],by simp,?_⟩
    simp only [mset,if_true,List.modify_zero_cons]
    exact ⟨hx,hy,h3⟩
   ·rcases qii hy hx (i+1) h3 with h | ⟨j,b',hj,hlt,hE⟩
    ·exact .inl (by simp [mat,hxa,h])
    ·refine .inr ⟨j+1,b',by simp [mat,hxa,hj];omega,by simpa using hlt,?_⟩
     simp only [mset,hxa,if_false,List.modify_succ_cons]
     exact ⟨h1,h2,hE⟩
 | [],_::_,_,h=>h.elim
 | _::_,[],_,h=>h.elim
variable {ρ:Env} {dst:Option Tmp} {ty:TypeId} {pos:String} {af:Array Edge} {g:Option (Nat×Bool)} {x y z:Operand} {bw:Nat} {t1 t2:TypeId}
theorem qdz {r:Nat} {es:Array MapEntry} {c:Nat} (hh:w.heap[r]?=some (.map es c)):(getObj r).run P w= .ok (.map es c) w:=by
 simp only [getObj,Sem.run,hh]
theorem qgI {r:Nat} {es:Array MapEntry} {c:Nat} (o:Obj) (hh:w.heap[r]?=some (.map es c)):(setObj r o).run P w= .ok () { w with heap:=w.heap.setIfInBounds r o }:=by
 simp only [setObj,Sem.run,hh]
theorem qml {k:κ} {Z:Nat→Prop} (hm:ev ρ x=v) (hk:ev ρ y=u) (hM:Mp kk kv w K m v) (hV:kk.V K k u) (ht:P.underlying t1=some (.map kt vt)) (hK:KeyOk P kt kk) (hT:TyOk P vt kv bw) (hZ: ∀r,mb v=some r→¬Z r):
 ∃r,(∀w' K',Ext Z w K w' K'→Models w' K'→(execOp (ev ρ) ⟨dst,.lookup t1 x y true,ty,pos,af,g⟩).run P w'= .ok (.value (.tuple #[r,.bool (mfind k m).isSome])) w')∧kv.V K ((mfind k m).getD kv.z) r:=by
 obtain ⟨es,hE,hcase⟩: ∃es:Array MapEntry,Ents kk kv K es.toList m∧((v= .map none∧es= #[])∨∃r c,v= .map (some r)∧w.heap[r]?=some (.map es c)):=by
  rcases hM with ⟨rfl,rfl⟩ | ⟨r,es,clock,rfl,hK,hh,hE'⟩
  ·exact ⟨#[],trivial,.inl ⟨rfl,rfl⟩⟩
  ·exact ⟨es,hE',.inr ⟨r,clock,rfl,hh⟩⟩
 obtain ⟨zv,hz,hzV⟩:=hT.zero (K:=K)
 have hstay: ∀w' K',Ext Z w K w' K'→(v= .map none∧es= #[])∨∃r c,v= .map (some r)∧w'.heap[r]?=some (.map es c):=fun w' K' hEx=>by
  rcases hcase with h | ⟨r,c,rfl,hh⟩
  ·exact .inl h
  ·exact .inr ⟨r,c,rfl,(hEx.heap r (Array.getElem?_eq_some_iff.1 hh).1 (hZ r rfl)).trans hh⟩
 have key: ∃r,(∀w' K',Ext Z w K w' K'→(Instr.lookup t1 v u true).run P w'= .ok (.tuple #[r,.bool (mfind k m).isSome]) w')∧kv.V K ((mfind k m).getD kv.z) r:=by
  rcases qfb (x:=k) 0 hE with ⟨h1,h2⟩ | ⟨j,b,e,h1,h2,h3,h4,h5⟩
  ·refine ⟨zv,fun w' K' hEx=>?_,by rw [h2];exact hzV⟩
   have hck:=hK.check (em:=es.isEmpty) (w:=w') hV
   have hfd:=qhp (w:=w') hK hV hE
   unfold Instr.lookup
   rw [Sem.run_bind,run_underlying ht]
   simp only [Result.andThen_ok]
   rw [h1] at hfd
   rcases hstay w' K' hEx with ⟨rfl,rfl⟩ | ⟨r,c,rfl,hh⟩
   ·simp at hck hfd
    simp [hck,hfd,hz,h2]
   ·simp [qdz hh,hck,hfd,hz,h2]
  ·refine ⟨e.val,fun w' K' hEx=>?_,by rw [h2];exact h4⟩
   have hck:=hK.check (em:=es.isEmpty) (w:=w') hV
   have hfd:=qhp (w:=w') hK hV hE
   unfold Instr.lookup
   rw [Sem.run_bind,run_underlying ht]
   simp only [Result.andThen_ok]
   rw [h1] at hfd
   rcases hstay w' K' hEx with ⟨rfl,rfl⟩ | ⟨r,c,rfl,hh⟩
   ·simp at h3
   ·simp [qdz hh,hck,hfd,h2]
 obtain ⟨r,hr,hV'⟩:=key
 refine ⟨r,fun w' K' hEx _=>?_,hV'⟩
 unfold execOp
 simp only [hm,hk]
 simp [hr w' K' hEx]
theorem qs5 {k:κ} {b:ν} {r:Nat} {vv:Value} (hMo:Models w K) (hm:ev ρ x= .map (some r)) (hk:ev ρ y=u) (hb:ev ρ z=vv) (hM:Mp kk kv w K m (.map (some r))) (hV:kk.V K k u) (hVb:kv.V K b vv) (ht:P.underlying t1=some (.map kt vt)) (hK:KeyOk P kt kk):
 ∃w',(execOp (ev ρ) ⟨dst,.mapUpdate t1 x y z,ty,pos,af,g⟩).run P w= .ok .skip w'∧Mp kk kv w' K (mset k b m) (.map (some r))∧Ext (· =r) w K w' K∧Models w' K:=by
 rcases hM with ⟨h,_⟩ | ⟨r',es,clock,h,hKr,hh,hE⟩
 ·cases h
 ·cases h
  have hck:=hK.check (em:=false) (w:=w) hV
  have hfd:=qhp (w:=w) hK hV hE
  have hlt:=(Array.getElem?_eq_some_iff.1 hh).1
  have key: ∃o:Obj,(Instr.mapUpdate t1 (.map (some r)) u vv).run P w= .ok () { w with heap:=w.heap.setIfInBounds r o }∧∃es' c',o= .map es' c'∧Ents kk kv K es'.toList (mset k b m):=by
   rcases qii hVb hV 0 hE with h1 | ⟨j,b',h1,hj,hE'⟩
   ·rcases qfb (x:=k) 0 hE with ⟨_,h2⟩ | ⟨j,b',e,h1',_⟩
    ·rw [h1] at hfd
     refine ⟨.map (es.push { key:=u,val:=vv,born:=clock }) (clock+1),?_,_,_,rfl,?_⟩
     ·unfold Instr.mapUpdate
      rw [Sem.run_bind,run_underlying ht]
      simp [qdz hh,hck,hfd,qgI _ hh]
     ·rw [qih h2,Array.toList_push]
      exact hE.snoc hV hVb
    ·rw [h1] at h1'
     cases h1'
   ·rw [h1] at hfd
    rcases qfb (x:=k) 0 hE with ⟨h1',_⟩ | ⟨j',b2,e,h1',h2',h3',h4',h5'⟩
    ·rw [h1] at h1'
     cases h1'
    ·rw [h1] at h1'
     simp only [Option.some.injEq,Prod.mk.injEq] at h1'
     have hjj:j=j':=by omega
     subst hjj
     have hst:=hK.stays (w:=w) h5' hV
     have hej:es[0+j]?=some e:=by simpa using h3'
     refine ⟨.map (es.modify (0+j) fun e=> { e with key:=u,val:=vv }) clock,?_,_,_,rfl,?_⟩
     ·unfold Instr.mapUpdate
      rw [Sem.run_bind,run_underlying ht]
      simp only [Nat.zero_add] at hej hfd⊢
      simp [qdz hh,hck,hfd,hej,hst,qgI _ hh]
     ·rw [Array.toList_modify]
      simpa using hE'
  obtain ⟨o,hr,es',c',rfl,hE'⟩:=key
  refine ⟨{ w with heap:=w.heap.setIfInBounds r (.map es' c') },?_,.inr ⟨r,es',c',rfl,hKr,?_,hE'⟩,⟨Ghost.le.refl K,fun j hj hx=>?_,fun _ _ _=>rfl,by simp,rfl,rfl,rfl⟩,?_⟩
  ·unfold execOp
   simp only [hm,hk,hb]
   simp [hr]
  ·simp [hlt]
  ·show (w.heap.setIfInBounds r _)[j]?=_
   rw [Array.getElem?_setIfInBounds_ne (fun h=>hx h.symm)]
  ·intro b0 t' l' hb0
   obtain ⟨c0,fr,h0,h00⟩:=hMo b0 t' l' hb0
   have hne:b0≠r:=fun e=>by subst e;rw [hKr] at hb0;cases hb0
   refine ⟨c0,fr,?_,h00⟩
   show (w.heap.setIfInBounds r _)[b0]?=_
   rw [Array.getElem?_setIfInBounds_ne (fun h=>hne h.symm)]
   exact h0
omit [DecidableEq κ] in
theorem qs4 (hMo:Models w K): ∃w',(execOp (ev ρ) ⟨dst,.makeMap t1 none,ty,pos,af,g⟩).run P w= .ok (.value (.map (some w.heap.size))) w'∧Mp kk kv w' K [] (.map (some w.heap.size))∧Ext NX w K w' K∧Models w' K:=by
 refine ⟨w.alloc (.map #[] 0),?_,.inr ⟨w.heap.size,#[],0,rfl,hMo.none_of_ge (Nat.le_refl _),qcI w _,trivial⟩,Ext.alloc w K _,hMo.alloc _⟩
 unfold execOp
 simp [Instr.makeMap]
omit [DecidableEq κ] in
theorem qp9 (hm:ev ρ x=v) (hy:ev ρ y= .map none) (hM:Mp kk kv w K m v) (ht:P.underlying t1=some (.map kt vt)):
 ∃r:Bool,(∀w:World,(execOp (ev ρ) ⟨dst,.binOp .eql t1 x y t2,ty,pos,af,g⟩).run P w= .ok (.value (.bool r)) w)∧(r=true→v= .map none∧m=[])∧(r=false→∃b,v= .map (some b)):=by
 have hd: ∀(w:World) (o:Option Nat),(Op.equal t1 (.map o) (.map none)).run P w= .ok o.isNone w:=fun w o=>by
  have: ∀d:Nat,(Op.equalIn (d+1) t1 (.map o) (.map none)).run P w= .ok o.isNone w:=fun d=>by
   cases o<;>simp [Op.equalIn,run_underlying ht]
  exact this 9999
 rcases hM with ⟨rfl,rfl⟩ | ⟨r,es,clock,rfl,_⟩
 ·refine ⟨true,?_,(fun _=>⟨rfl,rfl⟩),(fun h=>by cases h)⟩
  intro w;unfold execOp;simp only [hm,hy];simp [binOp,eqGuard,hd]
 ·refine ⟨false,?_,(fun h=>by cases h),fun _=>⟨r,rfl⟩⟩
  intro w;unfold execOp;simp only [hm,hy];simp [binOp,eqGuard,hd]
end
section
variable {P:Program} {t e:TypeId} {by_:Nat}
theorem qed (n:Nat): ∀(xs:List UInt8),((xs.map qbj).zip (xs.map qbj)).all (fun (x,y)=>Instr.sameBits n x y)=true
 | []=>rfl
 | x::xs=>by
   simp only [List.map_cons,List.zip_cons_cons,List.all_cons,qed n xs,Bool.and_true]
   cases n<;>simp [qbj,Instr.sameBits]
theorem qie {n:Nat} {em:Bool} {K:Ghost} {x:List UInt8} {v:Value} {w:World} (ht:P.underlying t=some (.array n e)) (he:P.underlying e=some (.int .u8)) (hT:TyOk P e Kd.byte by_) (d:Nat) (hV:(Kd.arr n Kd.byte).V K x v):
 (Instr.checkKey em (d+2) t v).run P w= .ok () w:=by
 obtain ⟨rfl,hx⟩:=qbO hV
 have hpart: ∀i,i<n→(part e (x.map qbj).toArray (i *1)).run P w= .ok (qbj (x.getD i 0)) w:=fun i hi=>by
  unfold part
  rw [Sem.run_bind,hT.isAgg]
  have hi':i<x.length:=by omega
  simp [Kd.byte,hi']
 have hck: ∀m (c:UInt8),(Instr.checkKey em (m+1) e (qbj c)).run P w= .ok () w:=fun m c=>by
  unfold qbj
  simp [Instr.checkKey,run_underlying he]
 have hs:(sizeOf e).run P w= .ok 1 w:=hT.size w
 rw [Instr.checkKey]
 simp only [Sem.run_bind,run_underlying ht,Result.andThen_ok,Std.Legacy.Range.forIn_eq_forIn_range',Std.Legacy.Range.size,Nat.sub_zero,Nat.add_one_sub_one,Nat.div_one]
 have hl: ∀i∈List.range' 0 n 1,i<n:=fun i hi=>by simpa using (List.mem_range'_1.1 hi).2
 generalize List.range' 0 n 1=l at hl⊢
 induction l with
 | nil=>simp
 | cons i l ih=>
   have h1:=hpart i (hl i (by simp))
   simp only [List.forIn_cons,Sem.run_bind,hs,Result.andThen_ok,h1,hck d,Sem.run_pure]
   exact ih fun j hj=>hl j (by simp [hj])
theorem qcq {n:Nat} (ht:P.underlying t=some (.array n e)) (he:P.underlying e=some (.int .u8)) (hT:TyOk P e Kd.byte by_):KeyOk P t (Kd.arr n Kd.byte) where
 check:=fun hV=>qie ht he hT 9998 hV
 stays:=fun {K x v u w} hv hu=>by
  obtain ⟨rfl,hx⟩:=qbO hv
  obtain ⟨rfl,_⟩:=qbO hu
  unfold Instr.keyThatStays
  have:Instr.sameBits 10000 (.agg (x.map qbj).toArray) (.agg (x.map qbj).toArray)=true:=by
   have h:=qed 9999 x
   rw [show Instr.sameBits 10000 (.agg (x.map qbj).toArray) (.agg (x.map qbj).toArray)=((x.map qbj).toArray.size==(x.map qbj).toArray.size && ((x.map qbj).toArray.toList.zip (x.map qbj).toArray.toList).all fun (x,y)=>Instr.sameBits 9999 x y) from by simp only [Instr.sameBits]]
   simpa using h
  simp [this]
 ask:=fun hv hu=>qhm 9998 hv hu ht he hT
 now:=⟨_,ht,fun hv hu=> .inl (by
  obtain ⟨rfl,_⟩:=qbO hv
  rfl)⟩
end
def Kd.rw (z:Value) (hz:z.oneCell'=true):Kd Value where
 sz:=1
 agg:=false
 R:=fun _ v cs=>cs=[v]∧v.oneCell'=true
 wf:=fun _=>True
 z:=z
 zc:=[z]
 len:=fun h=>by simp [h.1]
 mono:=fun _ h=>h
 one:=fun h=>by simp [h.1,h.2]
 hwf:=fun _=>trivial
 hz:=fun _=>⟨rfl,hz⟩
 hs:=fun _=>rfl
abbrev Kd.rsl:Kd Value:=Kd.rw (.slice none 0 0) rfl
abbrev Kd.rmp:Kd Value:=Kd.rw (.map none) rfl
abbrev Kd.rpt:Kd Value:=Kd.rw (.pointer none) rfl
section
variable {K:Ghost} {v z s:Value} {hz:z.oneCell'=true}
theorem rw_V (h:v.oneCell'=true):(Kd.rw z hz).V K v v:=⟨[v],⟨rfl,h⟩,rfl⟩
theorem qbL (h:(Kd.rw z hz).V K s v):s=v:=by
 obtain ⟨cs,⟨rfl,_⟩,rfl⟩:=h
 rfl
end
theorem Own.one {α:Type} {k:Kd α} {e:TypeId} {w:World} {K:Ghost} {x:List α} {v:Value} (h:Own k e w K x v):v.oneCell'=true:=by
 rcases h.2.2 with ⟨A,rfl,_⟩ | ⟨_,_,_,_,_,rfl,_⟩<;>rfl
theorem Mp.one {κ ν:Type} {kk:Kd κ} {kv:Kd ν} {w:World} {K:Ghost} {m:List (κ×ν)} {v:Value} (h:Mp kk kv w K m v):v.oneCell'=true:=by
 rcases h with ⟨rfl,_⟩ | ⟨_,_,_,rfl,_⟩<;>rfl
end Go.Inc

set_option linter.unusedVariables false
namespace Go.Inc
open Go Go.RowKit
section
variable {P:Program} {n:Nat} {Q:Post} {ops:Array Oper} {rest:List Oper} {o:Oper} {ρ:Env} {w:World} {K:Ghost} {N:Value→World→Prop}
variable {α β:Type} {k:Kd α} {k':Kd β} {e t:TypeId} {by_:Nat}
theorem St_S {X:List α} {u:Value} (h: ∃v w' K',(execOp (ev ρ) o).run P w= .ok (.value v) w'∧Own k e w' K' X v∧Ext (fun b=>ob u=some b) w K w' K'∧Models w' K'∧(ob v=ob u∨ob v=some w.heap.size))
 (hn: ∀v w' K',Own k e w' K' X v→Ext (fun b=>ob u=some b) w K w' K'→Models w' K'→(ob v=ob u∨ob v=some w.heap.size)→N v w'):Step P o ρ w N:=by
 obtain ⟨v,w',K',hr,h1,h2,h3,h4⟩:=h
 exact Step.value hr (hn v w' K' h1 h2 h3 h4)
theorem qoK {X:List α} (h: ∃v w' K',(execOp (ev ρ) o).run P w= .ok (.value v) w'∧Own k e w' K' X v∧Ext NX w K w' K'∧Models w' K'∧(∀g,ob v=some g→w.heap.size≤g))
 (hn: ∀v w' K',Own k e w' K' X v→Ext NX w K w' K'→Models w' K'→(∀g,ob v=some g→w.heap.size≤g)→N v w'):Step P o ρ w N:=by
 obtain ⟨v,w',K',hr,h1,h2,h3,h4⟩:=h
 exact Step.value hr (hn v w' K' h1 h2 h3 h4)
theorem St_B {X:α} (h: ∃bl w',(execOp (ev ρ) o).run P w= .ok (.value (.pointer (some ⟨bl,0,none⟩))) w'∧Bx k w' K bl [] [] X∧Ext NX w K w' K∧Models w' K∧w.heap.size≤bl)
 (hn: ∀bl w',Bx k w' K bl [] [] X→Ext NX w K w' K→Models w' K→w.heap.size≤bl→N (.pointer (some ⟨bl,0,none⟩)) w'):Step P o ρ w N:=by
 obtain ⟨bl,w',hr,h1,h2,h3,h4⟩:=h
 exact Step.value hr (hn bl w' h1 h2 h3 h4)
theorem qg5 {X:α} {bl:Nat} {pre post:List Value} (h: ∃w',(execOp (ev ρ) o).run P w= .ok .skip w'∧Bx k w' K bl pre post X∧Ext (· =bl) w K w' K∧Models w' K)
 (hn: ∀w',Bx k w' K bl pre post X→Ext (· =bl) w K w' K→Models w' K→N undef w'):Step P o ρ w N:=by
 obtain ⟨w',hr,h1,h2,h3⟩:=h
 exact Step.skip hr (hn w' h1 h2 h3)
theorem qa0 {f:FuncId} {args:Array Value} {w1:World} (hr:(execOp (ev ρ) o).run P w= .ok (.enter f args) w1)
 (hn:Calls P f args w1 fun e w'=> ∃v,e= .returned v∧N v w'):Step P o ρ w N:=Step.call hr hn
theorem quj {κ ν:Type} {kk:Kd κ} {kv:Kd ν} {m:List (κ×ν)} {u:Value} {Y:Nat→Prop} (h: ∃w',(execOp (ev ρ) o).run P w= .ok .skip w'∧Mp kk kv w' K m u∧Ext Y w K w' K∧Models w' K) (hn: ∀w',Mp kk kv w' K m u→Ext Y w K w' K→Models w' K→N undef w'):Step P o ρ w N:=by
 obtain ⟨w',hr,h1,h2,h3⟩:=h
 exact Step.skip hr (hn w' h1 h2 h3)
theorem qui {κ ν:Type} {kk:Kd κ} {kv:Kd ν} (h: ∃w',(execOp (ev ρ) o).run P w= .ok (.value (.map (some w.heap.size))) w'∧Mp kk kv w' K [] (.map (some w.heap.size))∧Ext NX w K w' K∧Models w' K) (hn: ∀b w',Mp kk kv w' K [] (.map (some b))→Ext NX w K w' K→Models w' K→w.heap.size≤b→N (.map (some b)) w'):Step P o ρ w N:=by
 obtain ⟨w',hr,h1,h2,h3⟩:=h
 exact Step.value hr (hn _ w' h1 h2 h3 (Nat.le_refl _))
theorem qaz (hg:o.guard=none) (hd:qbD n o.dst=true) (h:Step P o ρ w fun v w'=>WL P n ops Q rest (updO ρ o.dst v) w'):WL P n ops Q (o::rest) ρ w:=qrb hg hd h
theorem WL_V {X:α} (h: ∃v,(∀w:World,(execOp (ev ρ) o).run P w= .ok (.value v) w)∧k.V K X v) (hg:o.guard=none) (hd:qbD n o.dst=true) (hn: ∀v,k.V K X v→WL P n ops Q rest (updO ρ o.dst v) w):WL P n ops Q (o::rest) ρ w:=by
 obtain ⟨v,hr,hV⟩:=h
 exact qaa v (hr w) hg hd (hn v hV)
theorem WL_L {X:α} (hM:Models w K) (h: ∃v,(∀w' K',Ext NX w K w' K'→Models w' K'→(execOp (ev ρ) o).run P w'= .ok (.value v) w')∧k.V K X v) (hg:o.guard=none) (hd:qbD n o.dst=true) (hn: ∀v,k.V K X v→WL P n ops Q rest (updO ρ o.dst v) w):WL P n ops Q (o::rest) ρ w:=by
 obtain ⟨v,hr,hV⟩:=h
 exact qaa v (hr w K (Ext.refl _ _ _) hM) hg hd (hn v hV)
theorem WL_P {X:α} (h: ∃bl off,(∀w:World,(execOp (ev ρ) o).run P w= .ok (.value (.pointer (some ⟨bl,off,none⟩))) w)∧k.Pt K X (.pointer (some ⟨bl,off,none⟩))) (hg:o.guard=none) (hd:qbD n o.dst=true) (hn: ∀bl off,k.Pt K X (.pointer (some ⟨bl,off,none⟩))→WL P n ops Q rest (updO ρ o.dst (.pointer (some ⟨bl,off,none⟩))) w):WL P n ops Q (o::rest) ρ w:=by
 obtain ⟨bl,off,hr,hV⟩:=h
 exact qaa _ (hr w) hg hd (hn bl off hV)
theorem quk {C:Bool→Prop} (h: ∃r:Bool,(∀w:World,(execOp (ev ρ) o).run P w= .ok (.value (.bool r)) w)∧C r) (hg:o.guard=none) (hd:qbD n o.dst=true) (hn: ∀r,C r→WL P n ops Q rest (updO ρ o.dst (.bool r)) w):WL P n ops Q (o::rest) ρ w:=by
 obtain ⟨r,hr,hC⟩:=h
 exact qaa _ (hr w) hg hd (hn r hC)
end
section
variable {P:Program} {α β γ:Type} {k:Kd α} {k':Kd β} {e t:TypeId} {by_:Nat} {w:World} {K:Ghost} {ρ:Env}
variable {dst:Option Tmp} {ty:TypeId} {pos:String} {af:Array Edge} {g:Option (Nat×Bool)} {x y z:Operand} {v u:Value} {ik ik':IntKind} {a b:Int} {p q:Bool}
theorem qsA {fn:Fn} {cs:List Operand} {us:List Value} (h2:cs.map (ev ρ)=us):(execOp (ev ρ) ⟨dst,.makeFunc fn #[] cs.toArray,ty,pos,af,g⟩).run P w= .ok (.value (.func fn #[] us.toArray)) w:=by
 subst h2
 exact R_fn (fs:= #[]) (vs:= #[]) (by simp) (by simp)
theorem qsI {p:Prop} [Decidable p] (hx:ev ρ x= .bool (decide p)) {t1:TypeId}:(execOp (ev ρ) ⟨dst,.unOp .not t1 x,ty,pos,af,g⟩).run P w= .ok (.value (.bool (decide (¬p)))) w:=by
 rw [qhV hx]
 by_cases h:p<;>simp [h]
theorem qs9 {l:List α} (hx:ev ρ x=v) (hV:(Kd.sl k).V K l v) {t1:TypeId} (hu:P.underlying t1=some (.slice e)) (hT:TyOk P e k by_):
 ∃v,(∀w:World,(execOp (ev ρ) ⟨dst,.slice t1 x none none none,ty,pos,af,g⟩).run P w= .ok (.value v) w)∧(Kd.sl k).V K l v:=by
 have h:=qoI (dst:=dst) (ty:=ty) (pos:=pos) (af:=af) (g:=g) hx hV hu hT qci.no qbp.no (Int.le_refl _) (Int.natCast_nonneg _) (Int.le_refl _)
 simpa using h
theorem qtb {n:Nat} (hT:TyOk P t k by_) (hu:P.underlying t=some (.array n e)) (ha:k.agg=true) {i:TypeInfo} (hi:P.info? e=some i): ∃v,(∀w:World,(execOp (ev ρ) ⟨dst,.build t #[],ty,pos,af,g⟩).run P w= .ok (.value v) w)∧k.V K k.z v:=by
 obtain ⟨z,hz,hV⟩:=hT.zero (K:=K)
 obtain ⟨c,rfl,hR⟩:=qbV hV ha
 refine ⟨.agg c,fun w=>?_,hV⟩
 unfold execOp
 have key:(Instr.build t #[]).run P w= .ok (.agg c) w:=by
  unfold Instr.build
  simp [hz,run_underlying hu,Instr.fill,Value.cells,sizeOf,typeInfo,hi]
 simp [key]
end
section
variable {P:Program} {α:Type} {k:Kd α} {w w0:World} {K:Ghost} {ρ:Env} {R0 R:Ending→World→Prop} {rs:Array ResultVar} {v:Value}
theorem nn {a b:Nat} {p:Prop} (h:Nat.beq a b=false):a=b→p:=fun e=>by
 subst e
 rw [Nat.beq_refl] at h
 cases h
theorem qrD {b:Bool} (h:(!b)=true): ¬(b=true):=by cases b<;>simp_all
theorem qrC {b:Bool} (h:(!b)=false):b=true:=by cases b<;>simp_all
theorem qaF {f:FuncId} {args:Array Value} (h: ∀R,R0=R→Calls P f args w R):Calls P f args w R0:=h R0 rfl
theorem qaN (hR:R0=R) (h:(resE P rs ρ).run P w= .ok v w) (h0:R0 (.returned v) w):endQ P rs R .ret ρ w:=⟨v,h,hR▸h0⟩
theorem qhl (hR:R0=R) (h:(resE P rs ρ).run P w= .ok v w) (h0:R0 (.returned v) w):endQ P rs R .normal ρ w:=⟨v,h,hR▸h0⟩
theorem qkf {X:α} (hR:R0=R) (h: ∃v,(resE P rs ρ).run P w= .ok v w∧k.V K X v) (h0: ∀v,k.V K X v→R0 (.returned v) w):endQ P rs R .ret ρ w:=by
 obtain ⟨v,hr,hV⟩:=h
 exact ⟨v,hr,hR▸h0 v hV⟩
end
end Go.Inc

set_option linter.unusedVariables false
namespace Go.Inc
open Go Go.RowKit
def Fr (e:TypeId) (sz:Nat) (w:World) (K:Ghost) (v:Value):Prop:=
 ∃b m cap c,v= .slice (some ⟨b,0,none⟩) m cap∧K b=none∧w.heap[b]?=some (.cells c e (0,0))∧c.size=cap *sz∧cap≤maxLen
section
variable {P:Program} {α:Type} {k:Kd α} {e t:TypeId} {by_:Nat} {w:World} {K:Ghost} {ρ:Env}
variable {dst:Option Tmp} {ty:TypeId} {pos:String} {af:Array Edge} {g:Option (Nat×Bool)} {x y z:Operand} {v u:Value} {ik ik':IntKind} {a b:Int}
theorem qsV {n:Int} {t1 t2:TypeId} (hM:Models w K) (hx:ev ρ x= .slice none 0 0) (hy:ev ρ y= .int .i64 n) (ht:P.underlying t1=some (.slice e)) (hti:P.underlying t2=some (.int .i64)) (hT:TyOk P e k by_) (hsz:(Nat.blt 0 k.sz && Nat.blt 0 by_)=true) (h0:0<n) (hlen:n *by_≤140737488355328):
 ∃v w',(execOp (ev ρ) ⟨dst,.call { callee:= .builtin .append,args:= #[x,y],argTypes:= #[t1,t2] },ty,pos,af,g⟩).run P w= .ok (.value v) w'∧Fr e k.sz w' K v∧Ext NX w K w' K∧Models w' K∧(∀g,ob v=some g→w.heap.size≤g):=by
 simp only [Bool.and_eq_true] at hsz
 have hs1:0<k.sz:=Nat.le_of_ble_eq_true hsz.1
 have hb1:0<by_:=Nat.le_of_ble_eq_true hsz.2
 obtain ⟨i,z,hi,hsi,hz,hzc,hbi, -⟩:=hT.info
 obtain ⟨m,rfl⟩:=Int.eq_ofNat_of_zero_le (show 0≤n by omega)
 have hm:0<m:=by omega
 have hmb:m *by_≤140737488355328:=by
  have:((m *by_:Nat):Int)≤140737488355328:=by rw [Int.natCast_mul];exact hlen
  omega
 have hm2:m≤140737488355328:=Nat.le_trans (Nat.le_mul_of_pos_right _ hb1) hmb
 have hw:IntKind.i64.wrap (m:Int)=(m:Int):=qaw (wf64 (by omega) (by omega))
 have hzs:z.cells.size=k.sz:=by
  have:=k.len (k.hz K)
  rw [←hzc] at this
  simpa using this
 have hge:=grownCap_ge w m 0 e
 have hcm:=grownCap_le_maxLen w m 0 e (by simp only [maxLen];omega)
 have hns:Builtin.nextslicecap m 0=m:=by simp [Builtin.nextslicecap,hm]
 have c1: ¬(281474976710656<(m:Int) *(by_:Int)):=by omega
 have c2: ¬(9223372036854775807<(m:Int)):=by omega
 have c3: ¬(281474976710656<m *by_):=by omega
 have c4: ¬((m:Int)<0):=by omega
 have c5: ¬(m=0∨k.sz=0):=by omega
 have c6:m≠0:=by omega
 refine ⟨.slice (some ⟨w.heap.size,0,none⟩) m (grownCap w m 0 e),w.drew.alloc (.cells (Builtin.zeroCells z.cells m++Builtin.zeroCells z.cells (grownCap w m 0 e - m)) e),?_,⟨w.heap.size,m,grownCap w m 0 e,_,rfl,hM.none_of_ge (Nat.le_refl _),qcI w.drew _,?_,hcm⟩,(Ext.drew w K).trans (Ext.alloc w.drew K _),hM.drew.alloc _,?_⟩
 ·unfold execOp
  have key:(Builtin.append_ #[t1,t2] ty #[.slice none 0 0,.int .i64 (m:Int)]).run P w= .ok (.slice (some ⟨w.heap.size,0,none⟩) m (grownCap w m 0 e)) (w.drew.alloc (.cells (Builtin.zeroCells z.cells m++Builtin.zeroCells z.cells (grownCap w m 0 e - m)) e)):=by
   simp [Builtin.append_,run_underlying ht,run_underlying hti,sizeOf,typeInfo,zeroValue,hi,hz,hsi,hbi,asInt,asIntOf,hw,c1,c2,c3,c4,c6,hns,Question.forced,Builtin.firstCells,newRow,grownCap]
   intro h9
   exact absurd h9 (Nat.mul_ne_zero c6 (by omega))
  simp [resolve,invoke,builtin,hx,hy,key]
 ·simp only [Array.size_append,size_zeroCells,hzs,←Nat.add_mul]
  congr 1
  omega
 ·intro g hg
  cases hc:grownCap w m 0 e with
  | zero=>rw [hc] at hg;simp [ob] at hg
  | succ q=>rw [hc] at hg;simp [ob] at hg;omega
theorem qsY {t1:TypeId} {hi:Operand} (hM:Models w K) (hx:ev ρ x=v) (hF:Fr e k.sz w K v) (hh:ev ρ hi= .int ik 0) (hu:P.underlying t1=some (.slice e)) (hT:TyOk P e k by_):
 ∃v' K',(execOp (ev ρ) ⟨dst,.slice t1 x none (some hi) none,ty,pos,af,g⟩).run P w= .ok (.value v') w∧Own k e w K' [] v'∧Ext (fun b=>ob v=some b) w K w K'∧Models w K'∧(∀g,ob v'=some g→ob v=some g):=by
 obtain ⟨bl,m,cap,c,rfl,hK,hh',hc,hcm⟩:=hF
 have hb:(Instr.sliceBounds true m cap none (some (ev ρ hi)) none).run P w= .ok (0,0,cap) w:=by
  have h1: ∀cd:BoundsCode,(Instr.sliceBound (.int ik 0) cap cd).run P w= .ok 0 w:=fun cd=>qb2 (by omega) (by omega)
  simp [Instr.sliceBounds,hh,h1]
 have hle:K.le (K.set bl e []):=Ghost.le_set_new hK _ _
 have hr:(execOp (ev ρ) ⟨dst,.slice t1 x none (some hi) none,ty,pos,af,g⟩).run P w= .ok (.value (.slice (some ⟨bl,0,none⟩) 0 cap)) w:=by
  unfold execOp
  simp only [hx]
  by_cases h0:cap=0
  ·subst h0
   simp [Instr.sliceAt,Instr.slice,run_underlying hu,hb,hT.size]
  ·simp [Instr.sliceAt,Instr.slice,run_underlying hu,hb,hT.size,h0,qbe]
 cases cap with
 | zero=>exact ⟨_,K,hr,⟨by simp,by simp [LM],.inl ⟨_,rfl,rfl⟩⟩,Ext.refl _ _ _,hM,fun g hg=>by simp [ob] at hg⟩
 | succ cap=>
   refine ⟨_,K.set bl e [],hr,⟨by simp,by simp [LM],.inr ⟨bl,cap+1,c,[],[],rfl,hh',by simp,hcm,by simpa using hc,by rw [Ghost.set_same];rfl,List.nil_prefix,rfl⟩⟩,⟨hle,fun _ _ _=>rfl,fun j _ hj=>Ghost.set_other _ _ _ (fun h=>hj (by subst h;rfl)),Nat.le_refl _,rfl,rfl,rfl⟩,?_,fun g hg=>hg⟩
   intro j t' l' hj
   by_cases he:j=bl
   ·subst he
    rw [Ghost.set_same] at hj
    cases hj
    exact ⟨c,_,hh',List.nil_prefix⟩
   ·rw [Ghost.set_other _ _ _ he] at hj
    exact hM j t' l' hj
theorem qsy {A:Option Addr} {n c:Nat} {t1:TypeId} (hx:ev ρ x= .slice A n c) (hu:P.underlying t1=some (.slice e)):
 (execOp (ev ρ) ⟨dst,.call { callee:= .builtin .cap,args:= #[x],argTypes:= #[t1] },ty,pos,af,g⟩).run P w= .ok (.value (.int .i64 (c:Int))) w:=by
 unfold execOp
 simp [resolve,invoke,builtin,hx,Builtin.cap_,run_underlying hu,goInt]
theorem qoH {t1:TypeId} {hi:Operand} (hx:ev ρ x= .slice none 0 0) (hh:ev ρ hi= .int ik 0) (hu:P.underlying t1=some (.slice e)) (hT:TyOk P e k by_):
 (execOp (ev ρ) ⟨dst,.slice t1 x none (some hi) none,ty,pos,af,g⟩).run P w= .ok (.value (.slice none 0 0)) w:=by
 have h1: ∀(c:Nat) (cd:BoundsCode),(Instr.sliceBound (.int ik 0) c cd).run P w= .ok 0 w:=fun c cd=>qb2 (by omega) (by omega)
 unfold execOp
 simp only [hx]
 simp [Instr.sliceAt,Instr.slice,run_underlying hu,Instr.sliceBounds,hh,h1,hT.size]
end
section
variable {P:Program} {n:Nat} {Q:Post} {ops:Array Oper} {rest:List Oper} {o:Oper} {ρ:Env} {w:World} {K:Ghost} {N:Value→World→Prop} {α:Type} {k:Kd α} {e:TypeId} {sz:Nat}
theorem quh (h: ∃v w',(execOp (ev ρ) o).run P w= .ok (.value v) w'∧Fr e sz w' K v∧Ext NX w K w' K∧Models w' K∧(∀g,ob v=some g→w.heap.size≤g))
 (hn: ∀v w',Fr e sz w' K v→Ext NX w K w' K→Models w' K→(∀g,ob v=some g→w.heap.size≤g)→N v w'):Step P o ρ w N:=by
 obtain ⟨v,w',hr,h1,h2,h3,h4⟩:=h
 exact Step.value hr (hn v w' h1 h2 h3 h4)
theorem qug {Y:Nat→Prop} {C:Value→Prop} (h: ∃v K',(execOp (ev ρ) o).run P w= .ok (.value v) w∧Own k e w K' [] v∧Ext Y w K w K'∧Models w K'∧C v)
 (hn: ∀v w' K',Own k e w' K' [] v→Ext Y w K w' K'→Models w' K'→C v→N v w'):Step P o ρ w N:=by
 obtain ⟨v,K',hr,h1,h2,h3,h4⟩:=h
 exact Step.value hr (hn v w K' h1 h2 h3 h4)
end
end Go.Inc

set_option linter.unusedVariables false
namespace Go.Inc
open Go Go.RowKit
theorem nilS {A:Option Addr} {g:Nat} {p:Prop} (h:ob (.slice A 0 0)=some g):p:=by cases A<;>cases h
theorem nilM {g:Nat} {p:Prop} (h:mb (.map none)=some g):p:=by cases h
def SX (X:Nat→Prop) (w:World) (K:Ghost):World→Prop:=fun w'=> ∃K',Ext X w K w' K'∧Models w' K'
theorem SX.self {X:Nat→Prop} {w:World} {K:Ghost} (hM:Models w K):SX X w K w:=⟨K,Ext.refl _ _ _,hM⟩
theorem SX.back {X:Nat→Prop} {w w1:World} {K K1:Ghost} (h:Ext X w K w1 K1) {w':World} (h':SX X w1 K1 w'):SX X w K w':=by
 obtain ⟨K',hE,hM⟩:=h'
 exact ⟨K',h.trans hE,hM⟩
theorem SX.ofN {X:Nat→Prop} {w w':World} {K:Ghost} (h:SX NX w K w'):SX X w K w':=by
 obtain ⟨K',hE,hM⟩:=h
 exact ⟨K',hE.ofN,hM⟩
def qdL (ops:Array Oper) (i:Nat):Option Nat:=(ops[i]?).bind (·.dst)
def lv (f:Nat):Bool:=Nat.beq f 1 || Nat.beq f 3
def tk (f:Nat):Bool:=Nat.ble 2 f
theorem l3 {al:Bool}:lv 3=false→al=true:=fun h=>by cases h
theorem l1 {al:Bool}:lv 1=false→al=true:=fun h=>by cases h
theorem l0 {f:Nat}:lv f=false→true=true:=fun _=>rfl
def qcu (ops:Array Oper) (i:Nat):Nat→Nat→Bool
 | 0,_=>false
 | fuel+1,j=>match ops[j]? with
   | some o=>o.after.any fun e=>Region.binds .any e && (Nat.beq e.on i || qcu ops i fuel e.on)
   | none=>false
inductive Tr where
 | fin | one (i f:Nat) (r:Tr) | alt (i f:Nat) (s m:Tr)
inductive It where
 | o (i f:Nat) | par (js:List Nat) (t:Tr) | z (i:Nat)
def lvT:Tr→Nat→Option Bool
 | .fin,_=>none
 | .one i f r,j=>if Nat.beq i j then some (lv f) else lvT r j
 | .alt i f s m,j=>if Nat.beq i j then some (lv f) else (lvT s j).orElse fun _=>lvT m j
def lvOf:List It→Nat→Bool
 | [],_=>true
 | .o i f::r,j=>bif Nat.beq i j then lv f else lvOf r j
 | .z i::r,j=>bif Nat.beq i j then true else lvOf r j
 | .par _ t::r,j=>match lvT t j with
   | some b=>b
   | none=>lvOf r j
def zOf:List It→Option Nat
 | []=>none
 | .z i::_=>some i
 | .o _ _::r=>zOf r
 | .par _ _::r=>zOf r
def zAt (all:List It) (j:Nat):Bool:=match zOf all with
 | some i=>Nat.beq i j
 | none=>false
def zOkB (ops:Array Oper) (all:List It) (i:Nat):Bool:=match zOf all with
 | some z=>Nat.beq z i || qcu ops i ops.size z
 | none=>true
def tkT:Tr→Nat→Option Bool
 | .fin,_=>none
 | .one i f r,j=>if Nat.beq i j then some (tk f) else tkT r j
 | .alt i f s m,j=>if Nat.beq i j then some (tk f) else (tkT s j).orElse fun _=>tkT m j
def tkOf:List It→Nat→Bool
 | [],_=>false
 | .o i f::r,j=>bif Nat.beq i j then tk f else tkOf r j
 | .z i::r,j=>bif Nat.beq i j then false else tkOf r j
 | .par _ t::r,j=>match tkT t j with
   | some b=>b
   | none=>tkOf r j
def qld (ops:Array Oper) (all:List It) (i f:Nat) (listed:Array Bool):Bool:=
 (bif tk f then (Region.ready .any ops listed).contains i && Region.free .any ops listed i && (lv f || (List.range ops.size).all fun j=>listed.getD j true || Nat.beq j i || !lvOf all j || tkOf all j || qcu ops i ops.size j) else (Region.ready .any ops listed)==[i]) && (lvOf all i==lv f) && (bif tk f then zOkB ops all i else true) && (tkOf all i==tk f)
def Tr.sz:Tr→Nat
 | .fin=>0
 | .one _ _ r=>r.sz+1
 | .alt _ _ s m=>s.sz+m.sz+1
def Tr.heads:Tr→List Nat
 | .alt i _ _ m=>i::m.heads
 | _=> []
def ordT (ops:Array Oper) (all:List It) (L:Array Bool):Bool→Tr→Array Bool→Nat→Bool
 | _,.fin,listed,d=>Nat.beq d 0 && listed==L
 | _,.one i f r,listed,d+1=>qld ops all i f listed && ordT ops all L true r (listed.setIfInBounds i true) d
 | b,.alt i f s m,listed,d+1=>(!b || (i::m.heads)==Region.ready .any ops listed) && !tk f && (lvOf all i==lv f) && !tkOf all i && ordT ops all L true s (listed.setIfInBounds i true) d &&
    (match m with | .alt .. =>ordT ops all L false m listed (d+1) | _=>true)
 | _,_,_,0=>false
def qqn (listed:Array Bool) (js:List Nat):Array Bool:=js.foldl (fun l j=>l.setIfInBounds j true) listed
def ordB (ops:Array Oper) (all:List It):List It→Array Bool→Bool
 | [],listed=>(Region.ready .any ops listed).isEmpty
 | .z i::r,listed=>(Region.ready .any ops listed==[i]) && r.isEmpty && (Region.ready .any ops (listed.setIfInBounds i true)).isEmpty && zAt all i && !tkOf all i
 | .o i f::r,listed=>qld ops all i f listed && ordB ops all r (listed.setIfInBounds i true)
 | .par js t::r,listed=>ordT ops all (qqn listed js) true t listed js.length && ordB ops all r (qqn listed js)
def cnt:List It→Nat
 | []=>0
 | .o _ _::r=>cnt r+1
 | .z _::r=>cnt r+1
 | .par js _::r=>js.length+cnt r
def qjr (ops:Array Oper) (ord:List It):Bool:=(Region.noSelect ops && qgd ops) && Nat.beq (cnt ord) ops.size && ordB ops ord ord (Array.replicate ops.size false)
abbrev SF:=Bool→World→Prop
abbrev Fin':=SF→Env→World→Prop
def qbR (P:Program) (n:Nat) (ops:Array Oper) (i f:Nat) (C:Fin'):Fin':=fun S ρ w=> ∃o,ops[i]?=some o∧qbD n o.dst=true∧
     ((Region.wanted o (qa5 ops ρ)=true∧
       ((tk f=true∧S (lv f) w∧∃v,(∀w',S (lv f) w'→(execOp (ev ρ) o).run P w'= .ok (.value v) w')∧C S (updO ρ o.dst v) w)∨
        (tk f=false∧Step P o ρ w fun v w'=> ∃S':SF,(∀b w,S' b w→S b w)∧(∀w,S' false w→S' true w)∧S' (lv f) w'∧C S' (updO ρ o.dst v) w')))∨
      (Region.wanted o (qa5 ops ρ)=false∧S (lv f) w∧C S (updO ρ o.dst undef) w))
def WT (P:Program) (n:Nat) (ops:Array Oper) (F:Fin'):Tr→Fin'
 | .fin=>F
 | .one i f r=>qbR P n ops i f (WT P n ops F r)
 | .alt i f s m=>fun S ρ w=>qbR P n ops i f (WT P n ops F s) S ρ w∧(match m with | .alt .. =>WT P n ops F m S ρ w | _=>True)
def WO (P:Program) (n:Nat) (ops:Array Oper) (F:Fin'):List It→Fin'
 | []=>F
 | .o i f::r=>qbR P n ops i f (WO P n ops F r)
 | .z i::r=>fun S ρ w=> ∃o,ops[i]?=some o∧o.guard=none∧qbD n o.dst=true∧Step P o ρ w fun v w'=> ∃S':SF,WO P n ops F r S' (updO ρ o.dst v) w'
 | .par _ t::r=>WT P n ops (WO P n ops F r) t
def qdc (P:Program) (ops:Array Oper) (Q:Exit→Act→World→Prop) (S:Nat→World→World→Prop):Nat→Array Bool→Act→World→Prop
 | 0,listed,a,w=>Region.ready .any ops listed=[]∧Q .normal a w
 | fuel+1,listed,a,w=>
   (Region.ready .any ops listed=[]→Q .normal a w)∧
   ∀i∈Region.ready .any ops listed,wpOp P ops Q i (fun a' w'=>S i w w'∧qdc P ops Q S fuel (listed.setIfInBounds i true) a' w') a w
def qch (ops:Array Oper) (listed:Array Bool):Prop:=∀j o,ops[j]?=some o→listed.getD j true=true→∀e∈o.after,Region.binds .any e=true→listed.getD e.on false=true
section
variable {P:Program} {n:Nat} {ops:Array Oper} {ds:List Deferred}
theorem qbR.mono {i f:Nat} {C C':Fin'} (hC: ∀S ρ w,C S ρ w→C' S ρ w) {S:SF} {ρ:Env} {w:World} (h:qbR P n ops i f C S ρ w):qbR P n ops i f C' S ρ w:=by
 obtain ⟨o,hi,hd,h⟩:=h
 refine ⟨o,hi,hd,?_⟩
 rcases h with ⟨hw,⟨ht,hS,v,hv,hr⟩ | ⟨ht,hs⟩⟩ | ⟨hw,hS,hr⟩
 ·exact .inl ⟨hw,.inl ⟨ht,hS,v,hv,hC _ _ _ hr⟩⟩
 ·exact .inl ⟨hw,.inr ⟨ht,hs.mono fun v w' ⟨S',h1,h3,h4,h5⟩=>⟨S',h1,h3,h4,hC _ _ _ h5⟩⟩⟩
 ·exact .inr ⟨hw,hS,hC _ _ _ hr⟩
theorem WT.mono {F F':Fin'} (hF: ∀S ρ w,F S ρ w→F' S ρ w): ∀ {t:Tr} {S:SF} {ρ:Env} {w:World},WT P n ops F t S ρ w→WT P n ops F' t S ρ w
 | .fin,S,ρ,w,h=>hF S ρ w h
 | .one i f r,S,ρ,w,h=>qbR.mono (fun _ _ _=>WT.mono hF) h
 | .alt i f s m,S,ρ,w,h=>by
   refine ⟨qbR.mono (fun _ _ _=>WT.mono hF) h.1,?_⟩
   have h2:=h.2
   cases m with
   | fin=>trivial
   | one=>trivial
   | alt a b c d=>exact WT.mono hF h2
theorem qj1 {F F1:Fin'} {l2:List It}: ∀ {l1:List It} {S:SF} {ρ:Env} {w:World},WO P n ops F1 l1 S ρ w→(∀S' ρ' w',F1 S' ρ' w'→WO P n ops F l2 S' ρ' w')→WO P n ops F (l1++l2) S ρ w
 | [],S,ρ,w,h,h2=>h2 S ρ w h
 | .o i f::r,S,ρ,w,h,h2=>qbR.mono (fun _ _ _ h=>qj1 h h2) h
 | .z i::r,S,ρ,w,⟨o,h0,hg,hd,h⟩,h2=>⟨o,h0,hg,hd,h.mono fun v w' ⟨S',h⟩=>⟨S',qj1 h h2⟩⟩
 | .par js t::r,S,ρ,w,h,h2=>WT.mono (fun _ _ _ h=>qj1 h h2) h
theorem qgP {Q:Exit→Act→World→Prop} {S:Nat→World→World→Prop}: ∀(fuel:Nat) (listed:Array Bool) (a:Act) (w:World),qdc P ops Q S fuel listed a w→wpAny P .any ops Q fuel listed a w
 | 0,_,_,_,h=>h
 | fuel+1,_,_,_,h=>⟨h.1,fun i hi=>wpOp_mono (fun a' w' h'=>qgP fuel _ a' w' h'.2) (h.2 i hi)⟩
theorem qcP {Q:Exit→Act→World→Prop} {S S':Nat→World→World→Prop} (h: ∀j w w',S' j w w'→S j w w'): ∀(fuel:Nat) (listed:Array Bool) (a:Act) (w:World),qdc P ops Q S' fuel listed a w→qdc P ops Q S fuel listed a w
 | 0,_,_,_,hh=>hh
 | fuel+1,_,_,_,hh=>⟨hh.1,fun i hi=>wpOp_mono (fun a' w' h'=>⟨h _ _ _ h'.1,qcP h fuel _ a' w' h'.2⟩) (hh.2 i hi)⟩
theorem qgG {listed:Array Bool} (hc:qch ops listed) {i:Nat}: ∀(fuel j:Nat) (o:Oper),ops[j]?=some o→(∀e∈o.after,Region.binds .any e=true→listed.getD e.on false=true)→qcu ops i fuel j=true→listed.getD i false=true
 | 0,j,o,_,_,h=>by simp [qcu] at h
 | fuel+1,j,o,ho,hall,h=>by
   simp only [qcu,ho] at h
   obtain ⟨e,he,hb⟩:=Array.any_eq_true'.1 h
   simp only [Bool.and_eq_true,Bool.or_eq_true] at hb
   have hl:=hall e he hb.1
   rcases hb.2 with h1 | h1
   ·have:=Nat.eq_of_beq_eq_true h1
    rw [←this]
    exact hl
   ·cases hm:ops[e.on]? with
    | none=>
      cases fuel with
      | zero=>simp [qcu] at h1
      | succ fuel=>simp [qcu,hm] at h1
    | some o'=>
      refine qgG hc fuel e.on o' hm (hc e.on o' hm ?_) h1
      rcases Nat.lt_or_ge e.on listed.size with h' | h'
      ·simp [h'] at hl⊢;exact hl
      ·simp [Array.getElem?_eq_none h']
theorem qch.set {listed:Array Bool} (hc:qch ops listed) {i:Nat} (hi:i∈Region.ready .any ops listed):qch ops (listed.setIfInBounds i true):=by
 intro j o ho hj e he hb
 obtain ⟨_,o',ho',hall⟩:=mem_ready.1 hi
 by_cases e0:j=i
 ·subst e0
  rw [ho] at ho'
  cases ho'
  exact getD_set_true (hall e he hb)
 ·rw [getD_set_ne true (Ne.symm e0)] at hj
  exact getD_set_true (hc j o ho hj e he hb)
theorem qeT {Q:Exit→Act→World→Prop} {S:Nat→World→World→Prop} {N:World→Prop} {i:Nat} {oi:Oper} {v:Value} (hi:ops[i]?=some oi) (hsel: ∀(j:Nat) (o:Oper) cs b,ops[j]?=some o→o.op≠ .select cs b)
 (hQ: ∀c a w,Q (.panic c) (a.put oi.dst v) w→Q (.panic c) a w) (hSi: ∀w,N w→S i w w):
 ∀(fuel:Nat) (listed:Array Bool) (a:Act) (w:World),
  (∀j oj,ops[j]?=some oj→j≠i→listed.getD j true=false→(∀e∈oj.after,Region.binds .any e=true→e.on≠i)→oi.apart ops oj=true)→
  (∀j,j<ops.size→j≠i→listed.getD j true=false→qcu ops i ops.size j=false→∀w w',N w→S j w w'→N w')→qch ops listed→
  i∈Region.ready .any ops listed→YieldsIf P ops N oi v a→N w→
  qdc P ops Q S fuel (listed.setIfInBounds i true) (a.put oi.dst v) w→qdc P ops Q S (fuel+1) listed a w:=by
 intro fuel
 induction fuel with
 | zero=>
   intro listed a w _ _ _ hr hy hN H
   refine ⟨fun h=>(by rw [h] at hr;cases hr),fun j hj=>?_⟩
   by_cases hji:j=i
   ·subst hji;exact hy.wpOp hi hN ⟨hSi w hN,H⟩
   ·have:=ready_mono hj hji
    rw [H.1] at this
    cases this
 | succ fuel ih=>
   intro listed a w hfree hind hcl hr hy hN H
   refine ⟨fun h=>(by rw [h] at hr;cases hr),fun j hj=>?_⟩
   by_cases hji:j=i
   ·subst hji;exact hy.wpOp hi hN ⟨hSi w hN,H⟩
   ·have h1:=H.2 j (ready_mono hj hji)
    obtain ⟨hjun,oj,hoj,hall⟩:=mem_ready.1 hj
    have hiun:listed.getD i false≠true:=by
     have h0:=(mem_ready.1 hr).1
     intro h1
     rcases Nat.lt_or_ge i listed.size with h' | h'
     ·simp [h'] at h0 h1;rw [h0] at h1;cases h1
     ·simp [Array.getElem?_eq_none h'] at h1
    have hnot: ∀e∈oj.after,Region.binds .any e=true→e.on≠i:=fun e he hb heq=>hiun (heq▸hall e he hb)
    have hre:qcu ops i ops.size j=false:=by
     cases h0:qcu ops i ops.size j with
     | false=>rfl
     | true=>exact absurd (qgG hcl _ j oj hoj hall h0) hiun
    have hjN:=hind j (Array.getElem?_eq_some_iff.1 hoj).1 hji hjun hre
    have h2:=wpOp_putIf hoj (hfree j oj hoj hji hjun hnot) (fun cs b=>hsel i oi cs b hi) (fun cs b=>hsel j oj cs b hoj) hQ hy h1
    have hun': ∀k,(listed.setIfInBounds j true).getD k true=false→listed.getD k true=false:=fun k hun=>by
     by_cases hjk:j=k
     ·subst hjk;exact hjun
     ·rw [getD_set_ne true hjk] at hun;exact hun
    refine wpOp_mono (fun a' w' h3=>⟨h3.2.1,ih (listed.setIfInBounds j true) a' w' (fun k ok hk hki hun hno=>hfree k ok hk hki (hun' k hun) hno) (fun k hk hki hun hrk=>hind k hk hki (hun' k hun) hrk) (hcl.set hj) (ready_mono hr (Ne.symm hji)) h3.1 (hjN _ _ hN h3.2.1) ?_⟩) h2
    rw [Array.setIfInBounds_comm _ _ hji]
    exact h3.2.2
theorem qke {Q:Post} {i f:Nat} {C:Fin'} {S:SF} {ρ:Env} {w:World} (ht:tk f=false) (hS: ∀w,S false w→S true w) (h:qbR P n ops i f C S ρ w) {a:Act} (ha:Fits n ds ρ a) {K:Act→World→Prop}
 (hK: ∀S' ρ' a' w',(∀b w,S' b w→S b w)→(∀w,S' false w→S' true w)→S' (lv f) w'→Fits n ds ρ' a'→C S' ρ' w'→K a' w'):wpOp P ops (lift n ds (nrmQ Q)) i K a w:=by
 obtain ⟨o,hi,hd,h⟩:=h
 unfold wpOp
 simp only [hi]
 rcases h with ⟨hw,⟨ht',_⟩ | ⟨-,hst⟩⟩ | ⟨hw,hSw,hr⟩
 ·rw [ht] at ht';cases ht'
 ·rw [if_pos (by rw [ha.yielded];exact hw)]
  exact .inl (hst.wp ha fun v w' ⟨S',h1,h2,h3,h4⟩=>hK S' _ _ w' h1 h2 h3 (ha.updO hd v) h4)
 ·rw [if_neg (by rw [ha.yielded];simp [hw])]
  exact hK S _ _ w (fun _ _ h=>h) hS hSw (ha.updO hd undef) hr
def SZ (all:List It) (S:SF):Nat→World→World→Prop:=fun j w w'=>(tkOf all j=true∧w'=w)∨(tkOf all j=false∧(zAt all j=true∨S (lvOf all j) w'))
theorem qgy {Q:Post} (all:List It) (hs:Region.noSelect ops=true) {i f:Nat} {listed:Array Bool} {fuel:Nat} {C:Fin'} {S:SF} {ρ:Env} {w:World} (hck:qld ops all i f listed=true) (hcl:qch ops listed) (hS: ∀w,S false w→S true w) (h:qbR P n ops i f C S ρ w)
 (hC: ∀S' ρ' w',qch ops (listed.setIfInBounds i true)→(∀w,S' false w→S' true w)→C S' ρ' w'→∀a,Fits n ds ρ' a→qdc P ops (lift n ds (nrmQ Q)) (SZ all S') fuel (listed.setIfInBounds i true) a w'):
 ∀a,Fits n ds ρ a→qdc P ops (lift n ds (nrmQ Q)) (SZ all S) (fuel+1) listed a w:=fun a ha=>by
 simp only [qld,Bool.and_eq_true] at hck
 obtain ⟨⟨⟨hck1,hlv⟩,hzk⟩,htk⟩:=hck
 have hlv:lvOf all i=lv f:=by simpa using hlv
 have htk:tkOf all i=tk f:=by simpa using htk
 cases ht:tk f with
 | true=>
   obtain ⟨o,hi,hd,h⟩:=h
   have hQ': ∀v c (a:Act) w,lift n ds (nrmQ Q) (.panic c) (a.put o.dst v) w→lift n ds (nrmQ Q) (.panic c) a w:=fun v c a w ⟨_,_,h,_⟩=>by cases h
   rw [ht] at hck1 hzk
   simp only [cond_true] at hzk
   simp only [cond_true,Bool.and_eq_true] at hck1
   obtain ⟨⟨hrd,hfr⟩,hind⟩:=hck1
   have hrd':i∈Region.ready .any ops listed:=by simpa using hrd
   have hN: ∀j,j<ops.size→j≠i→listed.getD j true=false→qcu ops i ops.size j=false→∀w w',S (lv f) w→SZ all S j w w'→S (lv f) w':=fun j hj hji hun hre w w' hNw hw'=>by
    rcases hw' with ⟨_,rfl⟩ | ⟨htj,hw'⟩
    ·exact hNw
    have hw':S (lvOf all j) w':=by
     rcases hw' with hz | hw'
     ·exfalso
      unfold zAt at hz
      unfold zOkB at hzk
      cases hzo:zOf all with
      | none=>rw [hzo] at hz;cases hz
      | some z=>
        rw [hzo] at hz hzk
        have:=Nat.eq_of_beq_eq_true hz
        subst this
        simp only [hre,Bool.or_false] at hzk
        exact hji (Nat.eq_of_beq_eq_true hzk)
     ·exact hw'
    cases hf:lv f with
    | true=>cases hl:lvOf all j with
      | true=>rw [hl] at hw';exact hw'
      | false=>rw [hl] at hw';exact hS _ hw'
    | false=>
      rw [hf,Bool.false_or] at hind
      have:=List.all_eq_true.1 hind j (List.mem_range.2 hj)
      simp only [hun,hre,htj,Bool.or_false,Bool.false_or,Bool.or_eq_true,Bool.not_eq_true'] at this
      rcases this with h1 | h1
      ·exact absurd (Nat.eq_of_beq_eq_true h1) hji
      ·rw [h1] at hw';exact hw'
   rcases h with ⟨hw,⟨-,hSw,v,hv,hr⟩ | ⟨ht',_⟩⟩ | ⟨hw,hSw,hr⟩
   ·refine qeT hi (Region.noSelect_spec hs) (hQ' v) (N:=S (lv f)) (fun w hw=> .inl ⟨htk.trans ht,rfl⟩) fuel listed a w (Region.free_spec hi hfr) hN hcl hrd' (.inl ⟨by rw [ha.yielded];exact hw,fun w' hw'=>by rw [ha.eval];exact hv w' hw'⟩) hSw ?_
    exact hC S _ w (hcl.set hrd') hS hr _ (ha.updO hd v)
   ·rw [ht] at ht';cases ht'
   ·refine qeT hi (Region.noSelect_spec hs) (hQ' undef) (N:=S (lv f)) (fun w hw=> .inl ⟨htk.trans ht,rfl⟩) fuel listed a w (Region.free_spec hi hfr) hN hcl hrd' (.inr ⟨by rw [ha.yielded];exact hw,rfl⟩) hSw ?_
    exact hC S _ w (hcl.set hrd') hS hr _ (ha.updO hd undef)
 | false=>
   rw [ht] at hck1
   simp only [cond_false,beq_iff_eq] at hck1
   have hrd':i∈Region.ready .any ops listed:=by rw [hck1];simp
   refine ⟨fun h0=>(by rw [hck1] at h0;cases h0),fun j hj=>?_⟩
   rw [hck1,List.mem_singleton] at hj
   subst hj
   refine qke ht hS h ha fun S' ρ' a' w' h1 h2 h3 hf' hc=>⟨.inr ⟨htk.trans ht,.inr (by rw [hlv];exact h1 _ _ h3)⟩,?_⟩
   exact qcP (fun j w w'=>Or.imp_right (And.imp_right (Or.imp_right (h1 _ w')))) _ _ _ _ (hC S' ρ' w' (hcl.set hrd') h2 hc a' hf')
theorem qms {all:List It} {F:Fin'} {L:Array Bool} {S:SF} {ρ:Env} {w:World} {listed:Array Bool} {d:Nat} {b:Bool}: ∀ {t:Tr},ordT ops all L b t listed (d+1)=true→WT P n ops F t S ρ w→∀j∈t.heads,∃f s,tk f=false∧(lvOf all j=lv f∧tkOf all j=false)∧ordT ops all L true s (listed.setIfInBounds j true) d=true∧qbR P n ops j f (WT P n ops F s) S ρ w∧s.sz<t.sz
 | .fin,_,_,j,hj=>by cases hj
 | .one i f r,_,_,j,hj=>by cases hj
 | .alt i f s m,hck,h,j,hj=>by
   simp only [ordT,Bool.and_eq_true] at hck
   obtain ⟨⟨⟨⟨⟨_,h1⟩,h2⟩,h5⟩,h3⟩,h4⟩:=hck
   rcases List.mem_cons.1 hj with rfl | hj
   ·exact ⟨f,s,by simpa using h1,⟨by simpa using h2,by simpa using h5⟩,h3,h.1,by simp only [Tr.sz];omega⟩
   ·cases m with
    | fin=>cases hj
    | one=>cases hj
    | alt a b c e=>
      obtain ⟨f',s',q1,q2,q3,q4,q5⟩:=qms (t:= .alt a b c e) h4 h.2 j hj
      exact ⟨f',s',q1,q2,q3,q4,by simp only [Tr.sz] at q5⊢;omega⟩
theorem qg8 {Q:Post} (all:List It) (hs:Region.noSelect ops=true) {F:Fin'} {L:Array Bool} {fuel:Nat}
 (hF: ∀S ρ w,qch ops L→(∀w,S false w→S true w)→F S ρ w→∀a,Fits n ds ρ a→qdc P ops (lift n ds (nrmQ Q)) (SZ all S) fuel L a w):
 ∀(t:Tr) {d:Nat} {listed:Array Bool} {S:SF} {ρ:Env} {w:World},ordT ops all L true t listed d=true→qch ops listed→(∀w,S false w→S true w)→WT P n ops F t S ρ w→∀a,Fits n ds ρ a→qdc P ops (lift n ds (nrmQ Q)) (SZ all S) (d+fuel) listed a w
 | .fin,d,listed,S,ρ,w,hck,hcl,hS,h,a,ha=>by
   simp only [ordT,Bool.and_eq_true,beq_iff_eq] at hck
   obtain ⟨h0,rfl⟩:=hck
   have:=Nat.eq_of_beq_eq_true h0
   subst this
   rw [Nat.zero_add]
   exact hF S ρ w hcl hS h a ha
 | .one i f r,0,listed,S,ρ,w,hck,hcl,hS,h,a,ha=>by simp [ordT] at hck
 | .one i f r,d+1,listed,S,ρ,w,hck,hcl,hS,h,a,ha=>by
   simp only [ordT,Bool.and_eq_true] at hck
   rw [show d+1+fuel=d+fuel+1 from by omega]
   exact qgy all hs hck.1 hcl hS h (fun S' ρ' w' hcl' hS' h'=>qg8 all hs hF r hck.2 hcl' hS' h') a ha
 | .alt i f s m,0,listed,S,ρ,w,hck,hcl,hS,h,a,ha=>by simp [ordT] at hck
 | .alt i f s m,d+1,listed,S,ρ,w,hck,hcl,hS,h,a,ha=>by
   have hrd:(i::m.heads)=Region.ready .any ops listed:=by
    simp only [ordT,Bool.and_eq_true,Bool.not_true,Bool.false_or,beq_iff_eq] at hck
    exact hck.1.1.1.1.1
   rw [show d+1+fuel=d+fuel+1 from by omega]
   refine ⟨fun h0=>(by rw [←hrd] at h0;cases h0),fun j hj=>?_⟩
   obtain ⟨f',s',q1,q2,q3,q4,q5⟩:=qms hck h j (by show j∈i::m.heads;rw [hrd];exact hj)
   refine qke q1 hS q4 ha fun S' ρ' a' w' h1 h2 h3 hf' hc=>⟨.inr ⟨q2.2,.inr (by rw [q2.1];exact h1 _ _ h3)⟩,?_⟩
   exact qcP (fun j w w'=>Or.imp_right (And.imp_right (Or.imp_right (h1 _ w')))) _ _ _ _ (qg8 all hs hF s' q3 (hcl.set hj) h2 hc a' hf')
termination_by t=>t.sz
decreasing_by
 all_goals first
  | assumption
  | (simp only [Tr.sz];omega)
theorem qg7 {Q:Post} (all:List It) (hs:Region.noSelect ops=true): ∀ {ord:List It} {listed:Array Bool} {S:SF} {ρ:Env} {w:World},ordB ops all ord listed=true→qch ops listed→(∀w,S false w→S true w)→WO P n ops (fun _ ρ w=>Q .normal ρ w) ord S ρ w→
 ∀a,Fits n ds ρ a→qdc P ops (lift n ds (nrmQ Q)) (SZ all S) (cnt ord) listed a w
 | [],listed,S,ρ,w,hck,hcl,hS,h,a,ha=>⟨by simpa [ordB] using hck,ρ,ha,rfl,h⟩
 | .o i f::r,listed,S,ρ,w,hck,hcl,hS,h,a,ha=>by
   simp only [ordB,Bool.and_eq_true] at hck
   exact qgy all hs hck.1 hcl hS h (fun S' ρ' w' hcl' hS' h'=>qg7 all hs hck.2 hcl' hS' h') a ha
 | .z i::r,listed,S,ρ,w,hck,hcl,hS,⟨o,hi,hg,hd,h⟩,a,ha=>by
   simp only [ordB,Bool.and_eq_true,beq_iff_eq,List.isEmpty_iff,Bool.not_eq_true'] at hck
   obtain ⟨⟨⟨⟨h1,h2⟩,h3⟩,h4⟩,h5⟩:=hck
   subst h2
   refine ⟨fun h0=>(by rw [h1] at h0;cases h0),fun j hj=>?_⟩
   rw [h1,List.mem_singleton] at hj
   subst hj
   unfold wpOp
   simp only [hi]
   rw [if_pos (by simp [Region.wanted,hg])]
   exact .inl (h.wp ha fun v w' ⟨S',hq⟩=>⟨.inr ⟨h5,.inl h4⟩,h3,_,ha.updO hd v,rfl,hq⟩)
 | .par js t::r,listed,S,ρ,w,hck,hcl,hS,h,a,ha=>by
   simp only [ordB,Bool.and_eq_true] at hck
   exact qg8 all hs (fun S' ρ' w' hcl' hS' h'=>qg7 all hs hck.2 hcl' hS' h') t hck.1 hcl hS h a ha
def SL (X:Nat→Prop) (w:World) (K:Ghost) (al:Bool):SF:=fun b=>bif b then SX X w K else bif al then SX NX w K else fun _=>False
theorem SL.up {X:Nat→Prop} {w:World} {K:Ghost} {al:Bool} (w':World) (h:SL X w K al false w'):SL X w K al true w':=by
 cases al with
 | true=>exact SX.ofN h
 | false=>exact h.elim
theorem qbS {Q:Post} {id:Nat} {ρ:Env} {w:World} {K:Ghost} (X:Nat→Prop) (ord:List It) (hm:P.follows .mixedOrders=true) (hck:qjr ops ord=true) (hM:Models w K)
 (h: ∀w',Ext NX w K w' K→Models w' K→WO P n ops (fun _ ρ w=>Q .normal ρ w) ord (SL X w' K true) ρ w'):WP P n (.region id ops true) Q ρ w:=fun r ds a ha=>by
 simp only [qjr,Bool.and_eq_true] at hck
 have hlen:=Nat.eq_of_beq_eq_true hck.1.2
 have h1:=qg7 ord hck.1.1.1 hck.2 (fun j o ho hj=>by
  have hlt:=(Array.getElem?_eq_some_iff.1 ho).1
  simp [hlt] at hj) SL.up (h _ (Ext.drew _ _) hM.drew) a ha
 rw [hlen] at h1
 refine wpIn_mono (wpIn_region_draw fun t=>qgE qfV hck.1.1.2 _ _ _ ?_) fun e a w h=>qhy h
 simp only [Region.schedule,hm,Bool.true_or,if_true]
 exact wpAny_sound ops.size t _ a _ (qgP _ _ _ _ h1)
theorem qcQ {F:Fin'} {S:SF} {ρ:Env} {w:World} (h:F S ρ w):WO P n ops F [] S ρ w:=h
def ordL (ord:List It):Nat→Bool
 | n=>match ord with | []=>true | .o i _::r=>Nat.beq i n && ordL r (n+1) | .par _ _::_=>false | .z _::_=>false
theorem qg6 {Q:Post}: ∀ {ord:List It} {k:Nat} {S:SF} {ρ:Env} {w:World},ordL ord k=true→WO P n ops (fun _ ρ w=>Q .normal ρ w) ord S ρ w→∀a,Fits n ds ρ a→wpOps P ops (lift n ds (nrmQ Q)) (List.range' k (cnt ord)) a w
 | [],k,S,ρ,w,hck,h,a,ha=>by
   simp only [cnt,List.range'_zero,wpOps]
   exact ⟨ρ,ha,rfl,h⟩
 | .par _ _::_,k,S,ρ,w,hck,h,a,ha=>by simp [ordL] at hck
 | .z _::_,k,S,ρ,w,hck,h,a,ha=>by simp [ordL] at hck
 | .o i t::r,k,S,ρ,w,hck,⟨o,hi,hd,h⟩,a,ha=>by
   simp only [ordL,Bool.and_eq_true] at hck
   have he:=Nat.eq_of_beq_eq_true hck.1
   subst he
   rw [cnt,List.range'_succ]
   simp only [wpOps,hi]
   rw [ha.yielded]
   rcases h with ⟨hw,h⟩ | ⟨hw, -,hr⟩
   ·rw [if_pos hw]
    refine .inl ?_
    rcases h with ⟨-,hS,v,hv,hr⟩ | ⟨-,hst⟩
    ·exact (Step.value (N:=fun v' w'=>v'=v∧w'=w) (hv w hS) ⟨rfl,rfl⟩).wp ha fun v' w' ⟨e1,e2⟩=>by
      subst e1;subst e2
      exact qg6 hck.2 hr _ (ha.updO hd v')
    ·exact hst.wp ha fun v w' ⟨S',h1,h2,h3,h4⟩=>qg6 hck.2 h4 _ (ha.updO hd v)
   ·rw [if_neg (by simp [hw])]
    exact qg6 hck.2 hr _ (ha.updO hd undef)
theorem qqa {Q:Post} {id:Nat} {ρ:Env} {w:World} {K:Ghost} (X:Nat→Prop) (ord:List It) (hck:(ordL ord 0 && Nat.beq (cnt ord) ops.size && qgd ops)=true) (hM:Models w K)
 (h:WO P n ops (fun _ ρ w=>Q .normal ρ w) ord (SL X w K true) ρ w):WP P n (.region id ops false) Q ρ w:=fun r ds a ha=>by
 simp only [Bool.and_eq_true] at hck
 have hlen:=Nat.eq_of_beq_eq_true hck.1.2
 refine wpIn_mono (wpIn_region (qgE qfV hck.2 _ _ _ ?_)) fun e a w h=>qhy h
 rw [List.range_eq_range',←hlen]
 exact qg6 hck.1.1 h a ha
end
section
variable {P:Program} {n:Nat} {C':Fin'} {ops:Array Oper} {o:Oper} {ρ:Env} {w:World} {K:Ghost} {X:Nat→Prop} {i:Nat}
variable {α β:Type} {k:Kd α}
theorem gN (h:o.guard=none):Region.wanted o (qa5 ops ρ)=true:=by simp [Region.wanted,h]
theorem gY {j:Nat} {want b:Bool} {d:Nat} (hg:o.guard=some (j,want)) (hd:qdL ops j=some d) (hv:ρ d= .bool b) (hb:b=want):Region.wanted o (qa5 ops ρ)=true:=by
 have hy:qa5 ops ρ j=some b:=by
  unfold qdL at hd
  unfold qa5
  rw [hd]
  simp only [hv]
 simp [Region.wanted,hg,hy,hb]
theorem gF {j:Nat} {want b:Bool} {d:Nat} (hg:o.guard=some (j,want)) (hd:qdL ops j=some d) (hv:ρ d= .bool b) (hb:b= !want):Region.wanted o (qa5 ops ρ)=false:=by
 have hy:qa5 ops ρ j=some b:=by
  unfold qdL at hd
  unfold qa5
  rw [hd]
  simp only [hv]
 cases want<;>simp [Region.wanted,hg,hy,hb]
theorem gU {j:Nat} {want:Bool} {d:Nat} (hg:o.guard=some (j,want)) (hd:qdL ops j=some d) (hv:ρ d=undef):Region.wanted o (qa5 ops ρ)=false:=by
 have hy:qa5 ops ρ j=none:=by
  unfold qdL at hd
  unfold qa5
  rw [hd]
  simp only [hv]
  rfl
 simp [Region.wanted,hg,hy]
theorem SL.at {al:Bool} (hM:Models w K) {f:Nat} (h:lv f=false→al=true):SL X w K al (lv f) w:=by
 unfold SL
 cases hf:lv f with
 | true=>exact SX.self hM
 | false=>rw [h hf];exact SX.self hM
theorem SL.down {X:Nat→Prop} {w w1:World} {K K1:Ghost} (h:Ext NX w K w1 K1) {al:Bool} (b:Bool) (w':World) (h':SL X w1 K1 al b w'):SL X w K al b w':=by
 cases b with
 | true=>exact SX.back h.ofN h'
 | false=>cases al with
   | true=>exact SX.back h h'
   | false=>exact h'
theorem SL.down1 {X:Nat→Prop} {w w1:World} {K K1:Ghost} (h:Ext X w K w1 K1) {al:Bool} (b:Bool) (w':World) (h':SL X w1 K1 false b w'):SL X w K al b w':=by
 cases b with
 | true=>exact SX.back h h'
 | false=>exact h'.elim
theorem qba (f:Nat) {al:Bool} (hM:Models w K) (hl:lv f=false→al=true) (hi:ops[i]?=some o) (hg:Region.wanted o (qa5 ops ρ)=false) (hd:qbD n o.dst=true) (h:C' (SL X w K al) (updO ρ o.dst undef) w):qbR P n ops i f C' (SL X w K al) ρ w:=⟨o,hi,hd,.inr ⟨hg,SL.at hM hl,h⟩⟩
theorem qgq {al:Bool} (hi:ops[i]?=some o) (hg:Region.wanted o (qa5 ops ρ)=true) (hd:qbD n o.dst=true)
 (h:Step P o ρ w fun v w'=> ∃K',Ext X w K w' K'∧Models w' K'∧C' (SL X w' K' false) (updO ρ o.dst v) w'):qbR P n ops i 1 C' (SL X w K al) ρ w:=
 ⟨o,hi,hd,.inl ⟨hg,.inr ⟨rfl,h.mono fun v w' ⟨K',hE,hM,hr⟩=>⟨SL X w' K' false,SL.down1 hE,SL.up,SX.self hM,hr⟩⟩⟩⟩
theorem qeo (hi:ops[i]?=some o) (hg:Region.wanted o (qa5 ops ρ)=true) (hd:qbD n o.dst=true)
 (h:Step P o ρ w fun v w'=> ∃K',Ext NX w K w' K'∧Models w' K'∧C' (SL X w' K' true) (updO ρ o.dst v) w'):qbR P n ops i 0 C' (SL X w K true) ρ w:=
 ⟨o,hi,hd,.inl ⟨hg,.inr ⟨rfl,h.mono fun v w' ⟨K',hE,hM,hr⟩=>⟨SL X w' K' true,SL.down hE,SL.up,SX.self hM,hr⟩⟩⟩⟩
theorem qj3 {v:Value} (hM:Models w K) (h: ∀w' K',Ext NX w K w' K'→Models w' K'→(execOp (ev ρ) o).run P w'= .ok (.value v) w') (hi:ops[i]?=some o) (hg:Region.wanted o (qa5 ops ρ)=true) (hd:qbD n o.dst=true)
 (hn:C' (SL X w K true) (updO ρ o.dst v) w):qbR P n ops i 2 C' (SL X w K true) ρ w:=
 ⟨o,hi,hd,.inl ⟨hg,.inl ⟨rfl,SX.self hM,v,fun w' ⟨K',hE,hM⟩=>h w' K' hE hM,hn⟩⟩⟩
theorem qoL {v:Value} {al:Bool} {f:Nat} (hf:tk f=false) (hl:lv f=false→al=true) (hM:Models w K) (h: ∀w' K',Ext NX w K w' K'→Models w' K'→(execOp (ev ρ) o).run P w'= .ok (.value v) w') (hi:ops[i]?=some o) (hg:Region.wanted o (qa5 ops ρ)=true) (hd:qbD n o.dst=true)
 (hn:C' (SL X w K al) (updO ρ o.dst v) w):qbR P n ops i f C' (SL X w K al) ρ w:=
 ⟨o,hi,hd,.inl ⟨hg,.inr ⟨hf,Step.value (h w K (Ext.refl _ _ _) hM) ⟨SL X w K al,fun _ _ h=>h,SL.up,SL.at hM hl,hn⟩⟩⟩⟩
theorem qag (v:Value) {al:Bool} {f:Nat} (ht:tk f=true) (hl:lv f=false→al=true) (hM:Models w K) (h: ∀w':World,(execOp (ev ρ) o).run P w'= .ok (.value v) w') (hi:ops[i]?=some o) (hg:Region.wanted o (qa5 ops ρ)=true) (hd:qbD n o.dst=true)
 (hn:C' (SL X w K al) (updO ρ o.dst v) w):qbR P n ops i f C' (SL X w K al) ρ w:=⟨o,hi,hd,.inl ⟨hg,.inl ⟨ht,SL.at hM hl,v,fun w' _=>h w',hn⟩⟩⟩
end
section
variable {P:Program} {n:Nat} {C':Fin'} {ops:Array Oper} {o:Oper} {ρ:Env} {w:World} {K:Ghost} {X:Nat→Prop} {i:Nat}
variable {α:Type} {k:Kd α}
theorem WO_V {K0:Ghost} {x:α} {al:Bool} {f:Nat} (ht:tk f=true) (hl:lv f=false→al=true) (hM:Models w K) (h: ∃v,(∀w':World,(execOp (ev ρ) o).run P w'= .ok (.value v) w')∧k.V K0 x v) (hi:ops[i]?=some o) (hg:Region.wanted o (qa5 ops ρ)=true) (hd:qbD n o.dst=true)
 (hn: ∀v,k.V K0 x v→C' (SL X w K al) (updO ρ o.dst v) w):qbR P n ops i f C' (SL X w K al) ρ w:=by
 obtain ⟨v,hr,hV⟩:=h
 exact qag v ht hl hM hr hi hg hd (hn v hV)
theorem WO_P {K0:Ghost} {x:α} {al:Bool} {f:Nat} (ht:tk f=true) (hl:lv f=false→al=true) (hM:Models w K) (h: ∃bl off,(∀w':World,(execOp (ev ρ) o).run P w'= .ok (.value (.pointer (some ⟨bl,off,none⟩))) w')∧k.Pt K0 x (.pointer (some ⟨bl,off,none⟩))) (hi:ops[i]?=some o) (hg:Region.wanted o (qa5 ops ρ)=true) (hd:qbD n o.dst=true)
 (hn: ∀bl off,k.Pt K0 x (.pointer (some ⟨bl,off,none⟩))→C' (SL X w K al) (updO ρ o.dst (.pointer (some ⟨bl,off,none⟩))) w):qbR P n ops i f C' (SL X w K al) ρ w:=by
 obtain ⟨bl,off,hr,hV⟩:=h
 exact qag (.pointer (some ⟨bl,off,none⟩)) ht hl hM hr hi hg hd (hn bl off hV)
theorem qbG {x:α} (hM:Models w K) (h: ∃v,(∀w' K',Ext NX w K w' K'→Models w' K'→(execOp (ev ρ) o).run P w'= .ok (.value v) w')∧k.V K x v) (hi:ops[i]?=some o) (hg:Region.wanted o (qa5 ops ρ)=true) (hd:qbD n o.dst=true)
 (hn: ∀v,k.V K x v→C' (SL X w K true) (updO ρ o.dst v) w):qbR P n ops i 2 C' (SL X w K true) ρ w:=by
 obtain ⟨v,hr,hV⟩:=h
 exact qj3 hM hr hi hg hd (hn v hV)
theorem qj0 {x:α} {b:Bool} (hM:Models w K) (h: ∃r,(∀w' K',Ext NX w K w' K'→Models w' K'→(execOp (ev ρ) o).run P w'= .ok (.value (.tuple #[r,.bool b])) w')∧k.V K x r) (hi:ops[i]?=some o) (hg:Region.wanted o (qa5 ops ρ)=true) (hd:qbD n o.dst=true)
 (hn: ∀r,k.V K x r→C' (SL X w K true) (updO ρ o.dst (.tuple #[r,.bool b])) w):qbR P n ops i 2 C' (SL X w K true) ρ w:=by
 obtain ⟨r,hr,hV⟩:=h
 exact qj3 hM hr hi hg hd (hn r hV)
end
section
variable {P:Program} {w:World} {ρ:Env} {dst:Option Tmp} {ty:TypeId} {pos:String} {af:Array Edge} {g:Option (Nat×Bool)} {x y z:Operand} {b q r:Bool}
theorem qme (hz:ev ρ z= .bool b) (hb:b=true) (hx:ev ρ x= .bool q) (he:q=r):(execOp (ev ρ) ⟨dst,.pick z x y,ty,pos,af,g⟩).run P w= .ok (.value (.bool r)) w:=by
 subst hb;subst he
 unfold execOp
 simp only [hz,hx]
 simp [asBool]
theorem qmf (hz:ev ρ z= .bool b) (hb:b=false) (hy:ev ρ y= .bool q) (he:q=r):(execOp (ev ρ) ⟨dst,.pick z x y,ty,pos,af,g⟩).run P w= .ok (.value (.bool r)) w:=by
 subst hb;subst he
 unfold execOp
 simp only [hz,hy]
 simp [asBool]
theorem qtf {p q:Prop} [Decidable p] [Decidable q] (hp:p):decide q=decide (p∧q):=by simp [hp]
theorem qte {p q:Prop} [Decidable p] [Decidable q] (hp: ¬p):false=decide (p∧q):=by simp [hp]
theorem qcs {a b n:Nat} (h:n≤a) (h2:b<n): ¬(a=b):=fun e=>by omega
end
section
variable {P:Program} {n:Nat} {Q:Post} {ops:Array Oper} {ρ:Env} {w:World}
def qiM (M:List Nat) (J:List (Nat×Value)→World→Prop) (ρ:Env) (Q:Post):Post
 | .normal,ρ',w'=> ∃l,J l w'∧Off M ρ' ρ∧Slots ρ' l
 | e,ρ',w'=>Q e ρ' w'
theorem qmr {c:Code} (M:List Nat) (J:List (Nat×Value)→World→Prop) (h1:WP P n c (qiM M J ρ Q) ρ w) (h2: ∀l σ w',J l w'→Q .normal (lay M σ ρ l) w'):WP P n c Q ρ w:=by
 refine h1.mono ?_
 rintro e ρ' w' h
 cases e with
 | normal=>
   obtain ⟨l,hJ,hoff,hl⟩:=h
   have he:ρ'=lay M ρ' ρ l:=rebase hoff l hl.all
   rw [he]
   exact h2 l ρ' w' hJ
 | exit id=>exact h
 | goto l=>exact h
 | ret=>exact h
 | panic ch=>exact h
 | outgrown=>exact h
theorem qiM.mk {M:List Nat} {J:List (Nat×Value)→World→Prop} {ρ':Env} (l:List (Nat×Value)) (h1:J l w) (h2:Off M ρ' ρ) (h3:Slots ρ' l):qiM M J ρ Q .normal ρ' w:=⟨l,h1,h2,h3⟩
def qsf (M:List Nat) (X:Nat→Prop) (al:Bool) (J:List (Nat×Value)→World→Ghost→Prop) (ρ:Env):Fin':=fun S ρ' w'=> ∃l K',S=SL X w' K' al∧J l w' K'∧Off M ρ' ρ∧Slots ρ' l
theorem qmp {F:Fin'} {S:SF} {al:Bool} {l1 l2:List It} (M:List Nat) (X:Nat→Prop) (J:List (Nat×Value)→World→Ghost→Prop) (h1:WO P n ops (qsf M X al J ρ) l1 S ρ w)
 (h2: ∀l σ w' K',J l w' K'→WO P n ops F l2 (SL X w' K' al) (lay M σ ρ l) w'):WO P n ops F (l1++l2) S ρ w:=by
 refine qj1 h1 ?_
 rintro S' ρ' w' ⟨l,K',rfl,hJ,hoff,hl⟩
 have he:ρ'=lay M ρ' ρ l:=rebase hoff l hl.all
 rw [he]
 exact h2 l ρ' w' K' hJ
theorem qj2 {M:List Nat} {X:Nat→Prop} {al:Bool} {J:List (Nat×Value)→World→Ghost→Prop} {ρ':Env} {S:SF} (l:List (Nat×Value)) (K':Ghost) (hS:S=SL X w K' al) (h1:J l w K') (h2:Off M ρ' ρ) (h3:Slots ρ' l):WO P n ops (qsf M X al J ρ) [] S ρ' w:=⟨l,K',hS,h1,h2,h3⟩
end
end Go.Inc

set_option linter.unusedVariables false
namespace Go.Inc
open Go Go.RowKit
def blen (n:Nat):Nat:=if n=0 then 0 else blen (n/2)+1
termination_by n
decreasing_by omega
theorem qfD:blen 0=0:=by rw [blen];simp
theorem qhb {n:Nat} (h:0<n):blen n=blen (n/2)+1:=by
 rw [blen]
 simp [show n≠0 by omega]
theorem qdk: ∀(k:Nat) {n:Nat},2^k≤n→blen n=k+blen (n/2^k)
 | 0,n,h=>by simp
 | k+1,n,h=>by
   have hp:0<2^k:=Nat.pow_pos (by omega)
   have h2:2^k≤n/2:=by rw [Nat.le_div_iff_mul_le (by omega)];rw [Nat.pow_succ] at h;exact h
   rw [qhb (by omega),qdk k h2,Nat.div_div_eq_div_mul,Nat.pow_succ,Nat.mul_comm 2]
   omega
def qdI:List UInt8:=(List.range 256).map fun n=>UInt8.ofNat (blenF 8 n)
where blenF:Nat→Nat→Nat
 | 0,_=>0
 | f+1,n=>bif Nat.beq n 0 then 0 else blenF f (n/2)+1
theorem qe6: ∀(f n:Nat),n<2^f→qdI.blenF f n=blen n
 | 0,n,h=>by
   have:n=0:=by simpa using h
   subst this
   simp [qdI.blenF,qfD]
 | f+1,n,h=>by
   rw [qdI.blenF]
   by_cases h0:n=0
   ·subst h0;simp [qfD]
   ·have:Nat.beq n 0=false:=by
     cases n with
     | zero=>exact absurd rfl h0
     | succ n=>rfl
    rw [this,qhb (by omega),cond_false,qe6 f (n/2) (by rw [Nat.pow_succ] at h;omega)]
theorem qfC {n:Nat}: ∀(f:Nat),n<2^f→blen n≤f
 | f,h=>by
   rw [←qe6 f n h]
   clear h
   induction f generalizing n with
   | zero=>simp [qdI.blenF]
   | succ f ih=>
     rw [qdI.blenF]
     cases Nat.beq n 0
     ·simpa using ih (n:=n/2)
     ·simp
theorem qoT {r:Int} (h0:0≤r) (h1:r<256):bI (ix qdI r)=(blen r.toNat:Int):=by
 have hr:r.toNat<256:=by omega
 unfold ix
 have hl:r.toNat<qdI.length:=by simpa [qdI] using (show r<256 from h1)
 rw [List.getD_eq_getElem?_getD,List.getElem?_eq_getElem hl]
 simp only [qdI,List.getElem_map,List.getElem_range,Option.getD_some]
 rw [qe6 8 _ (by simpa using hr)]
 have:=qfC 8 (n:=r.toNat) (by simpa using hr)
 unfold bI
 rw [UInt8.toNat_ofNat_of_lt' (by show blen r.toNat<256;omega)]
theorem qrO {a:Int} {k:Nat} (h:0≤a) (hk:k≤64):shr .u64 a (k:Int)=a/(2:Int)^k:=by
 unfold shr
 rw [Int.fdiv_eq_ediv_of_nonneg _ (Int.pow_nonneg (by omega))]
 simp [IntKind.bits,Nat.min_eq_left hk]
theorem qrV {y:Int} (h0:0≤y) (h1:y<256):IntKind.u8.wrap y=y:=qaw ⟨h0,by show y≤(255:Int);omega⟩
theorem qcf {x y:Nat} {k:Nat} {c:Int} (h1:y<256) (hk:k≤56) (hb:blen x=k+blen y) (hc:c=(k:Int)) {tab:List UInt8} (ht:tab=qdI):
 (0≤IntKind.u8.wrap (y:Int)∧IntKind.u8.wrap (y:Int)<(tab.length:Int))∧IntKind.i64.wrap (c+bI (ix tab (IntKind.u8.wrap (y:Int))))=(blen x:Int):=by
 subst ht
 rw [qrV (by omega) (by omega)]
 have hl:qdI.length=256:=by simp [qdI]
 refine ⟨⟨by omega,by rw [hl];omega⟩,?_⟩
 rw [qoT (by omega) (by omega),Int.toNat_natCast]
 have:=qfC 8 (n:=y) h1
 rw [qaw (wf64 (by omega) (by omega)),hb,hc]
 omega
theorem qhJ {n k:Nat} (hk:k≤64):shr .u64 (n:Int) (k:Int)=((n/2^k:Nat):Int):=by
 rw [qrO (by omega) hk]
 rw [Int.natCast_ediv,Int.natCast_pow]
 rfl
end Go.Inc
namespace Go.Inc
def be (n:Nat):Nat→List UInt8
 | 0=> []
 | k+1=>UInt8.ofNat (n/2^(8 *k))::be n k
def numB (n:Nat):List UInt8:=let k:=(blen n+7)/8;UInt8.ofNat k::be n k
def qbA (l:List Int):List UInt8:=l.flatMap fun x=>numB x.toNat
def qaP (l:List (List UInt8)):List UInt8:=l.flatMap fun x=>numB x.length++x
def qah (l:List (List UInt8)):Nat:=(l.map fun x=>x.length+9).sum
def preimage (k:Int) (l:List (List UInt8)):List UInt8:=toB (IntKind.u8.wrap k)::qaP l
theorem qa1 (n:Nat): ∀k,(be n k).length=k
 | 0=>rfl
 | k+1=>by simp [be,qa1 n k]
theorem qcL {n:Nat} (h:n<2^64):(numB n).length≤9:=by
 have:=qfC 64 h
 simp only [numB,List.length_cons,qa1]
 omega
theorem qbq: ∀(l:List (List UInt8)),(∀x∈l,x.length<2^64)→(qaP l).length≤qah l
 | [],_=>by simp [qaP,qah]
 | x::l,h=>by
   have h1:=qcL (h x (by simp))
   have ih:=qbq l fun y hy=>h y (by simp [hy])
   simp only [qaP,qah,List.flatMap_cons,List.map_cons,List.sum_cons,List.length_append] at *
   omega
end Go.Inc
namespace Go.Inc
open Go
theorem qbh {α:Type} [Inhabited α] {l:List α} {j:Nat} (h:(j:Int)<(l.length:Int)):l.take (j+1)=l.take j++ [ix l (j:Int)]:=by
 have hj:j<l.length:=by omega
 rw [qaR (by simpa using hj),List.take_succ_eq_append_getElem hj]
 rfl
theorem qce {α:Type} [Inhabited α] {l:List α} {i:Int} (h0:0≤i) (h:i<(l.length:Int)):ix l i∈l:=by
 rw [qaR (by omega)]
 exact List.getElem_mem _
theorem qhc {l:List (List UInt8)} (j:Nat):qah (l.take j)≤qah l:=by
 unfold qah
 rw [List.map_take]
 generalize l.map (fun x=>x.length+9)=m
 induction m generalizing j with
 | nil=>simp
 | cons a m ih=>cases j with
   | zero=>simp
   | succ j=>simpa using ih j
theorem qcD {l:List (List UInt8)} {j:Nat} (h:(j:Int)<(l.length:Int)):qah (l.take j)+((ix l (j:Int)).length+9)≤qah l:=by
 have:=qhc (l:=l) (j+1)
 rw [qbh h] at this
 simpa [qah] using this
end Go.Inc
namespace Go.Inc
open Go
theorem qqu {y:Nat}:toB (IntKind.u8.wrap (y:Int))=UInt8.ofNat y:=by
 have h:IntKind.u8.wrap (y:Int)=((y%256:Nat):Int):=by
  simp [IntKind.wrap,IntKind.signed,IntKind.bits]
 rw [h]
 unfold toB
 rw [Int.toNat_natCast]
 apply UInt8.toNat_inj.1
 simp
theorem qmL {n m:Nat} (h:8 *m≤64):toB (IntKind.u8.wrap (shr .u64 (n:Int) ((8 *m:Nat):Int)))=UInt8.ofNat (n/2^(8 *m)):=by
 rw [qhJ h,qqu]
theorem quw {n:Nat} (h:blen n≤64):IntKind.i64.wrap (Int.tdiv (IntKind.i64.wrap ((blen n:Int)+7)) 8)=(((blen n+7)/8:Nat):Int):=by
 rw [qaw (a:=(blen n:Int)+7) (wf64 (by omega) (by omega))]
 have h1:Int.tdiv ((blen n:Int)+7) 8=(((blen n+7)/8:Nat):Int):=by
  rw [Int.tdiv_eq_ediv_of_nonneg (by omega)]
  omega
 rw [h1,qaw (wf64 (by omega) (by omega))]
end Go.Inc
namespace Go.Inc
open Go
theorem qfJ {l:List (List UInt8)} (j:Nat):(l.take j).flatten.length≤l.flatten.length:=by
 induction l generalizing j with
 | nil=>simp
 | cons a l ih=>cases j with
   | zero=>simp
   | succ j=>
     have:=ih j
     simp only [List.take_succ_cons,List.flatten_cons,List.length_append]
     omega
theorem qc2 {l:List (List UInt8)} {j:Nat} (h:(j:Int)<(l.length:Int)):(l.take (j+1)).flatten=(l.take j).flatten++ix l (j:Int):=by
 rw [qbh h]
 simp
end Go.Inc

set_option linter.unusedVariables false
namespace Go.Inc
open Go
def shaH:List Int:=[1779033703,3144134277,1013904242,2773480762,1359893119,2600822924,528734635,1541459225]
def shaK:List Int:=[1116352408,1899447441,3049323471,3921009573,961987163,1508970993,2453635748,2870763221,3624381080,310598401,607225278,1426881987,1925078388,2162078206,2614888103,3248222580,3835390401,4022224774,264347078,604807628,770255983,1249150122,1555081692,1996064986,2554220882,2821834349,2952996808,3210313671,3336571891,3584528711,113926993,338241895,666307205,773529912,1294757372,1396182291,1695183700,1986661051,2177026350,2456956037,2730485921,2820302411,3259730800,3345764771,3516065817,3600352804,4094571909,275423344,430227734,506948616,659060556,883997877,958139571,1322822218,1537002063,1747873779,1955562222,2024104815,2227730452,2361852424,2428436474,2756734187,3204031479,3329325298]
def rotl (x n:Int):Int:=bor .u32 (shl .u32 x (band .u64 (IntKind.u64.wrap n) 31)) (shr .u32 x (IntKind.u64.wrap (32 - band .u64 (IntKind.u64.wrap n) 31)))
def qaq (x:Int) (l:List Int):Int:=l.foldl (fun s n=>bxor .u32 s (rotl x (IntKind.i64.wrap (0 - n)))) 0
end Go.Inc

set_option linter.unusedVariables false
namespace Go.Inc
open Go
abbrev Act:=Int×(Int×(List (List UInt8)×(List UInt8×List UInt8)))
def qbl (l:List (List UInt8)):Nat:=(l.map List.length).sum
def qbH (l:List Act):Nat:=(l.map fun a=>a.2.2.2.2.length+qbl a.2.2.1).sum
def light (l:List Act):Prop:=l.length≤200∧(∀a∈l,a.2.2.1.length≤500)∧qbH l≤60000
instance (l:List Act):Decidable (light l):=by unfold light;infer_instance
end Go.Inc
namespace Go.Inc
open Go
theorem qkG (m:List Nat) (j:Nat):(m.take j).sum≤m.sum:=by
 induction m generalizing j with
 | nil=>simp
 | cons a m ih=>cases j with
   | zero=>simp
   | succ j=>simpa using ih j
theorem qhD (l:List (List UInt8)) (j:Nat):qbl (l.take j)≤qbl l:=by
 unfold qbl
 rw [List.map_take]
 exact qkG _ _
theorem qhC {l:List (List UInt8)} {j:Nat} (h:(j:Int)<(l.length:Int)):qbl (l.take (j+1))=qbl (l.take j)+(ix l (j:Int)).length:=by
 rw [qbh h]
 simp [qbl]
theorem qhY (l:List Act) (j:Nat):qbH (l.take j)≤qbH l:=by
 unfold qbH
 rw [List.map_take]
 exact qkG _ _
theorem qhX {l:List Act} {j:Nat} (h:(j:Int)<(l.length:Int)):qbH (l.take (j+1))=qbH (l.take j)+((ix l (j:Int)).2.2.2.2.length+qbl (ix l (j:Int)).2.2.1):=by
 rw [qbh h]
 simp [qbH]
end Go.Inc
namespace Go.Inc
open Go
abbrev Nt:=List UInt8×List UInt8
def qbc (s b:List UInt8):List Nt→Int→Int
 | [],_=> -1
 | x::l,i=>if x.1=s∧x.2=b then i else qbc s b l (i+1)
def qan (s:List UInt8):List Nt→Int→Option Int
 | [],_=>none
 | x::l,i=>if s=x.1 then some i else qan s l (i+1)
def qaW (l:List Nt) (m:List (List UInt8×Int)):Prop:=∀s,mfind s m=qan s l 0
def addL (l:List Nt) (s b:List UInt8):List Nt:=if (s,b)∈l then l else l++ [(s,b)]
def addM (l:List Nt) (m:List (List UInt8×Int)) (s b:List UInt8):List (List UInt8×Int):=
 if (s,b)∈l then m else if (mfind s m).isSome then m else mset s (l.length:Int) m
end Go.Inc
namespace Go.Inc
open Go
theorem qil {s b:List UInt8}: ∀(l:List Nt) (i:Int),0≤i→(0≤qbc s b l i↔(s,b)∈l)
 | [],i,hi=>by simp [qbc]
 | x::l,i,hi=>by
   simp only [qbc,List.mem_cons]
   by_cases h:x.1=s∧x.2=b
   ·rw [if_pos h]
    have:(s,b)=x:=by rw [←h.1,←h.2]
    simp [this,hi]
   ·rw [if_neg h,qil l (i+1) (by omega)]
    have: ¬((s,b)=x):=fun e=>h (by rw [←e];exact ⟨rfl,rfl⟩)
    simp [this]
theorem qfT {s b:List UInt8} {l:List Nt} {j:Nat} (h:(j:Int)<(l.length:Int)) (i:Int):
 qbc s b (l.drop j) i=if (ix l (j:Int)).1=s∧(ix l (j:Int)).2=b then i else qbc s b (l.drop (j+1)) (i+1):=by
 have hj:j<l.length:=by omega
 rw [List.drop_eq_getElem_cons hj,qaR (by simpa using hj)]
 rfl
theorem qcd {s:List UInt8}: ∀ {l:List Nt} {i a:Int},qan s l i=some a→∃j:Nat,a=i+(j:Int)∧j<l.length∧∀b,(s,b)∈l↔(s,b)∈l.drop j
 | x::l,i,a,h=>by
   simp only [qan] at h
   by_cases hx:s=x.1
   ·rw [if_pos hx] at h
    cases h
    exact ⟨0,by omega,by simp,fun b=>by simp⟩
   ·rw [if_neg hx] at h
    obtain ⟨j,hj,hl,hm⟩:=qcd h
    refine ⟨j+1,by omega,by simpa using hl,fun b=>?_⟩
    have: ¬((s,b)=x):=fun e=>hx (by rw [←e])
    simpa [this] using hm b
theorem qc1 {s:List UInt8}: ∀ {l:List Nt} {i:Int},qan s l i=none→∀b,(s,b)∉l
 | [],_,_,b=>by simp
 | x::l,i,h,b=>by
   simp only [qan] at h
   by_cases hx:s=x.1
   ·rw [if_pos hx] at h;cases h
   ·rw [if_neg hx] at h
    have: ¬((s,b)=x):=fun e=>hx (by rw [←e])
    simpa [this] using qc1 h b
end Go.Inc
namespace Go.Inc
open Go
def qa3 (l:List Nt) (s:List UInt8):List UInt8:=match qan s l 0 with | some a=>(ix l a).2 | none=> []
end Go.Inc

set_option linter.unusedVariables false
namespace Go.Inc
open Go
def qkM (b:List UInt8) (i:Int):Int:=bor .u32 (bor .u32 (bor .u32 (shl .u32 (bI (ix b (4 *i))) 24) (shl .u32 (bI (ix b (4 *i+1))) 16)) (shl .u32 (bI (ix b (4 *i+2))) 8)) (bI (ix b (4 *i+3)))
def qoh (w:List Int) (i:Int):Int:=
 IntKind.u32.wrap (IntKind.u32.wrap (IntKind.u32.wrap (ix w (i - 16)+ix w (i - 7))+bxor .u32 (qaq (ix w (i - 15)) [7,18]) (shr .u32 (ix w (i - 15)) 3))+bxor .u32 (qaq (ix w (i - 2)) [17,19]) (shr .u32 (ix w (i - 2)) 10))
def qax (b:List UInt8):Nat→List Int
 | 0=>List.replicate 64 0
 | n+1=>(qax b n).set n (if n<16 then qkM b n else qoh (qax b n) n)
def qnO (w x:List Int) (i:Int):List Int:=
 let t:=IntKind.u32.wrap (IntKind.u32.wrap (IntKind.u32.wrap (IntKind.u32.wrap (ix x 7+qaq (ix x 4) [6,11,25])+bxor .u32 (band .u32 (ix x 4) (ix x 5)) (band .u32 (bxor .u32 4294967295 (ix x 4)) (ix x 6)))+ix shaK i)+ix w i)
 let u:=IntKind.u32.wrap (qaq (ix x 0) [2,13,22]+bxor .u32 (bxor .u32 (band .u32 (ix x 0) (ix x 1)) (band .u32 (ix x 0) (ix x 2))) (band .u32 (ix x 1) (ix x 2)))
 [IntKind.u32.wrap (t+u),ix x 0,ix x 1,ix x 2,IntKind.u32.wrap (ix x 3+t),ix x 4,ix x 5,ix x 6]
def qbu (w x:List Int):Nat→List Int
 | 0=>x
 | n+1=>qnO w (qbu w x n) n
def addN (s x:List Int):Nat→List Int
 | 0=>s
 | n+1=>(addN s x n).set n (IntKind.u32.wrap (ix (addN s x n) n+ix x n))
def qbM (s:List Int) (b:List UInt8):List Int:=addN s (qbu (qax b 64) s 64) 8
end Go.Inc
namespace Go.Inc
open Go
abbrev Hh:=List Int×(Int×List UInt8)
def eat (s:List Int) (n:Int) (r:List UInt8):Hh:=
 if 64≤r.length then eat (qbM (if n=0 then shaH else s) (r.take 64)) (IntKind.u64.wrap (n+1)) (r.drop 64) else (s,n,r)
termination_by r.length
decreasing_by simp only [List.length_drop];omega
def qat (h:Hh) (l:List (List UInt8)):Hh:=eat h.1 h.2.1 (h.2.2++l.flatten)
end Go.Inc
namespace Go.Inc
open Go
def hLen (h:Hh):Int:=IntKind.u64.wrap (IntKind.u64.wrap (64 *h.2.1)+IntKind.u64.wrap (h.2.2.length:Int))
def qhB (h:Hh):List (List UInt8):=[[toB 128],List.replicate (Int.tmod (IntKind.i64.wrap (119 - (h.2.2.length:Int))) 64).toNat 0,be (IntKind.u64.wrap (8 *hLen h)).toNat 8]
def sumN (x:List Int):Nat→List UInt8
 | 0=>List.replicate 32 0
 | n+1=>(sumN x n).take (4 *n)++((be (ix x (n:Int)).toNat 8).drop 4).take (32 - 4 *n)++(sumN x n).drop (4 *n+min ((be (ix x (n:Int)).toNat 8).drop 4).length (32 - 4 *n))
def hSum (h:Hh):List UInt8:=sumN (qat h (qhB h)).1 8
end Go.Inc

set_option linter.unusedVariables false
namespace Go.Inc
open Go Go.RowKit
def Kd.ptr {α:Type} (k:Kd α):Kd (Option α) where
 sz:=1
 agg:=false
 R:=fun K x cs=>match x with
  | none=>cs=[.pointer none]
  | some y=> ∃v,cs=[v]∧k.Pt K y v
 wf:=fun x=> ∀y,x=some y→k.wf y
 z:=none
 zc:=[.pointer none]
 len:=fun {K x cs} h=>by
  cases x with
  | none=>simp [show cs=[.pointer none] from h]
  | some y=>obtain ⟨v,rfl,_⟩:=h;rfl
 mono:=fun {K K' x cs} hle h=>by
  cases x with
  | none=>exact h
  | some y=>obtain ⟨v,rfl,hP⟩:=h;exact ⟨v,rfl,hP.mono hle⟩
 one:=fun {K x cs} h=>by
  cases x with
  | none=>simp [show cs=[.pointer none] from h,Value.oneCell']
  | some y=>
    obtain ⟨v,rfl,hP⟩:=h
    obtain ⟨b,o,rfl⟩:=hP.form
    simp [Value.oneCell']
 hwf:=fun {K x cs} h y hy=>by
  subst hy
  obtain ⟨v,rfl,hP⟩:=h
  obtain ⟨b,e,pre,mid,post,hv,hK,hR⟩:=hP
  exact k.hwf hR
 hz:=fun _=>rfl
 hs:=fun _=>rfl
section
variable {P:Program} {α β:Type} {k:Kd α} {k':Kd β} {e t:TypeId} {by_:Nat} {w w':World} {K K':Ghost} {ρ:Env}
variable {dst:Option Tmp} {ty:TypeId} {pos:String} {af:Array Edge} {g:Option (Nat×Bool)} {x y z:Operand} {v u:Value}
theorem qqk:(Kd.ptr k).V K none (.pointer none):=⟨[.pointer none],rfl,rfl⟩
theorem qtw {a:α} (h:k.Pt K a v):(Kd.ptr k).V K (some a) v:=⟨[v],⟨v,rfl,h⟩,rfl⟩
theorem qhF {a:Option α} (h:(Kd.ptr k).V K a v):(a=none∧v= .pointer none)∨∃y b o,a=some y∧v= .pointer (some ⟨b,o,none⟩)∧k.Pt K y v:=by
 obtain ⟨cs,h,rfl⟩:=h
 cases a with
 | none=>exact .inl ⟨rfl,by rw [show cs=[.pointer none] from h];rfl⟩
 | some y=>
   obtain ⟨v,rfl,hP⟩:=h
   obtain ⟨b,o,hv⟩:=hP.form
   exact .inr ⟨y,b,o,rfl,hv,hP⟩
theorem qhG {a:Option α} (h:(Kd.ptr k).V K a v) (hn: ¬(a.isNone=true)): ∃y b o,a=some y∧v= .pointer (some ⟨b,o,none⟩)∧k.Pt K y (.pointer (some ⟨b,o,none⟩)):=by
 rcases qhF h with ⟨rfl,_⟩ | ⟨y,b,o,h1,rfl,h3⟩
 ·exact absurd rfl hn
 ·exact ⟨y,b,o,h1,rfl,h3⟩
theorem qjX {a:Option α} (hx:ev ρ x=v) (hV:(Kd.ptr k).V K a v) (hy:ev ρ y= .pointer none) {t1 t2 t3:TypeId} (ht:P.underlying t1=some (.pointer t3)):(execOp (ev ρ) ⟨dst,.binOp .eql t1 x y t2,ty,pos,af,g⟩).run P w= .ok (.value (.bool a.isNone)) w:=by
 rcases qhF hV with ⟨rfl,rfl⟩ | ⟨y',b,o,rfl,rfl,_⟩
 ·exact qgo hx hy ht
 ·exact qk3 hx hy ht
theorem qq3 {a:Option α} (hx:ev ρ x=v) (hV:(Kd.ptr k).V K a v) (hy:ev ρ y= .pointer none) {t1 t2 t3:TypeId} (ht:P.underlying t1=some (.pointer t3)):(execOp (ev ρ) ⟨dst,.binOp .neq t1 x y t2,ty,pos,af,g⟩).run P w= .ok (.value (.bool a.isSome)) w:=by
 rcases qhF hV with ⟨rfl,rfl⟩ | ⟨y',b,o,rfl,rfl,_⟩
 ·exact qhW hx hy ht
 ·exact qmg hx hy ht
end
def Kd.anm:Kd Unit where
 sz:=1
 agg:=false
 R:=fun _ _ cs=> ∃v,cs=[v]∧v.oneCell'=true
 wf:=fun _=>True
 z:=()
 zc:=[.map none]
 len:=fun ⟨_,h,_⟩=>by simp [h]
 mono:=fun _ h=>h
 one:=fun ⟨_,h,h2⟩=>by simp [h,h2]
 hwf:=fun _=>trivial
 hz:=fun _=>⟨_,rfl,rfl⟩
 hs:=fun _=>rfl
abbrev qnn:Kd Nt:=Kd.pr (Kd.arr 32 Kd.byte) (Kd.sl Kd.byte)
abbrev qd7:Kd ((Value×Value)×Int):=Kd.pr (Kd.pr Kd.rsl Kd.rmp) (Kd.int .i64)
abbrev qnm:Kd ((List Nt×Unit)×Int):=Kd.pr (Kd.pr (Kd.sl qnn) Kd.anm) (Kd.int .i64)
abbrev qav:=Option (List Nt×Int)
def qtQ (e:TypeId) (w:World) (K:Ghost) (v:Value) (F:Nat→Prop) (l:List Nt) (c:Int):Prop:=
 ∃b pre post lv mv m,v= .pointer (some ⟨b,List.length pre,none⟩)∧Bx qd7 w K b pre post ((lv,mv),c)∧Own qnn e w K l lv∧Mp (Kd.arr 32 Kd.byte) (Kd.int .i64) w K m mv∧qaW l m∧
  (∀g,(g=b∨ob lv=some g∨mb mv=some g)→F g)∧(∀g,F g→g<w.heap.size)
def qaE (e:TypeId) (w:World) (K:Ghost) (v:Value) (F:Nat→Prop):qav→Prop
 | none=>v= .pointer none∧F=NX
 | some x=>qtQ e w K v F x.1 x.2
section
variable {e:TypeId} {w w':World} {K K':Ghost} {v:Value} {F:Nat→Prop} {x:qav}
theorem qaE.lt (h:qaE e w K v F x): ∀g,F g→g<w.heap.size:=by
 cases x with
 | none=>intro g hg;rw [h.2] at hg;exact hg.elim
 | some x=>obtain ⟨_,_,_,_,_,_,_,_,_,_,_,_,h⟩:=h;exact h
theorem qaE.ext {X:Nat→Prop} (h:qaE e w K v F x) (hE:Ext X w K w' K') (hX: ∀g,F g→¬X g):qaE e w' K' v F x:=by
 cases x with
 | none=>exact h
 | some x=>
   obtain ⟨b,pre,post,lv,mv,m,hv,hB,hO,hm,hi,hF,hlt⟩:=h
   exact ⟨b,pre,post,lv,mv,m,hv,hB.ext hE (hX b (hF b (.inl rfl))),hO.ext hE (fun g hg=>hX g (hF g (.inr (.inl hg)))),hm.ext hE (fun g hg=>hX g (hF g (.inr (.inr hg)))),hi,hF,fun g hg=>Nat.lt_of_lt_of_le (hlt g hg) hE.size⟩
theorem qaE.extN (h:qaE e w K v F x) (hE:Ext NX w K w' K'):qaE e w' K' v F x:=h.ext hE (fun _ _ h=>h)
theorem qaE.nil:qaE e w K (.pointer none) NX none:=⟨rfl,rfl⟩
theorem qaE.new {b:Nat} (h:Bx qd7 w K b [] [] ((.slice none 0 0,.map none),0)):qaE e w K (.pointer (some ⟨b,0,none⟩)) (fun c=>c=b) (some ([],0)):=
 ⟨b,[],[],.slice none 0 0,.map none,[],rfl,h,Own.nil,.inl ⟨rfl,rfl⟩,fun s=>rfl,fun g hg=>by
   rcases hg with h | h | h
   ·exact h
   ·exact nilS h
   ·exact nilM h,fun g hg=>by subst hg;exact h.lt⟩
theorem qaE.mk {b:Nat} {pre post:List Value} {lv mv:Value} {m:List (List UInt8×Int)} {l:List Nt} {c:Int} (hB:Bx qd7 w K b pre post ((lv,mv),c)) (hO:Own qnn e w K l lv) (hm:Mp (Kd.arr 32 Kd.byte) (Kd.int .i64) w K m mv) (hi:qaW l m):
 qaE e w K (.pointer (some ⟨b,pre.length,none⟩)) (fun g=>g=b∨ob lv=some g∨mb mv=some g) (some (l,c)):=
 ⟨b,pre,post,lv,mv,m,rfl,hB,hO,hm,hi,fun _ h=>h,fun g hg=>by
   rcases hg with rfl | h | h
   ·exact hB.lt
   ·exact hO.lt g h
   ·exact hm.lt g h⟩
theorem qaE.freezeX (hM:Models w K) (h:qaE e w K v F x): ∃K',Ext F w K w K'∧Models w K'∧(Kd.ptr qnm).V K' (x.map fun y=>((y.1,()),y.2)) v∧∀b,K b≠none→K' b=K b:=by
 cases x with
 | none=>obtain ⟨rfl,rfl⟩:=h;exact ⟨K,Ext.refl _ _ _,hM,qqk,fun _ _=>rfl⟩
 | some x=>
   obtain ⟨b,pre,post,lv,mv,m,rfl,⟨hK,cs,T,hh,hR⟩,hO,hm,hi,hF,hlt⟩:=h
   obtain ⟨c1,c2,rfl,⟨c3,c4,rfl,h3,h4⟩,h5⟩:=hR
   have hle:K.le (K.set b T (pre++(c3++c4++c2)++post)):=Ghost.le_set_new hK _ _
   have hOV:=hO.V.mono hle
   obtain ⟨e3,_⟩:=h3
   subst e3
   refine ⟨K.set b T (pre++([lv]++c4++c2)++post),⟨hle,fun _ _ _=>rfl,fun c _ hc=>Ghost.set_other _ _ _ (fun e=>hc (hF c (.inl e))),Nat.le_refl _,rfl,rfl,rfl⟩,?_,qtw ⟨b,T,pre,[lv]++c4++c2,post,rfl,Ghost.set_same _ _ _ _,?_⟩,fun c hc=>Ghost.set_other _ _ _ (fun e=>hc (e▸hK))⟩
   ·intro c t l hc
    by_cases he:c=b
    ·subst he
     rw [Ghost.set_same] at hc
     cases hc
     exact ⟨_,_,hh,by rw [List.toList_toArray];exact List.prefix_refl _⟩
    ·rw [Ghost.set_other _ _ _ he] at hc
     exact hM c t l hc
   ·exact ⟨[lv]++c4,c2,rfl,⟨[lv],c4,rfl,hOV.un1 rfl,⟨mv,h4.1,h4.2⟩⟩,h5⟩
theorem qaE.freeze (hM:Models w K) (h:qaE e w K v F x): ∃K',Ext F w K w K'∧Models w K'∧(Kd.ptr qnm).V K' (x.map fun y=>((y.1,()),y.2)) v:=by
 obtain ⟨K',h1,h2,h3,_⟩:=h.freezeX hM
 exact ⟨K',h1,h2,h3⟩
end
end Go.Inc

set_option linter.unusedVariables false
namespace Go.Inc
open Go Go.RowKit
def kset (K:Ghost) (v:Value) (e:TypeId) (l:List Value):Ghost:=fun b=>if ob v=some b then some (e,l) else K b
def Kd.Flat {α:Type} (k:Kd α):Prop:=∀(K K':Ghost) x cs,k.R K x cs→k.R K' x cs
def Rw {α:Type} (k:Kd α) (e:TypeId) (w:World) (K:Ghost) (x:List α) (v:Value):Prop:=(∀g,ob v=some g→K g=none)∧∃l,Own k e w (kset K v e l) x v
def At (v:Value) (i:Int) (sz:Nat) (bl o:Nat):Prop:=∃o0 n cap,v= .slice (some ⟨bl,o0,none⟩) n (cap+1)∧o=o0+i.toNat *sz∧i.toNat<n
section
variable {P:Program} {α:Type} {k:Kd α} {e t:TypeId} {by_:Nat} {w w':World} {K K':Ghost} {x y:List α} {v u:Value} {X:Nat→Prop}
theorem qc3 {l:List Value} {b:Nat} (h:ob v≠some b):kset K v e l b=K b:=by simp [kset,h]
theorem qjn {l:List Value} (h: ∀g,ob v=some g→K g=none):K.le (kset K v e l):=fun b t l' hb=>by
 have hne:ob v≠some b:=fun hq=>by rw [h b hq] at hb;cases hb
 exact ⟨l',by rw [qc3 hne];exact hb,List.prefix_refl _⟩
theorem qif {l:List Value} (hle:K.le K'):(kset K v e l).le (kset K' v e l):=fun b t l' hb=>by
 by_cases hq:ob v=some b
 ·simp only [kset,hq,if_true] at hb⊢
  cases hb
  exact ⟨_,rfl,List.prefix_refl _⟩
 ·rw [qc3 hq] at hb
  rw [qc3 hq]
  exact hle b t l' hb
theorem Own.models {l:List Value} (h:Own k e w (kset K v e l) x v) (hM:Models w K):Models w (kset K v e l):=fun b t l' hb=>by
 by_cases hq:ob v=some b
 ·obtain ⟨_,_,h⟩:=h
  rcases h with ⟨A,rfl,rfl⟩ | ⟨g,cap,c,pre,l2,rfl,hg,hnc,hcm,hcs,hK,hp,hR⟩
  ·cases A<;>simp [ob] at hq
  ·cases cap with
   | zero=>simp [ob] at hq
   | succ cap=>
     simp [ob] at hq
     subst hq
     rw [hK] at hb
     cases hb
     exact ⟨c,_,hg,hp⟩
 ·rw [qc3 hq] at hb
  exact hM b t l' hb
theorem Rw.lt (h:Rw k e w K x v): ∀g,ob v=some g→g<w.heap.size:=by
 obtain ⟨_,l,h⟩:=h
 exact h.lt
theorem Rw.wf (h:Rw k e w K x v):x.length≤LM∧∀y∈x,k.wf y:=by
 obtain ⟨_,l,h⟩:=h
 exact h.wf
theorem Rw.len (h:Rw k e w K x v):x.length≤LM:=by
 obtain ⟨_,l,h⟩:=h
 exact h.wf.1
theorem qcG {l:List Value} (hE:Ext X w K w' K') (hlt: ∀g,ob v=some g→g<w.heap.size) (hX: ∀g,ob v=some g→¬X g):Ext X w (kset K v e l) w' (kset K' v e l):=
 ⟨qif hE.le,hE.heap,fun b hb hx=>by
   by_cases hq:ob v=some b
   ·simp only [kset,hq,if_true]
   ·rw [qc3 hq,qc3 hq];exact hE.ghost b hb hx,hE.size,hE.os,hE.tape,hE.output⟩
theorem Rw.ext (h:Rw k e w K x v) (hE:Ext X w K w' K') (hX: ∀g,ob v=some g→¬X g):Rw k e w' K' x v:=by
 obtain ⟨hn,l,hO⟩:=h
 have hlt:=hO.lt
 refine ⟨fun g hg=>?_,l,hO.ext (qcG hE hlt hX) hX⟩
 rw [hE.ghost g (hlt g hg) (hX g hg)]
 exact hn g hg
theorem Rw.extN (h:Rw k e w K x v) (hE:Ext NX w K w' K'):Rw k e w' K' x v:=h.ext hE (fun _ _ h=>h)
theorem Own.unk {K2:Ghost} (hO:Own k e w' K2 x v) (hE:Ext X w K w' K2) (hM:Models w' K2) (hn: ∀g,ob v=some g→K g=none) (hx: ∀g,ob v=some g→g<w.heap.size→X g):
 ∃K',Rw k e w' K' x v∧Ext X w K w' K'∧Models w' K':=by
 have key: ∃l,kset (fun b=>if ob v=some b then none else K2 b) v e l=K2:=by
  cases hob:ob v with
  | none=>exact ⟨[],by funext b;simp [kset,hob]⟩
  | some g=>
    obtain ⟨l,hl⟩:=hO.known g hob
    refine ⟨l,?_⟩
    funext b
    by_cases hb:b=g
    ·subst hb;simp [kset,hob,hl]
    ·have hne: ¬g=b:=fun h=>hb h.symm
     simp [kset,hob,hne]
 obtain ⟨l,hl⟩:=key
 refine ⟨fun b=>if ob v=some b then none else K2 b,⟨fun g hg=>by simp [hg],l,by rw [hl];exact hO⟩,⟨fun b t l' hb=>?_,hE.heap,fun b hb hX=>?_,hE.size,hE.os,hE.tape,hE.output⟩,fun b t l' hb=>?_⟩
 ·have hne:ob v≠some b:=fun h=>by rw [hn b h] at hb;cases hb
  simp only [if_neg hne]
  exact hE.le b t l' hb
 ·by_cases h:ob v=some b
  ·exact absurd (hx b h hb) hX
  ·simp only [if_neg h];exact hE.ghost b hb hX
 ·by_cases h:ob v=some b
  ·simp [h] at hb
  ·simp only [if_neg h] at hb;exact hM b t l' hb
theorem Own.unkN {K2:Ghost} (hO:Own k e w' K2 x v) (hE:Ext NX w K w' K2) (hM:Models w' K2) (hM0:Models w K) (hn: ∀g,ob v=some g→w.heap.size≤g): ∃K',Rw k e w' K' x v∧Ext NX w K w' K'∧Models w' K':=
 hO.unk hE hM (fun g hg=>hM0.none_of_ge (hn g hg)) (fun g hg hlt=>absurd hlt (Nat.not_lt.2 (hn g hg)))
theorem Rw.freeze (h:Rw k e w K x v) (hM:Models w K): ∃K',Own k e w K' x v∧Ext (fun b=>ob v=some b) w K w K'∧Models w K':=by
 obtain ⟨hn,l,hO⟩:=h
 exact ⟨_,hO,⟨qjn hn,fun _ _ _=>rfl,fun b _ hb=>qc3 hb,Nat.le_refl _,rfl,rfl,rfl⟩,hO.models hM⟩
theorem Rw.cells (h:Rw k e w K x v) (hf:k.Flat) (hM:Models w K):Cells k w K x v:=by
 obtain ⟨hn,l,hO⟩:=h
 obtain ⟨A,cap2,h1,h2,h3,h4⟩:=Cells.ofV (hO.models hM) hO.V
 refine ⟨A,cap2,h1,h2,h3,h4.imp id ?_⟩
 rintro ⟨a,m,ha,hR,hc⟩
 exact ⟨a,m,ha,RL.mono (fun _ _=>hf _ _ _ _) hR,hc⟩
theorem Cells.mono (h:Cells k w K y u) (hle:K.le K'):Cells k w K' y u:=by
 obtain ⟨A,cap2,h1,h2,h3,h4⟩:=h
 refine ⟨A,cap2,h1,h2,h3,h4.imp id ?_⟩
 rintro ⟨a,m,ha,hR,hc⟩
 exact ⟨a,m,ha,RL.mono (fun _ _=>k.mono hle) hR,hc⟩
end
section
variable {P:Program} {α:Type} {k:Kd α} {e t:TypeId} {by_:Nat} {w w':World} {K K':Ghost} {X Y:List α} {v u:Value} {ρ:Env}
variable {dst:Option Tmp} {ty:TypeId} {pos:String} {af:Array Edge} {g:Option (Nat×Bool)} {x y z lo hi:Operand} {ik ik':IntKind}
theorem qmj {t1:TypeId} (hM:Models w K) (hx:ev ρ x=v) (hO:Rw k e w K X v) (hy:ev ρ y=u) (hV:Cells k w K Y u) (ht:P.underlying t1=some (.slice e)) (hT:TyOk P e k by_) (hsz:(Nat.blt 0 k.sz && Nat.blt 0 by_)=true) (hlen:(X.length+Y.length) *by_≤140737488355328):
 ∃v' w' K',(execOp (ev ρ) ⟨dst,.call { callee:= .builtin .append,args:= #[x,y],argTypes:= #[t1,t1] },ty,pos,af,g⟩).run P w= .ok (.value v') w'∧Rw k e w' K' (X++Y) v'∧Ext (fun b=>ob v=some b) w K w' K'∧Models w' K'∧(ob v'=ob v∨ob v'=some w.heap.size):=by
 obtain ⟨hn,l,hO⟩:=hO
 obtain ⟨v',w',K2,hr,h1,h2,h3,h4⟩:=qmi (dst:=dst) (ty:=ty) (pos:=pos) (af:=af) (g:=g) (hO.models hM) hx hO hy (hV.mono (qjn hn)) ht hT hsz hlen
 have hE:Ext (fun b=>ob v=some b) w K w' K2:=⟨(qjn hn).trans h2.le,h2.heap,fun b hb hx=>(h2.ghost b hb hx).trans (qc3 hx),h2.size,h2.os,h2.tape,h2.output⟩
 obtain ⟨K',a1,a2,a3⟩:=h1.unk hE h3 (fun g hg=>by
  rcases h4 with h | h
  ·exact hn g (h▸hg)
  ·rw [h] at hg;cases hg;exact hM.none_of_ge (Nat.le_refl _)) (fun g hg hlt=>by
  rcases h4 with h | h
  ·exact h▸hg
  ·rw [h] at hg;cases hg;exact absurd hlt (Nat.lt_irrefl _))
 exact ⟨v',w',K',hr,a1,a2,a3,h4⟩
theorem qp5 (hx:ev ρ x=v) (h:Rw k e w K X v) {t1 te:TypeId} (hu:P.underlying t1=some (.slice te)) {w2:World}:
 (execOp (ev ρ) ⟨dst,.call { callee:= .builtin .len,args:= #[x],argTypes:= #[t1] },ty,pos,af,g⟩).run P w2= .ok (.value (.int .i64 (X.length:Int))) w2:=by
 obtain ⟨hn,l,hO⟩:=h
 exact qdZ hx hO.V hu
theorem qs0 {i:Int} {t1:TypeId} (hx:ev ρ x=v) (h:Rw k e w K X v) (hy:ev ρ y= .int ik i) (hu:P.underlying t1=some (.slice e)) (hT:TyOk P e k by_) (h0:0≤i) (h1:i<(X.length:Int)):
 ∃bl o,(∀w:World,(execOp (ev ρ) ⟨dst,.indexAddr t1 x y,ty,pos,af,g⟩).run P w= .ok (.value (.pointer (some ⟨bl,o,none⟩))) w)∧At v i k.sz bl o:=by
 obtain ⟨hn,l,_,_,h⟩:=h
 rcases h with ⟨A,rfl,rfl⟩ | ⟨gg,cap,c,pre,l2,rfl,hg,hnc,hcm,hcs,hK,hp,hR⟩
 ·simp at h1;omega
 ·cases cap with
  | zero=>omega
  | succ cap=>
    refine ⟨gg,pre.length+i.toNat *k.sz,fun w=>?_,pre.length,_,cap,rfl,rfl,by omega⟩
    unfold execOp
    simp only [hx,hy]
    simp [Instr.indexAt,asIntOf,run_underlying hu,hT.size,h0,h1,qbe]
theorem Rw.pt {i:Int} {bl o:Nat} {l:List Value} [Inhabited α] (h:Own k e w (kset K v e l) X v) (hA:At v i k.sz bl o):k.Pt (kset K v e l) (ix X i) (.pointer (some ⟨bl,o,none⟩)):=by
 obtain ⟨_,_,h⟩:=h
 obtain ⟨o0,n,cap0,rfl,rfl,hi⟩:=hA
 rcases h with ⟨A,hv,rfl⟩ | ⟨gg,cap,c,pre,mid,hv,hg,hnc,hcm,hcs,hK,hp,hR⟩
 ·cases hv
 ·cases hv
  have h1:=hi
  have hlen:=RL.len (fun _ _=>k.len) hR
  have hge:(i.toNat+1) *k.sz≤mid.length:=by rw [hlen];exact Nat.mul_le_mul_right _ h1
  have hadd:(i.toNat+1) *k.sz=i.toNat *k.sz+k.sz:=by rw [Nat.add_mul,Nat.one_mul]
  refine ⟨bl,e,pre++mid.take (i.toNat *k.sz),(mid.drop (i.toNat *k.sz)).take k.sz,mid.drop ((i.toNat+1) *k.sz),?_,?_,?_⟩
  ·rw [List.length_append,List.length_take,Nat.min_eq_left (by omega)]
  ·rw [hK,hadd,←List.drop_drop]
   congr 2
   simp only [List.append_assoc]
   rw [List.take_append_drop,List.take_append_drop]
  ·rw [qaR h1];exact RL.get (fun _ _=>k.len) hR _ h1
def RCut {α:Type} (k:Kd α) (e:TypeId) (w:World) (K:Ghost) (x:List α) (v:Value) (y:List α) (u:Value):Prop:=(∀g,ob v=some g→K g=none)∧∃l,Own k e w (kset K v e l) x v∧(Kd.sl k).V (kset K v e l) y u
theorem RCut.ext {Z:Nat→Prop} (h:RCut k e w K X v Y u) (hE:Ext Z w K w' K') (hX: ∀g,ob v=some g→¬Z g):RCut k e w' K' X v Y u:=by
 obtain ⟨hn,l,hO,hV⟩:=h
 have hlt:=hO.lt
 refine ⟨fun g hg=>?_,l,hO.ext (qcG hE hlt hX) hX,hV.mono (qif hE.le)⟩
 rw [hE.ghost g (hlt g hg) (hX g hg)]
 exact hn g hg
theorem RCut.cells (h:RCut k e w K X v Y u) (hf:k.Flat) (hM:Models w K):Cells k w K Y u:=by
 obtain ⟨hn,l,hO,hV⟩:=h
 obtain ⟨A,cap2,h1,h2,h3,h4⟩:=Cells.ofV (hO.models hM) hV
 refine ⟨A,cap2,h1,h2,h3,h4.imp id ?_⟩
 rintro ⟨a,m,ha,hR,hc⟩
 exact ⟨a,m,ha,RL.mono (fun _ _=>hf _ _ _ _) hR,hc⟩
theorem qua {i:Int} {bl o:Nat} [Inhabited α] {Z:Nat→Prop} (hf:k.Flat) (hM:Models w K) (hx:ev ρ x= .pointer (some ⟨bl,o,none⟩)) (hT:TyOk P t k by_) (h:Rw k e w K X v) (hA:At v i k.sz bl o) (hZ: ∀g,ob v=some g→¬Z g):
 ∃v',(∀w' K',Ext Z w K w' K'→Models w' K'→(execOp (ev ρ) ⟨dst,.load t x,ty,pos,af,g⟩).run P w'= .ok (.value v') w')∧k.V K (ix X i) v':=by
 obtain ⟨hn,l,hO⟩:=h
 obtain ⟨v',hr,cs,hV,hv⟩:=S_ld (dst:=dst) (ty:=ty) (pos:=pos) (af:=af) (g:=g) (Z:=Z) hx hT (Rw.pt hO hA)
 have hlt:=hO.lt
 refine ⟨v',fun w' K' hE hM'=>hr w' (kset K' v e l) (qcG hE hlt hZ) ((hO.ext (qcG hE hlt hZ) hZ).models hM'),cs,hf _ _ _ _ hV,hv⟩
theorem que {i:Int} {bl o:Nat} {Yv:α} (hf:k.Flat) (hM:Models w K) (hx:ev ρ x= .pointer (some ⟨bl,o,none⟩)) (hy:ev ρ y=u) (hV:k.V K Yv u) (hT:TyOk P t k by_) (h:Rw k e w K X v) (hA:At v i k.sz bl o):
 ∃w',(execOp (ev ρ) ⟨dst,.store t x y,ty,pos,af,g⟩).run P w= .ok .skip w'∧Rw k e w' K (X.set i.toNat Yv) v∧Ext (fun b=>ob v=some b) w K w' K∧Models w' K:=by
 obtain ⟨hn,l0,hwf,hlm,h⟩:=h
 obtain ⟨o0,n,cap0,rfl,rfl,h1⟩:=hA
 rcases h with ⟨A,hv,rfl⟩ | ⟨gg,cap,c,pre,l,hv,hg,hnc,hcm,hcs,hK,hp,hR⟩
 ·cases hv
 ·cases hv
  have hKb:K bl=none:=hn bl rfl
  have hc:=hV.cells
  have hlv:=k.len hc
  have hlen:=RL.len (fun _ _=>k.len) hR
  obtain ⟨q,hq⟩:=hp
  have hge:(i.toNat+1) *k.sz≤X.length *k.sz:=Nat.mul_le_mul_right _ h1
  have hge2:X.length *k.sz≤(cap0+1) *k.sz:=Nat.mul_le_mul_right _ hnc
  have hadd:(i.toNat+1) *k.sz=i.toNat *k.sz+k.sz:=by rw [Nat.add_mul,Nat.one_mul]
  have hrun:=run_storeCells_at P bl (pre.length+i.toNat *k.sz) e u.cells.toList 0 c w hg (by
   simp only [Nat.add_zero]
   omega) (k.one hc)
  have e1:c.toList.take (pre.length+i.toNat *k.sz)=pre++l.take (i.toNat *k.sz):=by
   rw [←hq,List.append_assoc,List.take_append,List.take_of_length_le (by omega),show pre.length+i.toNat *k.sz - pre.length=i.toNat *k.sz by omega,List.take_append_of_le_length (by omega)]
  have e2:c.toList.drop (pre.length+i.toNat *k.sz+u.cells.toList.length)=l.drop ((i.toNat+1) *k.sz)++q:=by
   rw [hlv,←hq,List.append_assoc,List.drop_append,List.drop_of_length_le (by omega),List.nil_append,show pre.length+i.toNat *k.sz+k.sz - pre.length=(i.toNat+1) *k.sz by omega,List.drop_append_of_le_length (by omega)]
  simp only [Nat.add_zero,e1,e2] at hrun
  have hsz:u.cells.size=k.sz:=hV.size
  have hf': ∀K1 K2:Ghost,∀ {a b},RL (k.R K1) a b→RL (k.R K2) a b:=fun K1 K2 a b h=>RL.mono (fun _ _=>hf _ _ _ _) h
  have hset:=RL.set (R:=k.R K) (fun _ _=>k.len) hc i.toNat h1 (hf' _ K hR)
  refine ⟨w.setRow bl (pre++l.take (i.toNat *k.sz)++u.cells.toList++(l.drop ((i.toNat+1) *k.sz)++q)).toArray,?_,⟨hn,pre++(l.take (i.toNat *k.sz)++u.cells.toList++l.drop ((i.toNat+1) *k.sz)),fun a ha=>?_,by simpa using hlm,.inr ⟨bl,cap0+1,_,pre,l.take (i.toNat *k.sz)++u.cells.toList++l.drop ((i.toNat+1) *k.sz),by rw [List.length_set],setRow_heap w bl c _ e _ hg,by simpa using hnc,hcm,?_,?_,⟨q,by simp⟩,?_⟩⟩,
   Ext.setRow w K bl _ rfl,hM.setRow hKb _⟩
  ·unfold execOp
   simp only [hx,hy]
   simp [Instr.storeAt,Instr.sureAddr,storeVar,Sem.run_bind,hT.size,hsz]
   have hr2:=hrun
   simp at hr2
   rw [hr2]
   rfl
  ·rcases List.mem_or_eq_of_mem_set ha with h | h
   ·exact hwf a h
   ·rw [h];exact k.hwf hc
  ·have h3:=congrArg List.length hq
   simp only [List.length_append,Array.length_toList] at h3
   simp only [List.size_toArray,List.length_append,List.length_take,List.length_drop,hlv]
   omega
  ·simp [kset,ob]
  ·exact hf' _ _ hset
end
section
variable {P:Program} {n:Nat} {Q:Post} {ops:Array Oper} {rest:List Oper} {o:Oper} {ρ:Env} {w:World} {K:Ghost} {N:Value→World→Prop}
variable {α:Type} {k:Kd α} {e:TypeId}
end
section
variable {P:Program} {n:Nat} {C':Fin'} {ops:Array Oper} {o:Oper} {ρ:Env} {w:World} {K:Ghost} {X:Nat→Prop} {i:Nat}
end
end Go.Inc

set_option linter.unusedVariables false
namespace Go.Inc
open Go Go.RowKit
section
variable {P:Program} {α β:Type} {k:Kd α} {k':Kd β} {t e:TypeId} {by_:Nat}
def EqK (P:Program) (t:TypeId) (k:Kd α) [DecidableEq α] (m:Nat):Prop:=∀(d:Nat) (K:Ghost) (x y:α) (v u:Value) (w:World),k.V K x v→k.V K y u→(Op.equalIn (d+m) t v u).run P w= .ok (decide (x=y)) w
theorem EqK.more [DecidableEq α] {m m':Nat} (h:EqK P t k m) (hm:m≤m'):EqK P t k m':=fun d K x y v u w hv hu=>by
 have:=h (d+(m' - m)) K x y v u w hv hu
 rwa [show d+(m' - m)+m=d+m' by omega] at this
theorem qrp {ik:IntKind} (ht:P.underlying t=some (.int ik)):EqK P t (Kd.int ik) 1:=fun d K x y v u w hv hu=>by
 rw [qbk hv,qbk hu,run_equalIn_int w d t ik ik _ _ ht]
 congr 1
theorem qro {n:Nat} (ht:P.underlying t=some (.array n e)) (he:P.underlying e=some (.int .u8)) (hT:TyOk P e Kd.byte by_):EqK P t (Kd.arr n Kd.byte) 2:=fun d K x y v u w hv hu=>qhm d hv hu ht he hT
def EqF (P:Program) (fs:List Field) (off:Nat) (k:Kd α) [DecidableEq α] (m:Nat):Prop:=∀(d:Nat) (K:Ghost) (x y:α) (pre1 pre2 c1 c2 post1 post2:List Value) (w:World),pre1.length=off→pre2.length=off→k.R K x c1→k.R K y c2→
 (Op.eqFields (d+m) (pre1++c1++post1).toArray (pre2++c2++post2).toArray fs).run P w= .ok (decide (x=y)) w
theorem qrn [DecidableEq α] {f : Field} {off m : Nat} (hT : TyOk P f.type k by_) (ho : Nat.beq f.offset off = true) (hn : f.name ≠ "_") (hE : EqK P f.type k m) : EqF P [f] off k m := fun d K x y p1 p2 c1 c2 q1 q2 w h1 h2 hx hy => by
 have ho:=Nat.eq_of_beq_eq_true ho
 obtain ⟨v,hv,hV⟩:=qdt (P:=P) (c:=(p1++c1++q1).toArray) hT rfl h1 hx
 obtain ⟨u,hu,hU⟩:=qdt (P:=P) (c:=(p2++c2++q2).toArray) hT rfl h2 hy
 simp only [Op.eqFields,hn,ne_eq,not_false_eq_true,if_true,Sem.run_bind,ho,hv,hu,Result.andThen_ok,hE d K x y v u w hV hU]
 cases hd:decide (x=y)<;>simp
theorem qpa [DecidableEq α] [DecidableEq β] {fs : List Field} {f : Field} {off m : Nat} (hT : TyOk P f.type k by_) (ho : Nat.beq f.offset off = true) (hn : f.name ≠ "_") (hE : EqK P f.type k m) (hF : EqF P fs (off + k.sz) k' m) : EqF P (f :: fs) off (Kd.pr k k') m := fun d K x y p1 p2 c1 c2 q1 q2 w h1 h2 hx hy => by
 have ho:=Nat.eq_of_beq_eq_true ho
 obtain ⟨a1,b1,rfl,hxa,hxb⟩:=hx
 obtain ⟨a2,b2,rfl,hya,hyb⟩:=hy
 obtain ⟨v,hv,hV⟩:=qdt (P:=P) (c:=(p1++(a1++b1)++q1).toArray) (mid:=a1) (post:=b1++q1) hT (by simp) h1 hxa
 obtain ⟨u,hu,hU⟩:=qdt (P:=P) (c:=(p2++(a2++b2)++q2).toArray) (mid:=a2) (post:=b2++q2) hT (by simp) h2 hya
 have ih:=hF d K x.2 y.2 (p1++a1) (p2++a2) b1 b2 q1 q2 w (by rw [List.length_append,h1,k.len hxa]) (by rw [List.length_append,h2,k.len hya]) hxb hyb
 have e1:(p1++a1)++b1++q1=p1++(a1++b1)++q1:=by simp
 have e2:(p2++a2)++b2++q2=p2++(a2++b2)++q2:=by simp
 rw [e1,e2] at ih
 rw [Op.eqFields]
 simp only [hn,ne_eq,not_false_eq_true,if_true,Sem.run_bind,ho,hv,hu,Result.andThen_ok,hE d K x.1 y.1 v u w hV hU]
 by_cases hd:x.1=y.1
 ·simp only [hd,decide_true,Bool.not_true,Bool.false_eq_true,if_false,ih]
  congr 1
  simp [Prod.ext_iff,hd]
 ·have: ¬x=y:=fun h=>hd (by rw [h])
  simp [hd,this]
theorem qk9 [DecidableEq α] {fs:Array Field} {m:Nat} (ht:P.underlying t=some (.struct fs)) (hp:P.stoodInHeld t=false) (ha:k.agg=true) (hF:EqF P fs.toList 0 k m):EqK P t k (m+1):=fun d K x y v u w hv hu=>by
 obtain ⟨c1,rfl,h1⟩:=qbV hv ha
 obtain ⟨c2,rfl,h2⟩:=qbV hu ha
 have hfs:P.fieldsOf t=fs:=by simp [Program.fieldsOf,ht]
 rw [show d+(m+1)=(d+m)+1 from rfl,run_equalIn_struct w (d+m) t c1 c2 (by rw [hfs];exact ht) hp,hfs]
 have:=hF d K x y [] [] c1.toList c2.toList [] [] w rfl rfl h1 h2
 simpa using this
end
section
variable {P:Program} {α:Type} {k:Kd α} {t:TypeId} {w:World} {K:Ghost} {ρ:Env} {v u:Value} {a b:α}
variable {dst:Option Tmp} {ty:TypeId} {pos:String} {af:Array Edge} {g:Option (Nat×Bool)} {x y:Operand}
theorem qsC [DecidableEq α] {m:Nat} (hx:ev ρ x=v) (hy:ev ρ y=u) (hv:k.V K a v) (hu:k.V K b u) (ha:k.agg=true) (hE:EqK P t k m) (hm:m≤10000) {t2:TypeId} (hg:P.eqGuardType P.depth t=false):
 (execOp (ev ρ) ⟨dst,.binOp .eql t x y t2,ty,pos,af,g⟩).run P w= .ok (.value (.bool (decide (a=b)))) w:=by
 have h:=hE (10000 - m) K a b v u w hv hu
 rw [show 10000 - m+m=10000 by omega] at h
 obtain ⟨c1,rfl,_⟩:=qbV hv ha
 obtain ⟨c2,rfl,_⟩:=qbV hu ha
 unfold execOp
 simp only [hx,hy]
 simp only [Sem.run_bind,run_eqGuard_agg w _ _ _ _ _ _ hg,Result.andThen_ok,run_eql_struct,h]
 rfl
theorem qsD [DecidableEq α] {m:Nat} (hx:ev ρ x=v) (hy:ev ρ y=u) (hv:k.V K a v) (hu:k.V K b u) (ha:k.agg=true) (hE:EqK P t k m) (hm:m≤10000) {t2:TypeId} (hg:P.eqGuardType P.depth t=false):
 (execOp (ev ρ) ⟨dst,.binOp .neq t x y t2,ty,pos,af,g⟩).run P w= .ok (.value (.bool (decide (a≠b)))) w:=by
 have h:=hE (10000 - m) K a b v u w hv hu
 rw [show 10000 - m+m=10000 by omega] at h
 obtain ⟨c1,rfl,_⟩:=qbV hv ha
 obtain ⟨c2,rfl,_⟩:=qbV hu ha
 unfold execOp
 simp only [hx,hy]
 simp only [Sem.run_bind,run_eqGuard_agg w _ _ _ _ _ _ hg,Result.andThen_ok,run_neq_struct,h]
 simp
theorem Bx.freezeA {n b:Nat} {pre post:List Value} {l:List α} (h:Bx (Kd.arr n k) w K b pre post l) (hM:Models w K) (hn:n≤LM):
 ∃K',Ext (fun c=>c=b) w K w K'∧Models w K'∧(Kd.sl k).V K' l (.slice (some ⟨b,pre.length,none⟩) n n):=by
 obtain ⟨hK,cs,T,hh,hl,hR⟩:=h
 refine ⟨K.set b T (pre++cs++post),⟨Ghost.le_set_new hK _ _,fun _ _ _=>rfl,fun c _ hc=>Ghost.set_other _ _ _ hc,Nat.le_refl _,rfl,rfl,rfl⟩,fun c t' l' hc=>?_,?_⟩
 ·by_cases hcb:c=b
  ·subst hcb
   rw [Ghost.set_same] at hc
   cases hc
   exact ⟨_,_,hh,by simp⟩
  ·rw [Ghost.set_other _ _ _ hcb] at hc
   exact hM c t' l' hc
 ·refine ⟨[.slice (some ⟨b,pre.length,none⟩) n n],⟨some ⟨b,pre.length,none⟩,n,by rw [hl],by omega,by omega,fun y hy=>RL.all (p:=k.wf) (fun _ _=>k.hwf) hR y hy,.inr ⟨b,T,pre,cs,post,rfl,Ghost.set_same _ _ _ _,?_⟩⟩,rfl⟩
  exact RL.mono (fun _ _=>k.mono (Ghost.le_set_new hK _ _)) hR
end
section
variable {P:Program} {n:Nat} {Q:Post} {ρ:Env} {w:World} {c:Code}
def qfq (F:Fence) (P:Program) (c:Code) (Q:Exit→Go.Act→World→Prop) (a:Go.Act) (w:World):Prop:=∀(b:Frame) (k:List Go.Item) (cs:List Frame),b.roundOf=F.round→F.fn b.fn→F.room (cs.length+1+0)→∃e a' w',Q e a' w'∧ArrivesIn (Machine.fenced P F) P (lone (b.atR a (.code c:: .inLoop c::k)) cs w) b k cs e a' w'
theorem qfq.loop {F:Fence} {Q:Exit→Go.Act→World→Prop} {a:Go.Act} (h:qfq F P c Q a w):(Code.loop c).wpIn F 0 P Q a w:=fun b k cs hro hb hr=>by
 obtain ⟨e,a',w',hq,harr⟩:=h b k cs hro hb hr
 exact ⟨e,a',w',hq,.of_steps (.one (fenced_calm hb hr rfl) stepR_loop) harr⟩
theorem qfq.round {F:Fence} {Q:Exit→Go.Act→World→Prop} {a:Go.Act} (h:c.wpIn F 0 P (Exit.then (qfq F P c Q) Q) a w):qfq F P c Q a w:=fun b k cs hro hb hr=>by
 obtain ⟨e,a₁,w₁,hq,harr⟩:=h b (.inLoop c::k) cs hro hb hr
 cases e with
 | normal=>
   obtain ⟨e₂,a₂,w₂,hq₂,harr₂⟩:=hq b k cs hro hb hr
   exact ⟨e₂,a₂,w₂,hq₂,.of_steps (StepsIn.trans harr (.one (fenced_calm hb hr rfl) stepR_inLoop)) harr₂⟩
 | exit id=>exact ⟨_,a₁,w₁,hq,.pass (x:= .inLoop c) rfl (fun _ _=> .inl (by simp)) harr⟩
 | goto l=>exact ⟨_,a₁,w₁,hq,.pass (x:= .inLoop c) rfl (fun _ _=> .inl (by simp)) harr⟩
 | ret=>exact ⟨_,a₁,w₁,hq,.pass (x:= .inLoop c) rfl (fun _ _=> .inl (by simp)) harr⟩
 | panic ch=>exact ⟨_,a₁,w₁,hq,.pass (x:= .inLoop c) rfl (fun _ _=> .inl (by simp)) harr⟩
 | outgrown=>exact ⟨_,a₁,w₁,hq,.pass (x:= .inLoop c) rfl (fun _ _=> .inl (by simp)) harr⟩
def LI (P:Program) (n:Nat) (c:Code) (Q:Post) (ρ:Env) (w:World):Prop:=∀r ds a,Fits n ds ρ a→qfq (fen r) P c (lift n ds Q) a w
theorem qoM (h:LI P n c Q ρ w):WP P n (.loop c) Q ρ w:=fun r ds a ha=>(h r ds a ha).loop
theorem qoy (h:WP P n c (qpJ (LI P n c Q) Q) ρ w):LI P n c Q ρ w:=fun r ds a ha=>by
 refine qfq.round (wpIn_mono (h r ds a ha) ?_)
 rintro e a' w' ⟨ρ',hf,hQ⟩
 cases e with
 | normal=>exact hQ r ds a' hf
 | exit id=>exact ⟨ρ',hf,hQ⟩
 | goto l=>exact ⟨ρ',hf,hQ⟩
 | ret=>exact ⟨ρ',hf,hQ⟩
 | panic ch=>exact ⟨ρ',hf,hQ⟩
 | outgrown=>exact ⟨ρ',hf,hQ⟩
end
end Go.Inc
