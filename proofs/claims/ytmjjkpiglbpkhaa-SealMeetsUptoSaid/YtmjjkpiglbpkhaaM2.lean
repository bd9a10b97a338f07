/- E1, E2, E3, E4, E5, E6, E7, E8, E9, E10. -/
import Derived.Test.YtmjjkpiglbpkhaaM1
set_option linter.unusedVariables false
namespace Go.Inc
open Go Go.RowKit
def Kd.hid (z:Value) (hz:z.oneCell'=true):Kd Unit where
 sz:=1
 agg:=false
 R:=fun _ _ cs=> ∃v,cs=[v]∧v.oneCell'=true
 wf:=fun _=>True
 z:=()
 zc:=[z]
 len:=fun ⟨_,h,_⟩=>by simp [h]
 mono:=fun _ h=>h
 one:=fun ⟨_,h,h2⟩=>by simp [h,h2]
 hwf:=fun _=>trivial
 hz:=fun _=>⟨_,rfl,hz⟩
 hs:=fun _=>rfl
def Kd.vptr:Kd Value where
 sz:=1
 agg:=false
 R:=fun _ v cs=>cs=[v]∧v.oneCell'=true
 wf:=fun _=>True
 z:= .pointer none
 zc:=[.pointer none]
 len:=fun h=>by simp [h.1]
 mono:=fun _ h=>h
 one:=fun h=>by simp [h.1,h.2]
 hwf:=fun _=>trivial
 hz:=fun _=>⟨rfl,rfl⟩
 hs:=fun _=>rfl
inductive Ty where
 | int (k:IntKind) | byte | bool | str | arr (n:Nat) (t:Ty) | sl (t:Ty) | pr (a b:Ty) | st (a:Ty) | un | ptr (t:Ty) | hsl (e:Nat) (t:Ty) | hmp (kk kv:Ty) | hpt | hfn | anm
 deriving DecidableEq
abbrev Ty.den:Ty→Type
 | .int _=>Int
 | .byte=>UInt8
 | .bool=>Bool
 | .str=>List UInt8
 | .arr _ t=>List t.den
 | .sl t=>List t.den
 | .pr a b=>a.den×b.den
 | .st a=>a.den
 | .un=>Unit
 | .ptr t=>Option t.den
 | .hsl _ _=>Unit
 | .hmp _ _=>Unit
 | .hpt=>Unit
 | .hfn=>Unit
 | .anm=>Unit
def Ty.kd:(t:Ty)→Kd t.den
 | .int k=>Kd.int k
 | .byte=>Kd.byte
 | .bool=>Kd.bool
 | .str=>Kd.str
 | .arr n t=>Kd.arr n t.kd
 | .sl t=>Kd.sl t.kd
 | .pr a b=>Kd.pr a.kd b.kd
 | .st a=>Kd.st a.kd
 | .un=>Kd.un
 | .ptr t=>Kd.ptr t.kd
 | .hsl _ _=>Kd.hid (.slice none 0 0) rfl
 | .hmp _ _=>Kd.hid (.map none) rfl
 | .hpt=>Kd.hid (.pointer none) rfl
 | .hfn=>Kd.hid .nilFunc rfl
 | .anm=>Kd.anm
def Ty.dft:(t:Ty)→t.den
 | .int _=>(default:Int)
 | .byte=>(default:UInt8)
 | .bool=>(default:Bool)
 | .str=>([]:List UInt8)
 | .arr _ t=>([]:List t.den)
 | .sl t=>([]:List t.den)
 | .pr a b=>(a.dft,b.dft)
 | .st a=>a.dft
 | .un=>()
 | .ptr t=>(none:Option t.den)
 | .hsl _ _=>()
 | .hmp _ _=>()
 | .hpt=>()
 | .hfn=>()
 | .anm=>()
instance instInhDen (t:Ty):Inhabited t.den:=⟨t.dft⟩
def Ty.cast {a b:Ty} (h:a=b) (x:a.den):b.den:=h▸x
def Ty.deq:(t:Ty)→DecidableEq t.den
 | .int _=>inferInstanceAs (DecidableEq Int)
 | .byte=>inferInstanceAs (DecidableEq UInt8)
 | .bool=>inferInstanceAs (DecidableEq Bool)
 | .str=>inferInstanceAs (DecidableEq (List UInt8))
 | .arr _ t=>have:=t.deq;inferInstanceAs (DecidableEq (List t.den))
 | .sl t=>have:=t.deq;inferInstanceAs (DecidableEq (List t.den))
 | .pr a b=>have:=a.deq;have:=b.deq;inferInstanceAs (DecidableEq (a.den×b.den))
 | .st a=>a.deq
 | .un=>inferInstanceAs (DecidableEq Unit)
 | .ptr t=>have:=t.deq;inferInstanceAs (DecidableEq (Option t.den))
 | .hsl _ _=>inferInstanceAs (DecidableEq Unit)
 | .hmp _ _=>inferInstanceAs (DecidableEq Unit)
 | .hpt=>inferInstanceAs (DecidableEq Unit)
 | .hfn=>inferInstanceAs (DecidableEq Unit)
 | .anm=>inferInstanceAs (DecidableEq Unit)
structure Pth (T t:Ty) where
 off:Nat
 get:T.den→t.den
 put:T.den→t.den→T.den
 cnd:Prop
 ok:cnd→Foc T.kd t.kd off get put
def Pth.id (T:Ty):Pth T T:=⟨0,fun x=>x,fun _ y=>y,True,fun _=>Foc.id _⟩
def Pth.then {A B C:Ty} (p:Pth A B) (q:Pth B C):Pth A C:=⟨p.off+q.off,fun x=>q.get (p.get x),fun x y=>p.put x (q.put (p.get x) y),p.cnd∧q.cnd,fun h=>(p.ok h.1).trans (q.ok h.2)⟩
inductive SVal where
 | lit (ik:IntKind) (n:Int)
 | int (ik:IntKind) (a:Int) (lv:Bool)
 | byt (c:UInt8)
 | bt (b:Bool)
 | bv (b:Bool)
 | boo (p:Prop) (d:Decidable p)
 | nbo (p:Prop) (d:Decidable p)
 | mnb (r:Nat)
 | str (l:List UInt8)
 | val (t:Ty) (x:t.den)
 | own (r:Nat) (t:Ty) (x:List t.den)
 | rw (r:Nat)
 | pt (t:Ty) (x:t.den)
 | box (r:Nat) (T t:Ty) (p:Pth T t)
 | bsl (r:Nat) (n:Nat) (t:Ty) (lo hi:Nat)
 | rpt (r:Nat) (t:Ty) (i:Int)
 | rcut (r:Nat) (t:Ty) (lo hi:Nat)
 | mp (r:Nat)
 | obj (r:Nat)
 | nil | snil | und
 | snl (e:Nat) (t:Ty) (z:Bool)
 | mnil | yld (l:Nat) | any | zer (T:Ty)
 | tup (l:List SVal)
 | agg (l:List SVal)
 | psl (l:List SVal)
 | ppt (v:SVal)
 | fn (f:Nat) (cs:List SVal)
structure Th where
 key:Nat→Value
 fp:Nat→Nat→Prop
 sur:Nat→List Value×List Value
mutual
def SVal.rel (θ:Th) (n:Nat) (K:Ghost):SVal→Value→Prop
 | .lit ik a,v=>v= .int ik a∧(Kd.int ik).wf a
 | .int ik a _,v=>v= .int ik a∧(Kd.int ik).wf a
 | .byt c,v=>v= .int .u8 (bI c)
 | .bt b,v=>v= .bool b
 | .bv b,v=>v= .bool b
 | .boo p d,v=>v= .bool (@decide p d)
 | .nbo p d,v=>v= .bool (!@decide p d)
 | .mnb r,v=>r<n∧∃b,v= .bool b∧(b=true→θ.key r= .map none)∧(b=false→∃q,θ.key r= .map (some q))
 | .str l,v=>v= .string ⟨l.toArray⟩∧l.length≤LM
 | .val t x,v=>t.kd.V K x v
 | .own r t x,v=>r<n∧(Kd.sl t.kd).V K x v∧θ.key r=v
 | .rw r,v=>r<n∧θ.key r=v
 | .pt t x,v=>t.kd.Pt K x v
 | .box r T t p,v=>r<n∧p.cnd∧∃b o,θ.key r= .pointer (some ⟨b,o,none⟩)∧v= .pointer (some ⟨b,o+p.off,none⟩)
 | .bsl r m t lo hi,v=>r<n∧(lo≤hi∧hi≤m∧m≤LM)∧∃b o,θ.key r= .pointer (some ⟨b,o,none⟩)∧v= .slice (some ⟨b,o+lo *t.kd.sz,none⟩) (hi - lo) (m - lo)
 | .rpt r t i,v=>r<n∧∃bl o,At (θ.key r) i t.kd.sz bl o∧v= .pointer (some ⟨bl,o,none⟩)
 | .rcut r t lo hi,v=>r<n∧lo≤hi∧∃A len cap,θ.key r= .slice A len cap∧hi≤len∧v= .slice (if cap=lo then A else A.map (·.add (lo *t.kd.sz))) (hi - lo) (cap - lo)
 | .mp r,v=>r<n∧θ.key r=v
 | .obj r,v=>r<n∧θ.key r=v
 | .nil,v=>v= .pointer none
 | .snil,v=>v= .slice none 0 0
 | .und,v=>v=undef
 | .snl _ _ z,v=> ∃A,v= .slice A 0 0∧(z=true→A=none)
 | .mnil,v=>v= .map none
 | .yld l,v=>v= .func (.yield l) #[] #[]
 | .any,v=>True
 | .zer T,v=>v= .agg T.kd.zc.toArray∧T.kd.agg=true
 | .tup l,v=> ∃vs:List Value,v= .tuple vs.toArray∧SVal.relL θ n K l vs
 | .agg l,v=> ∃vs:List Value,v= .agg vs.toArray∧SVal.relL θ n K l vs∧∀u∈vs,u.oneCell'=true
 | .psl l,v=> ∃vs:List Value,(Kd.sl Kd.vptr).V K vs v∧SVal.relL θ n K l vs
 | .ppt s,v=> ∃u:Value,Kd.vptr.Pt K u v∧SVal.rel θ n K s u
 | .fn f cs,v=> ∃vs:List Value,v= .func (.func f) #[] vs.toArray∧SVal.relL θ n K cs vs
def SVal.relL (θ:Th) (n:Nat) (K:Ghost):List SVal→List Value→Prop
 | [],vs=>vs=[]
 | s::l,vs=> ∃v r,vs=v::r∧SVal.rel θ n K s v∧SVal.relL θ n K l r
end
def Th.upto (θ θ':Th) (n:Nat):Prop:=∀r,r<n→θ'.key r=θ.key r∧θ'.sur r=θ.sur r
theorem Th.upto.refl (θ:Th) (n:Nat):θ.upto θ n:=fun _ _=>⟨rfl,rfl⟩
theorem Th.upto.trans {θ θ' θ'':Th} {n m:Nat} (h:θ.upto θ' n) (h':θ'.upto θ'' m) (hn:n≤m):θ.upto θ'' n:=fun r hr=>⟨(h' r (Nat.lt_of_lt_of_le hr hn)).1.trans (h r hr).1,(h' r (Nat.lt_of_lt_of_le hr hn)).2.trans (h r hr).2⟩
mutual
theorem SVal.rel.mono {θ θ':Th} {n n':Nat} {K K':Ghost} (ht:θ.upto θ' n) (hn:n≤n') (hK:K.le K'): ∀ {s:SVal} {v:Value},SVal.rel θ n K s v→SVal.rel θ' n' K' s v
 | .lit ik a,v,h=>h
 | .int ik a _,v,h=>h
 | .byt c,v,h=>h
 | .bt b,v,h=>h
 | .bv b,v,h=>h
 | .boo p d,v,h=>h
 | .nbo p d,v,h=>h
 | .mnb r,v,h=>⟨Nat.lt_of_lt_of_le h.1 hn,by rw [(ht r h.1).1];exact h.2⟩
 | .str l,v,h=>h
 | .val t x,v,h=>Kd.V.mono h hK
 | .own r t x,v,h=>⟨Nat.lt_of_lt_of_le h.1 hn,h.2.1.mono hK,(ht r h.1).1.trans h.2.2⟩
 | .rw r,v,h=>⟨Nat.lt_of_lt_of_le h.1 hn,(ht r h.1).1.trans h.2⟩
 | .pt t x,v,h=>Kd.Pt.mono h hK
 | .box r T t p,v,h=>⟨Nat.lt_of_lt_of_le h.1 hn,by rw [(ht r h.1).1];exact h.2⟩
 | .bsl r m t lo hi,v,h=>⟨Nat.lt_of_lt_of_le h.1 hn,by rw [(ht r h.1).1];exact h.2⟩
 | .rpt r t i,v,h=>⟨Nat.lt_of_lt_of_le h.1 hn,by rw [(ht r h.1).1];exact h.2⟩
 | .rcut r t lo hi,v,h=>⟨Nat.lt_of_lt_of_le h.1 hn,by rw [(ht r h.1).1];exact h.2⟩
 | .mp r,v,h=>⟨Nat.lt_of_lt_of_le h.1 hn,(ht r h.1).1.trans h.2⟩
 | .obj r,v,h=>⟨Nat.lt_of_lt_of_le h.1 hn,(ht r h.1).1.trans h.2⟩
 | .nil,v,h=>h
 | .snil,v,h=>h
 | .und,v,h=>h
 | .snl _ _ _,v,h=>h
 | .mnil,v,h=>h
 | .yld l,v,h=>h
 | .any,v,h=>h
 | .zer _,v,h=>h
 | .tup l,v,⟨vs,hv,h⟩=>⟨vs,hv,SVal.relL.mono ht hn hK h⟩
 | .agg l,v,⟨vs,hv,h,h2⟩=>⟨vs,hv,SVal.relL.mono ht hn hK h,h2⟩
 | .psl l,v,⟨vs,hv,h⟩=>⟨vs,Kd.V.mono hv hK,SVal.relL.mono ht hn hK h⟩
 | .ppt s,v,⟨u,hp,h⟩=>⟨u,Kd.Pt.mono hp hK,SVal.rel.mono ht hn hK h⟩
 | .fn f cs,v,⟨vs,hv,h⟩=>⟨vs,hv,SVal.relL.mono ht hn hK h⟩
theorem SVal.relL.mono {θ θ':Th} {n n':Nat} {K K':Ghost} (ht:θ.upto θ' n) (hn:n≤n') (hK:K.le K'): ∀ {l:List SVal} {vs:List Value},SVal.relL θ n K l vs→SVal.relL θ' n' K' l vs
 | [],vs,h=>h
 | s::l,vs,⟨v,r,e,h1,h2⟩=>⟨v,r,e,SVal.rel.mono ht hn hK h1,SVal.relL.mono ht hn hK h2⟩
end
mutual
def SVal.bd (n:Nat):SVal→Prop
 | .mnb r=>r<n
 | .own r _ _=>r<n
 | .rw r=>r<n
 | .box r _ _ _=>r<n
 | .bsl r _ _ _ _=>r<n
 | .rpt r _ _=>r<n
 | .rcut r _ _ _=>r<n
 | .mp r=>r<n
 | .obj r=>r<n
 | .tup l=>SVal.bdL n l
 | .agg l=>SVal.bdL n l
 | .psl l=>SVal.bdL n l
 | .ppt s=>SVal.bd n s
 | .fn _ l=>SVal.bdL n l
 | _=>True
def SVal.bdL (n:Nat):List SVal→Prop
 | []=>True
 | s::l=>SVal.bd n s∧SVal.bdL n l
end
mutual
theorem SVal.rel.bd {θ:Th} {n:Nat} {K:Ghost}: ∀ {s:SVal} {v:Value},SVal.rel θ n K s v→s.bd n
 | .mnb r,v,h=>h.1
 | .own r _ _,v,h=>h.1
 | .rw r,v,h=>h.1
 | .box r _ _ _,v,h=>h.1
 | .bsl r _ _ _ _,v,h=>h.1
 | .rpt r _ _,v,h=>h.1
 | .rcut r _ _ _,v,h=>h.1
 | .mp r,v,h=>h.1
 | .obj r,v,h=>h.1
 | .tup l,v,⟨vs,_,h⟩=>SVal.relL.bd h
 | .agg l,v,⟨vs,_,h,_⟩=>SVal.relL.bd h
 | .psl l,v,⟨vs,_,h⟩=>SVal.relL.bd h
 | .ppt s,v,⟨u,_,h⟩=>SVal.rel.bd (s:=s) h
 | .fn _ l,v,⟨vs,_,h⟩=>SVal.relL.bd h
 | .lit _ _,v,h=>trivial
 | .int _ _ _,v,h=>trivial
 | .byt _,v,h=>trivial
 | .bt _,v,h=>trivial
 | .bv _,v,h=>trivial
 | .boo _ _,v,h=>trivial
 | .nbo _ _,v,h=>trivial
 | .str _,v,h=>trivial
 | .val _ _,v,h=>trivial
 | .pt _ _,v,h=>trivial
 | .nil,v,h=>trivial
 | .snil,v,h=>trivial
 | .und,v,h=>trivial
 | .snl _ _ _,v,h=>trivial
 | .mnil,v,h=>trivial
 | .yld l,v,h=>trivial
 | .any,v,h=>trivial
 | .zer _,v,h=>trivial
theorem SVal.relL.bd {θ:Th} {n:Nat} {K:Ghost}: ∀ {l:List SVal} {vs:List Value},SVal.relL θ n K l vs→SVal.bdL n l
 | [],vs,h=>trivial
 | s::l,vs,⟨v,r,e,h1,h2⟩=>⟨SVal.rel.bd h1,SVal.relL.bd h2⟩
end
mutual
theorem SVal.rel.low {θ θ':Th} {n n':Nat} {K:Ghost} (ht: ∀r,r<n'→θ'.key r=θ.key r): ∀ {s:SVal} {v:Value},SVal.rel θ n K s v→s.bd n'→SVal.rel θ' n' K s v
 | .lit ik a,v,h,_=>h
 | .int ik a _,v,h,_=>h
 | .byt c,v,h,_=>h
 | .bt b,v,h,_=>h
 | .bv b,v,h,_=>h
 | .boo p d,v,h,_=>h
 | .nbo p d,v,h,_=>h
 | .mnb r,v,h,b=>⟨b,by rw [ht r b];exact h.2⟩
 | .str l,v,h,_=>h
 | .val t x,v,h,_=>h
 | .own r t x,v,h,b=>⟨b,h.2.1,(ht r b).trans h.2.2⟩
 | .rw r,v,h,b=>⟨b,(ht r b).trans h.2⟩
 | .pt t x,v,h,_=>h
 | .box r T t p,v,h,b=>⟨b,by rw [ht r b];exact h.2⟩
 | .bsl r m t lo hi,v,h,b=>⟨b,by rw [ht r b];exact h.2⟩
 | .rpt r t i,v,h,b=>⟨b,by rw [ht r b];exact h.2⟩
 | .rcut r t lo hi,v,h,b=>⟨b,by rw [ht r b];exact h.2⟩
 | .mp r,v,h,b=>⟨b,(ht r b).trans h.2⟩
 | .obj r,v,h,b=>⟨b,(ht r b).trans h.2⟩
 | .nil,v,h,_=>h
 | .snil,v,h,_=>h
 | .und,v,h,_=>h
 | .snl _ _ _,v,h,_=>h
 | .mnil,v,h,_=>h
 | .yld l,v,h,_=>h
 | .any,v,h,_=>h
 | .zer _,v,h,_=>h
 | .tup l,v,⟨vs,hv,h⟩,b=>⟨vs,hv,SVal.relL.low ht h b⟩
 | .agg l,v,⟨vs,hv,h,h2⟩,b=>⟨vs,hv,SVal.relL.low ht h b,h2⟩
 | .psl l,v,⟨vs,hv,h⟩,b=>⟨vs,hv,SVal.relL.low ht h b⟩
 | .ppt s,v,⟨u,hp,h⟩,b=>⟨u,hp,SVal.rel.low ht h b⟩
 | .fn f cs,v,⟨vs,hv,h⟩,b=>⟨vs,hv,SVal.relL.low ht h b⟩
theorem SVal.relL.low {θ θ':Th} {n n':Nat} {K:Ghost} (ht: ∀r,r<n'→θ'.key r=θ.key r): ∀ {l:List SVal} {vs:List Value},SVal.relL θ n K l vs→SVal.bdL n' l→SVal.relL θ' n' K l vs
 | [],vs,h,_=>h
 | s::l,vs,⟨v,r,e,h1,h2⟩,b=>⟨v,r,e,SVal.rel.low ht h1 b.1,SVal.relL.low ht h2 b.2⟩
end
inductive Res where
 | bx (t:Ty) (x:t.den) (ps:List (Nat×Nat))
 | ow (e:Nat) (t:Ty) (x:List t.den)
 | rw (e:Nat) (t:Ty) (x:List t.den)
 | mp (kk kv:Ty) (m:List (kk.den×kv.den)) (nn:Bool)
 | bk (e:Nat) (x:qav)
 | cl (N:Nat) (l:Option (List SVal))
def Res.sat (θ:Th) (r n:Nat) (w:World) (K:Ghost):Res→Prop
 | .bx t x ps=> ∃b:Nat,θ.key r= .pointer (some ⟨b,(θ.sur r).1.length,none⟩)∧(∀g,θ.fp r g↔g=b)∧Bx t.kd w K b (θ.sur r).1 (θ.sur r).2 x∧∀p∈ps,p.2<n∧w.cell? ⟨b,(θ.sur r).1.length+p.1,none⟩=some (θ.key p.2)
 | .ow e t x=>Own t.kd e w K x (θ.key r)∧∀g,θ.fp r g↔ob (θ.key r)=some g
 | .rw e t x=>Rw t.kd e w K x (θ.key r)∧∀g,θ.fp r g↔ob (θ.key r)=some g
 | .mp kk kv m nn=>Mp kk.kd kv.kd w K m (θ.key r)∧(∀g,θ.fp r g↔mb (θ.key r)=some g)∧(nn=true→∃b,θ.key r= .map (some b))
 | .bk e x=>qaJ e w K (θ.key r) (θ.fp r) x
 | .cl N l=> ∃(b:Nat) (vs:List Value),θ.key r= .pointer (some ⟨b,0,none⟩)∧(∀g,θ.fp r g↔g=b)∧Bx (Kd.arr N Kd.vptr) w K b [] [] vs∧∀l',l=some l'→SVal.relL θ n K l' vs
theorem qgh {X:Nat→Prop} {w w':World} {K K':Ghost} (hE:Ext X w K w' K') {b o:Nat} (hb:b<w.heap.size) (hX: ¬X b):w'.cell? ⟨b,o,none⟩=w.cell? ⟨b,o,none⟩:=by
 unfold World.cell?
 rw [hE.heap b hb hX]
theorem Res.sat.lt {θ:Th} {r n:Nat} {w:World} {K:Ghost}: ∀ {R:Res},R.sat θ r n w K→∀g,θ.fp r g→g<w.heap.size
 | .bx t x ps,⟨b,hk,hf,hB,hp⟩,g,hg=>by rw [(hf g).1 hg];exact hB.lt
 | .ow e t x,h,g,hg=>h.1.lt g ((h.2 g).1 hg)
 | .rw e t x,h,g,hg=>h.1.lt g ((h.2 g).1 hg)
 | .mp kk kv m nn,h,g,hg=>h.1.lt g ((h.2.1 g).1 hg)
 | .bk e x,h,g,hg=>qaJ.lt h g hg
 | .cl N l,⟨b,vs,hk,hf,hB,_⟩,g,hg=>by rw [(hf g).1 hg];exact hB.lt
theorem Res.sat.ext {θ θ':Th} {r n n':Nat} {w w':World} {K K':Ghost} {X:Nat→Prop} (ht:θ.upto θ' n) (hr:r<n) (hf:θ'.fp r=θ.fp r) (hn:n≤n') (hE:Ext X w K w' K') (hX: ∀g,θ.fp r g→¬X g): ∀ {R:Res},R.sat θ r n w K→R.sat θ' r n' w' K'
 | .bx t x ps,⟨b,hk,hfb,hB,hp⟩=>by
   have hXb: ¬X b:=hX b ((hfb b).2 rfl)
   refine ⟨b,by rw [(ht r hr).1,(ht r hr).2];exact hk,by rw [hf];exact hfb,by rw [(ht r hr).2];exact hB.ext hE hXb,fun p hpm=>⟨Nat.lt_of_lt_of_le (hp p hpm).1 hn,?_⟩⟩
   rw [(ht r hr).2,qgh hE hB.lt hXb,(ht _ (hp p hpm).1).1]
   exact (hp p hpm).2
 | .ow e t x,h=>by
   refine ⟨?_,?_⟩
   ·rw [(ht r hr).1];exact h.1.ext hE (fun g hg=>hX g ((h.2 g).2 hg))
   ·rw [hf,(ht r hr).1];exact h.2
 | .rw e t x,h=>by
   refine ⟨?_,?_⟩
   ·rw [(ht r hr).1];exact h.1.ext hE (fun g hg=>hX g ((h.2 g).2 hg))
   ·rw [hf,(ht r hr).1];exact h.2
 | .mp kk kv m nn,h=>by
   refine ⟨?_,?_,?_⟩
   ·rw [(ht r hr).1];exact h.1.ext hE (fun g hg=>hX g ((h.2.1 g).2 hg))
   ·rw [hf,(ht r hr).1];exact h.2.1
   ·rw [(ht r hr).1];exact h.2.2
 | .bk e x,h=>by
   show qaJ e w' K' (θ'.key r) (θ'.fp r) x
   rw [hf,(ht r hr).1]
   exact qaJ.ext h hE hX
 | .cl N l,⟨b,vs,hk,hfb,hB,hl⟩=>by
   have hXb: ¬X b:=hX b ((hfb b).2 rfl)
   exact ⟨b,vs,by rw [(ht r hr).1];exact hk,by rw [hf];exact hfb,hB.ext hE hXb,fun l' e=>SVal.relL.mono ht hn hE.le (hl l' e)⟩
inductive Org where
 | new | par (j:Nat) | ro
 deriving DecidableEq
structure RE where
 r:Res
 org:Org
 lk:Bool
structure St where
 env:Nat→Option SVal
 res:Nat→Option RE
 nx:Nat
structure Glob where
 w0:World
 K0:Ghost
 X:Nat→Prop
 F0:Nat→Nat→Prop
 hX: ∀j g,F0 j g→X g
 Kb:Ghost
 θb:Th
 nb:Nat
 frz:Nat→Option RE
def Org.ok (G:Glob) (f:Nat→Prop):Org→Prop
 | .new=> ∀g,f g→G.w0.heap.size≤g
 | .par j=> ∀g,f g→G.F0 j g∨G.w0.heap.size≤g
 | .ro=>True
structure Rel (G:Glob) (s:St) (θ:Th) (ρ:Env) (w:World) (K:Ghost):Prop where
 mod:Models w K
 ext:Ext G.X G.w0 G.K0 w K
 kle:G.Kb.le K
 old:G.θb.upto θ G.nb
 nbx:G.nb≤s.nx
 frz: ∀r e,G.frz r=some e→s.res r=some e∧θ.fp r=G.θb.fp r
 env: ∀t v,s.env t=some v→v.rel θ s.nx K (ρ t)
 res: ∀r e,s.res r=some e→r<s.nx∧e.r.sat θ r s.nx w K∧e.org.ok G (θ.fp r)
 sep: ∀r r' e e',s.res r=some e→s.res r'=some e'→r≠r'→∀g,θ.fp r g→¬θ.fp r' g
end Go.Inc

set_option linter.unusedVariables false
namespace Go.Inc
open Go Go.RowKit
def St.put (s:St) (q:Nat) (e:RE):St:={ s with res:=fun r=>bif Nat.beq r q then some e else s.res r }
def St.del (s:St) (q:Nat):St:={ s with res:=fun r=>bif Nat.beq r q then none else s.res r }
def St.add (s:St) (e:RE):St:={ s with res:=fun r=>bif Nat.beq r s.nx then some e else s.res r,nx:=s.nx+1 }
def St.set (s:St) (d:Nat) (v:SVal):St:={ s with env:=fun t=>bif Nat.beq t d then some v else s.env t }
def St.setO (s:St):Option Nat→SVal→St
 | some d,v=>s.set d v
 | none,_=>s
def St.unset (s:St) (d:Nat):St:={ s with env:=fun t=>bif Nat.beq t d then none else s.env t }
def St.unsetO (s:St):Option Nat→St
 | some d=>s.unset d
 | none=>s
def Th.set (θ:Th) (q:Nat) (v:Value) (F:Nat→Prop) (u:List Value×List Value):Th:=⟨fun r=>bif Nat.beq r q then v else θ.key r,fun r=>bif Nat.beq r q then F else θ.fp r,fun r=>bif Nat.beq r q then u else θ.sur r⟩
theorem qbA {a b:Nat} (h:a≠b):Nat.beq a b=false:=by
 cases hb:Nat.beq a b with
 | true=>exact absurd (Nat.eq_of_beq_eq_true hb) h
 | false=>rfl
section
variable {θ:Th} {q r n:Nat} {v:Value} {F:Nat→Prop} {s:St} {e:RE} {u:List Value×List Value}
theorem Th.set_key:(θ.set q v F u).key q=v:=by simp [Th.set]
theorem Th.set_fp:(θ.set q v F u).fp q=F:=by simp [Th.set]
theorem Th.set_key_ne (h:r≠q):(θ.set q v F u).key r=θ.key r:=by simp [Th.set,qbA h]
theorem Th.set_fp_ne (h:r≠q):(θ.set q v F u).fp r=θ.fp r:=by simp [Th.set,qbA h]
theorem Th.set_sur:(θ.set q v F u).sur q=u:=by simp [Th.set]
theorem Th.set_sur_ne (h:r≠q):(θ.set q v F u).sur r=θ.sur r:=by simp [Th.set,qbA h]
theorem Th.set_upto (h:n≤q):θ.upto (θ.set q v F u) n:=fun r hr=>⟨Th.set_key_ne (by omega),Th.set_sur_ne (by omega)⟩
theorem Th.set_upto' (h:v=θ.key q) (h':u=θ.sur q):θ.upto (θ.set q v F u) n:=fun r hr=>by
 by_cases he:r=q
 ·subst he;rw [Th.set_key,Th.set_sur];exact ⟨h,h'⟩
 ·exact ⟨Th.set_key_ne he,Th.set_sur_ne he⟩
theorem St.put_same:(s.put q e).res q=some e:=by simp [St.put]
theorem St.put_ne (h:r≠q):(s.put q e).res r=s.res r:=by simp [St.put,qbA h]
theorem St.del_same:(s.del q).res q=none:=by simp [St.del]
theorem St.del_ne (h:r≠q):(s.del q).res r=s.res r:=by simp [St.del,qbA h]
theorem St.add_same:(s.add e).res s.nx=some e:=by simp [St.add]
theorem St.add_ne (h:r≠s.nx):(s.add e).res r=s.res r:=by simp [St.add,qbA h]
end
def RE.free (e:RE):Prop:=e.lk=false∧e.org≠ .ro
structure Glob.fine (G:Glob):Prop where
 lk: ∀r e,G.frz r=some e→e.lk=true
section
variable {G:Glob} {s s':St} {θ θ':Th} {ρ:Env} {w w':World} {K K':Ghost}
theorem Org.turn {o:Org} {f:Nat→Prop} (h:o.ok G f) (ho:o≠ .ro) {g:Nat} (hg:f g) (hlt:g<G.w0.heap.size):G.X g:=by
 cases o with
 | new=>exact absurd hlt (Nat.not_lt.2 (h g hg))
 | par j=>rcases h g hg with h | h
          ·exact G.hX j g h
          ·exact absurd hlt (Nat.not_lt.2 h)
 | ro=>exact absurd rfl ho
theorem Rel.step (h:Rel G s θ ρ w K) (hG:G.fine) {T:Nat→Prop}
 (hT: ∀r,T r→∃e,s.res r=some e∧e.free) (hE:Ext (fun g=> ∃r,T r∧θ.fp r g) w K w' K') (hM:Models w' K')
 (hn:s.nx≤s'.nx) (ht:θ.upto θ' s.nx) (henv:s'.env=s.env)
 (hkeep: ∀r e,s'.res r=some e→r<s.nx→¬T r→s.res r=some e∧θ'.fp r=θ.fp r)
 (hlk: ∀r e,s.res r=some e→e.lk=true→s'.res r=some e)
 (hnew: ∀r e,s'.res r=some e→(T r∨s.nx≤r)→r<s'.nx∧e.r.sat θ' r s'.nx w' K'∧e.org.ok G (θ'.fp r)∧∀g,θ'.fp r g→(∃q,T q∧θ.fp q g)∨w.heap.size≤g)
 (hsep: ∀r r' e e',s'.res r=some e→s'.res r'=some e'→(T r∨s.nx≤r)→(T r'∨s.nx≤r')→r≠r'→∀g,θ'.fp r g→¬θ'.fp r' g):Rel G s' θ' ρ w' K':=by
 classical
 have notC: ∀ {r},¬(T r∨s.nx≤r)→r<s.nx∧¬T r:=fun {r} h=>⟨Nat.lt_of_not_le fun hh=>h (.inr hh),fun hh=>h (.inl hh)⟩
 have hcross: ∀r r' e e',s'.res r=some e→s'.res r'=some e'→¬(T r∨s.nx≤r)→(T r'∨s.nx≤r')→∀g,θ'.fp r g→¬θ'.fp r' g:=fun r r' e e' h1 h2 hc hc' g hg hg'=>by
  obtain ⟨c1,c2⟩:=notC hc
  obtain ⟨k1,k3⟩:=hkeep r e h1 c1 c2
  rw [k3] at hg
  rcases (hnew r' e' h2 hc').2.2.2 g hg' with ⟨q,hq,hqg⟩ | hge
  ·obtain ⟨eq,hqr,_⟩:=hT q hq
   exact h.sep r q e eq k1 hqr (fun he=>c2 (he▸hq)) g hg hqg
  ·exact absurd ((h.res r e k1).2.1.lt g hg) (Nat.not_lt.2 hge)
 refine ⟨hM,h.ext.comp hE ?_,h.kle.trans hE.le,h.old.trans ht h.nbx,Nat.le_trans h.nbx hn,?_,?_,?_,?_⟩
 ·rintro g ⟨r,hr,hg⟩ hlt
  obtain ⟨e,he,hf⟩:=hT r hr
  exact Org.turn (h.res r e he).2.2 hf.2 hg hlt
 ·intro r e hr
  obtain ⟨f1,f2⟩:=h.frz r e hr
  have hl:=hG.lk r e hr
  have hs:=hlk r e f1 hl
  have hnT: ¬T r:=fun ht=>by
   obtain ⟨e',he',hf⟩:=hT r ht
   rw [f1] at he'
   cases he'
   rw [hf.1] at hl
   cases hl
  exact ⟨hs,(hkeep r e hs (h.res r e f1).1 hnT).2.trans f2⟩
 ·intro t v hv
  rw [henv] at hv
  exact (h.env t v hv).mono ht hn hE.le
 ·intro r e hr
  by_cases hc:T r∨s.nx≤r
  ·obtain ⟨h1,h2,h3,h4⟩:=hnew r e hr hc
   exact ⟨h1,h2,h3⟩
  ·obtain ⟨c1,c2⟩:=notC hc
   obtain ⟨k1,k3⟩:=hkeep r e hr c1 c2
   obtain ⟨r1,r2,r3⟩:=h.res r e k1
   refine ⟨Nat.lt_of_lt_of_le r1 hn,r2.ext ht r1 k3 hn hE ?_,by rw [k3];exact r3⟩
   rintro g hg ⟨q,hq,hqg⟩
   obtain ⟨eq,hqr,_⟩:=hT q hq
   exact h.sep r q e eq k1 hqr (fun he=>c2 (he▸hq)) g hg hqg
 ·intro r r' e e' h1 h2 hne g hg hg'
  by_cases hc:T r∨s.nx≤r<;>by_cases hc':T r'∨s.nx≤r'
  ·exact hsep r r' e e' h1 h2 hc hc' hne g hg hg'
  ·exact hcross r' r e' e h2 h1 hc' hc g hg' hg
  ·exact hcross r r' e e' h1 h2 hc hc' g hg hg'
  ·obtain ⟨c1,c2⟩:=notC hc
   obtain ⟨c3,c4⟩:=notC hc'
   obtain ⟨k1,k3⟩:=hkeep r e h1 c1 c2
   obtain ⟨k4,k6⟩:=hkeep r' e' h2 c3 c4
   rw [k3] at hg
   rw [k6] at hg'
   exact h.sep r r' e e' k1 k4 hne g hg hg'
theorem Rel.stay (h:Rel G s θ ρ w K) (hG:G.fine) (hE:Ext NX w K w' K') (hM:Models w' K'):Rel G s θ ρ w' K':=by
 have no: ∀r e,s.res r=some e→¬(False∨s.nx≤r):=fun r e hr hh=>hh.elim (fun h=>h) (fun hh=>absurd (h.res r e hr).1 (by omega))
 exact h.step hG (T:=fun _=>False) (fun _ h=>h.elim) (hE.weak fun _ _ h=>h.elim) hM (Nat.le_refl _) (Th.upto.refl _ _) rfl (fun r e hr _ _=>⟨hr,rfl⟩) (fun r e hr _=>hr) (fun r e hr hc=>absurd hc (no r e hr)) (fun r r' e e' hr _ hc _=>absurd hc (no r e hr))
theorem Rel.add (h:Rel G s θ ρ w K) (hG:G.fine) (hE:Ext NX w K w' K') (hM:Models w' K') {R:Res} {v:Value} {F:Nat→Prop} {u:List Value×List Value} (hs:R.sat (θ.set s.nx v F u) s.nx (s.nx+1) w' K') (hF: ∀g,F g→w.heap.size≤g):
 Rel G (s.add ⟨R,.new,false⟩) (θ.set s.nx v F u) ρ w' K':=by
 have pos: ∀r e,(s.add ⟨R,.new,false⟩).res r=some e→(False∨s.nx≤r)→r=s.nx:=fun r e hr hc=>by
  by_cases he:r=s.nx
  ·exact he
  ·rw [St.add_ne he] at hr
   exact absurd (h.res r e hr).1 (by rcases hc with hc | hc;exact hc.elim;omega)
 refine h.step hG (T:=fun _=>False) (fun _ h=>h.elim) (hE.weak fun _ _ h=>h.elim) hM (Nat.le_succ _) (Th.set_upto (Nat.le_refl _)) rfl ?_ ?_ ?_ ?_
 ·intro r e hr hc _
  rw [St.add_ne (Nat.ne_of_lt hc)] at hr
  exact ⟨hr,Th.set_fp_ne (Nat.ne_of_lt hc)⟩
 ·intro r e hr _
  rw [St.add_ne (Nat.ne_of_lt (h.res r e hr).1)]
  exact hr
 ·intro r e hr hc
  obtain rfl:=pos r e hr hc
  rw [St.add_same] at hr
  cases hr
  refine ⟨Nat.lt_succ_self _,hs,?_,?_⟩
  ·show ∀g,(θ.set s.nx v F u).fp s.nx g→_
   rw [Th.set_fp]
   exact fun g hg=>Nat.le_trans h.ext.size (hF g hg)
  ·rw [Th.set_fp]
   exact fun g hg=> .inr (hF g hg)
 ·intro r r' e e' hr hr' hc hc' hne
  exact absurd ((pos r e hr hc).trans (pos r' e' hr' hc').symm) hne
theorem qgw {o:Org} {f f':Nat→Prop} (h:o.ok G f) (hw:G.w0.heap.size≤w.heap.size) (hs: ∀g,f' g→f g∨w.heap.size≤g):o.ok G f':=by
 cases o with
 | new=>exact fun g hg=>(hs g hg).elim (h g) (Nat.le_trans hw)
 | par j=>exact fun g hg=>(hs g hg).elim (h g) (fun hx=> .inr (Nat.le_trans hw hx))
 | ro=>trivial
theorem Rel.put (h:Rel G s θ ρ w K) (hG:G.fine) {q:Nat} {e:RE} (hq:s.res q=some e) (hf:e.free) (hE:Ext (θ.fp q) w K w' K') (hM:Models w' K') {R:Res} {F:Nat→Prop} (hs:R.sat (θ.set q (θ.key q) F (θ.sur q)) q s.nx w' K') (hF: ∀g,F g→θ.fp q g∨w.heap.size≤g):
 Rel G (s.put q { e with r:=R }) (θ.set q (θ.key q) F (θ.sur q)) ρ w' K':=by
 have pos: ∀r e',(s.put q { e with r:=R }).res r=some e'→(r=q∨s.nx≤r)→r=q:=fun r e' hr hc=>by
  by_cases he:r=q
  ·exact he
  ·rw [St.put_ne he] at hr
   exact absurd (h.res r e' hr).1 (by rcases hc with hc | hc;exact absurd hc he;omega)
 refine h.step hG (T:=fun r=>r=q) (fun r hr=>⟨e,hr▸hq,hf⟩) (hE.weak fun g _ hg=>⟨q,rfl,hg⟩) hM (Nat.le_refl _) (Th.set_upto' rfl rfl) rfl ?_ ?_ ?_ ?_
 ·intro r e hr _ hc
  rw [St.put_ne hc] at hr
  exact ⟨hr,Th.set_fp_ne hc⟩
 ·intro r e' hr hl
  by_cases hc:r=q
  ·subst hc
   rw [hq] at hr
   cases hr
   rw [hf.1] at hl
   cases hl
  ·rw [St.put_ne hc];exact hr
 ·intro r e' hr hc
  obtain rfl:=pos r e' hr hc
  rw [St.put_same] at hr
  cases hr
  refine ⟨(h.res _ _ hq).1,hs,?_,?_⟩
  ·rw [Th.set_fp]
   exact qgw (h.res _ _ hq).2.2 h.ext.size hF
  ·rw [Th.set_fp]
   exact fun g hg=>(hF g hg).elim (fun hx=> .inl ⟨_,rfl,hx⟩) .inr
 ·intro r r' e e' hr hr' hc hc' hne
  exact absurd ((pos r e hr hc).trans (pos r' e' hr' hc').symm) hne
theorem Rel.del (h:Rel G s θ ρ w K) (hG:G.fine) {q:Nat} {e:RE} (hq:s.res q=some e) (hf:e.free) (hE:Ext (θ.fp q) w K w' K') (hM:Models w' K'):Rel G (s.del q) θ ρ w' K':=by
 have no: ∀r e',(s.del q).res r=some e'→¬(r=q∨s.nx≤r):=fun r e' hr hc=>by
  by_cases he:r=q
  ·subst he
   rw [St.del_same] at hr
   cases hr
  ·rw [St.del_ne he] at hr
   exact absurd (h.res r e' hr).1 (by rcases hc with hc | hc;exact absurd hc he;omega)
 refine h.step hG (T:=fun r=>r=q) (fun r hr=>⟨e,hr▸hq,hf⟩) (hE.weak fun g _ hg=>⟨q,rfl,hg⟩) hM (Nat.le_refl _) (Th.upto.refl _ _) rfl ?_ ?_ (fun r e hr hc=>absurd hc (no r e hr)) (fun r r' e e' hr _ hc _=>absurd hc (no r e hr))
 ·intro r e hr _ hc
  rw [St.del_ne hc] at hr
  exact ⟨hr,rfl⟩
 ·intro r e' hr hl
  by_cases hc:r=q
  ·subst hc
   rw [hq] at hr
   cases hr
   rw [hf.1] at hl
   cases hl
  ·rw [St.del_ne hc];exact hr
theorem Rel.mv (h:Rel G s θ ρ w K) (hG:G.fine) {q:Nat} {e:RE} (hq:s.res q=some e) (hf:e.free) (hE:Ext (θ.fp q) w K w' K') (hM:Models w' K') {R:Res} {v:Value} {F:Nat→Prop} {u:List Value×List Value} (hs:R.sat (θ.set s.nx v F u) s.nx (s.nx+1) w' K') (hF: ∀g,F g→θ.fp q g∨w.heap.size≤g):
 Rel G ((s.del q).add { e with r:=R }) (θ.set s.nx v F u) ρ w' K':=by
 have hlt:=(h.res _ _ hq).1
 have same:((s.del q).add { e with r:=R }).res s.nx=some { e with r:=R }:=St.add_same (s:=s.del q)
 have pos: ∀r e',((s.del q).add { e with r:=R }).res r=some e'→(r=q∨s.nx≤r)→r=s.nx:=fun r e' hr hc=>by
  by_cases he:r=s.nx
  ·exact he
  ·have he':r≠(s.del q).nx:=he
   rw [St.add_ne he'] at hr
   by_cases hrq:r=q
   ·subst hrq
    rw [St.del_same] at hr
    cases hr
   ·rw [St.del_ne hrq] at hr
    exact absurd (h.res r e' hr).1 (by rcases hc with hc | hc;exact absurd hc hrq;omega)
 refine h.step hG (T:=fun r=>r=q) (fun r hr=>⟨e,hr▸hq,hf⟩) (hE.weak fun g _ hg=>⟨q,rfl,hg⟩) hM (Nat.le_succ _) (Th.set_upto (Nat.le_refl _)) rfl ?_ ?_ ?_ ?_
 ·intro r e hr hc hq'
  have hc':r≠(s.del q).nx:=Nat.ne_of_lt hc
  rw [St.add_ne hc',St.del_ne hq'] at hr
  exact ⟨hr,Th.set_fp_ne hc'⟩
 ·intro r e' hr hl
  have h1:r≠(s.del q).nx:=Nat.ne_of_lt (h.res r e' hr).1
  rw [St.add_ne h1]
  by_cases hc:r=q
  ·subst hc
   rw [hq] at hr
   cases hr
   rw [hf.1] at hl
   cases hl
  ·rw [St.del_ne hc];exact hr
 ·intro r e' hr hc
  obtain rfl:=pos r e' hr hc
  rw [same] at hr
  cases hr
  refine ⟨Nat.lt_succ_self _,hs,?_,?_⟩
  ·rw [Th.set_fp]
   exact qgw (h.res _ _ hq).2.2 h.ext.size hF
  ·rw [Th.set_fp]
   exact fun g hg=>(hF g hg).elim (fun hx=> .inl ⟨_,rfl,hx⟩) .inr
 ·intro r r' e e' hr hr' hc hc' hne
  exact absurd ((pos r e hr hc).trans (pos r' e' hr' hc').symm) hne
structure Moved (s s':St) (θ θ':Th) (w:World) (tn:List Nat):Prop where
 nx:s.nx≤s'.nx
 from_: ∀r e',s'.res r=some e'→(θ'.fp r=θ.fp r∧∃e,s.res r=some e)∨((r∈tn∨s.nx≤r)∧∀g,θ'.fp r g→(∃q∈tn,θ.fp q g)∨w.heap.size≤g)
theorem Moved.refl {tn:List Nat}:Moved s s θ θ w tn:=⟨Nat.le_refl _,fun r e hr=> .inl ⟨rfl,e,hr⟩⟩
theorem Moved.add {tn:List Nat} {e:RE} {v:Value} {F:Nat→Prop} {u:List Value×List Value} (hF: ∀g,F g→w.heap.size≤g):Moved s (s.add e) θ (θ.set s.nx v F u) w tn:=by
 refine ⟨Nat.le_succ _,fun r e' hr=>?_⟩
 by_cases he:r=s.nx
 ·subst he
  refine .inr ⟨.inr (Nat.le_refl _),?_⟩
  rw [Th.set_fp]
  exact fun g hg=> .inr (hF g hg)
 ·rw [St.add_ne he] at hr
  exact .inl ⟨Th.set_fp_ne he,e',hr⟩
theorem Moved.put {q:Nat} {tn:List Nat} (hq:q∈tn) {e:RE} {v:Value} {F:Nat→Prop} {u:List Value×List Value} (hF: ∀g,F g→θ.fp q g∨w.heap.size≤g):Moved s (s.put q e) θ (θ.set q v F u) w tn:=by
 refine ⟨Nat.le_refl _,fun r e' hr=>?_⟩
 by_cases he:r=q
 ·subst he
  refine .inr ⟨.inl hq,?_⟩
  rw [Th.set_fp]
  exact fun g hg=>(hF g hg).imp (fun h=>⟨r,hq,h⟩) (fun h=>h)
 ·rw [St.put_ne he] at hr
  exact .inl ⟨Th.set_fp_ne he,e',hr⟩
theorem Moved.del {q:Nat} {tn:List Nat}:Moved s (s.del q) θ θ w tn:=by
 refine ⟨Nat.le_refl _,fun r e' hr=>?_⟩
 by_cases he:r=q
 ·subst he
  rw [St.del_same] at hr
  cases hr
 ·rw [St.del_ne he] at hr
  exact .inl ⟨rfl,e',hr⟩
theorem Moved.mv {q:Nat} {tn:List Nat} (hq:q∈tn) {e:RE} {v:Value} {F:Nat→Prop} {u:List Value×List Value} (hF: ∀g,F g→θ.fp q g∨w.heap.size≤g):Moved s ((s.del q).add e) θ (θ.set s.nx v F u) w tn:=by
 refine ⟨Nat.le_succ _,fun r e' hr=>?_⟩
 by_cases he:r=s.nx
 ·subst he
  refine .inr ⟨.inr (Nat.le_refl _),?_⟩
  rw [Th.set_fp]
  exact fun g hg=>(hF g hg).imp (fun h=>⟨q,hq,h⟩) (fun h=>h)
 ·have he':r≠(s.del q).nx:=he
  rw [St.add_ne he'] at hr
  by_cases hrq:r=q
  ·subst hrq
   rw [St.del_same] at hr
   cases hr
  ·rw [St.del_ne hrq] at hr
   exact .inl ⟨Th.set_fp_ne he,e',hr⟩
theorem Moved.thenAdd {s1:St} {θ1:Th} {tn:List Nat} (h:Moved s s1 θ θ1 w tn) (hn:s.nx≤s1.nx) {e:RE} {v:Value} {F:Nat→Prop} {u:List Value×List Value} (hF: ∀g,F g→w.heap.size≤g):Moved s (s1.add e) θ (θ1.set s1.nx v F u) w tn:=by
 refine ⟨Nat.le_trans hn (Nat.le_succ _),fun r e' hr=>?_⟩
 by_cases he:r=s1.nx
 ·subst he
  refine .inr ⟨.inr hn,?_⟩
  rw [Th.set_fp]
  exact fun g hg=> .inr (hF g hg)
 ·rw [St.add_ne he] at hr
  rw [Th.set_fp_ne he]
  exact h.from_ r e' hr
theorem Rel.set (h:Rel G s θ ρ w K) {d:Nat} {v:SVal} {u:Value} (hv:v.rel θ s.nx K u):Rel G (s.set d v) θ (upd ρ d u) w K:=
 ⟨h.mod,h.ext,h.kle,h.old,h.nbx,h.frz,fun t x hx=>by
   by_cases he:t=d
   ·subst he
    simp only [St.set,Nat.beq_refl,cond_true] at hx
    cases hx
    rw [qeB];exact hv
   ·simp only [St.set,qbA he,cond_false] at hx
    rw [qfS _ _ he];exact h.env t x hx,h.res,h.sep⟩
theorem Rel.setO (h:Rel G s θ ρ w K) {d:Option Nat} {v:SVal} {u:Value} (hv:v.rel θ s.nx K u):Rel G (s.setO d v) θ (updO ρ d u) w K:=by
 cases d with
 | none=>exact h
 | some d=>exact h.set hv
theorem Rel.unset (h:Rel G s θ ρ w K) {d:Nat} {u:Value}:Rel G (s.unset d) θ (upd ρ d u) w K:=
 ⟨h.mod,h.ext,h.kle,h.old,h.nbx,h.frz,fun t x hx=>by
   by_cases he:t=d
   ·subst he
    simp only [St.unset,Nat.beq_refl,cond_true] at hx
    cases hx
   ·simp only [St.unset,qbA he,cond_false] at hx
    rw [qfS _ _ he];exact h.env t x hx,h.res,h.sep⟩
theorem Rel.unsetO (h:Rel G s θ ρ w K) {d:Option Nat} {u:Value}:Rel G (s.unsetO d) θ (updO ρ d u) w K:=by
 cases d with
 | none=>exact h
 | some d=>exact h.unset
theorem St.setO_res {d:Option Nat} {v:SVal}:(s.setO d v).res=s.res:=by cases d<;>rfl
end
end Go.Inc

set_option linter.unusedVariables false
namespace Go.Inc
open Go Go.RowKit
structure Seat where
 P:Program
 tab:List (Nat×Bool×Ty×Nat)
 eqs:List (Nat×Ty×Nat)
 rws:List Nat
def inN (n:Nat):List Nat→Bool
 | []=>false
 | m::l=>Nat.beq m n || inN n l
def Seat.rwB (c:Seat) (e:Nat):Bool:=inN e c.rws
def qdn (t:Nat) (el:Bool):List (Nat×Bool×Ty×Nat)→Option (Ty×Nat)
 | []=>none
 | (t',e,k,b)::l=>bif Nat.beq t t' && (bif el then e else !e) then some (k,b) else qdn t el l
def qmK (t:Nat) (k:Ty):List (Nat×Bool×Ty×Nat)→Option Nat
 | []=>none
 | (t',e,k',b)::l=>bif Nat.beq t t' && decide (k'=k) then some b else qmK t k l
def qiH (t:Nat) (k:Ty):List (Nat×Ty×Nat)→Option Nat
 | []=>none
 | (t',k',m)::l=>bif Nat.beq t t' && decide (k'=k) then some m else qiH t k l
structure Seat.ok (c:Seat):Prop where
 tab: ∀e∈c.tab,TyOk c.P e.1 e.2.2.1.kd e.2.2.2
 eqs: ∀e∈c.eqs,@EqK _ c.P e.1 e.2.1.kd e.2.1.deq e.2.2
theorem Seat.ok.rows {c:Seat} (h:c.ok) (l:List Nat):Seat.ok { c with rws:=l }:=⟨h.tab,h.eqs⟩
def Seat.ty (c:Seat) (el:Bool) (t:Nat):Option (Ty×Nat):=match qdn t el c.tab with
 | some x=>some x
 | none=>bif el then qdn t false c.tab else none
def Seat.is (c:Seat) (t:Nat) (k:Ty):Option Nat:=qmK t k c.tab
section
variable {c:Seat}
theorem qdo {t:Nat} {el:Bool}: ∀ {l:List (Nat×Bool×Ty×Nat)} {k:Ty} {b:Nat},qdn t el l=some (k,b)→∃e,(t,e,k,b)∈l
 | [],k,b,h=>by cases h
 | (t',e,k',b')::l,k,b,h=>by
   simp only [qdn] at h
   cases hb:(Nat.beq t t' && (bif el then e else !e)) with
   | true=>
     rw [hb] at h
     cases h
     simp only [Bool.and_eq_true] at hb
     obtain rfl:=Nat.eq_of_beq_eq_true hb.1
     exact ⟨e,List.mem_cons_self⟩
   | false=>
     rw [hb] at h
     obtain ⟨e,h⟩:=qdo h
     exact ⟨e,List.mem_cons_of_mem _ h⟩
theorem Seat.ok.ty_ok (hc:c.ok) {el:Bool} {t:Nat} {k:Ty} {b:Nat} (h:c.ty el t=some (k,b)):TyOk c.P t k.kd b:=by
 unfold Seat.ty at h
 cases h1:qdn t el c.tab with
 | some x=>
   rw [h1] at h
   cases h
   obtain ⟨e,h⟩:=qdo h1
   exact hc.tab _ h
 | none=>
   rw [h1] at h
   cases el with
   | false=>cases h
   | true=>
     obtain ⟨e,h⟩:=qdo (show qdn t false c.tab=some (k,b) from h)
     exact hc.tab _ h
theorem qhi {t:Nat} {k:Ty}: ∀ {l:List (Nat×Bool×Ty×Nat)} {b:Nat},qmK t k l=some b→∃e,(t,e,k,b)∈l
 | [],b,h=>by cases h
 | (t',e,k',b')::l,b,h=>by
   simp only [qmK] at h
   cases hb:(Nat.beq t t' && decide (k'=k)) with
   | true=>
     rw [hb] at h
     cases h
     simp only [Bool.and_eq_true,decide_eq_true_eq] at hb
     obtain rfl:=Nat.eq_of_beq_eq_true hb.1
     obtain rfl:=hb.2
     exact ⟨e,List.mem_cons_self⟩
   | false=>
     rw [hb] at h
     obtain ⟨e,h⟩:=qhi h
     exact ⟨e,List.mem_cons_of_mem _ h⟩
theorem Seat.ok.is_ok (hc:c.ok) {t:Nat} {k:Ty} {b:Nat} (h:c.is t k=some b):TyOk c.P t k.kd b:=by
 obtain ⟨e,h⟩:=qhi h
 exact hc.tab _ h
theorem qfy {t:Nat} {k:Ty}: ∀ {l:List (Nat×Ty×Nat)} {m:Nat},qiH t k l=some m→(t,k,m)∈l
 | [],b,h=>by cases h
 | (t',k',m')::l,b,h=>by
   simp only [qiH] at h
   cases hb:(Nat.beq t t' && decide (k'=k)) with
   | true=>
     rw [hb] at h
     cases h
     simp only [Bool.and_eq_true,decide_eq_true_eq] at hb
     obtain rfl:=Nat.eq_of_beq_eq_true hb.1
     obtain rfl:=hb.2
     exact List.mem_cons_self
   | false=>
     rw [hb] at h
     exact List.mem_cons_of_mem _ (qfy h)
end
def wfB (ik:IntKind) (n:Int):Bool:=decide (ik.min≤n) && decide (n≤ik.max)
def qiD:Value→Option SVal
 | .int ik n=>bif wfB ik n then some (.lit ik n) else none
 | .bool b=>some (.bt b)
 | .string d=>bif Nat.ble d.data.toList.length LM then some (.str d.data.toList) else none
 | .pointer none=>some .nil
 | .slice none 0 0=>some .snil
 | .map none=>some .mnil
 | .nilFunc=>some .any
 | _=>none
def St.opd (s:St):Operand→Option SVal
 | .tmp t=>s.env t
 | .const v=>qiD v
 | .func f=>some (.fn f [])
 | .global _=>none
section
variable {G:Glob} {s:St} {θ:Th} {ρ:Env} {w:World} {K:Ghost} {n:Nat}
theorem qfx {v:Value} {sv:SVal} (h:qiD v=some sv):sv.rel θ n K v:=by
 unfold qiD at h
 split at h
 ·rename_i ik a
  cases hb:wfB ik a with
  | true=>
    rw [hb] at h
    cases h
    simp only [wfB,Bool.and_eq_true,decide_eq_true_eq] at hb
    exact ⟨rfl,hb⟩
  | false=>rw [hb] at h;cases h
 ·cases h;rfl
 ·rename_i d
  cases hb:Nat.ble d.data.toList.length LM with
  | true=>rw [hb] at h;cases h;exact ⟨rfl,Nat.le_of_ble_eq_true hb⟩
  | false=>rw [hb] at h;cases h
 ·cases h;rfl
 ·cases h;rfl
 ·cases h;rfl
 ·cases h;trivial
 ·cases h
theorem Rel.opd (h:Rel G s θ ρ w K) {x:Operand} {sv:SVal} (hx:s.opd x=some sv):sv.rel θ s.nx K (ev ρ x):=by
 cases x with
 | tmp t=>exact h.env t sv hx
 | const v=>exact qfx hx
 | func f=>cases hx;exact ⟨[],rfl,rfl⟩
 | global g=>cases hx
end
def SVal.asI:SVal→Option (IntKind×Int×Bool×Bool)
 | .lit ik n=>some (ik,n,true,false)
 | .int ik a lv=>some (ik,a,false,lv)
 | .byt c=>some (.u8,bI c,false,false)
 | _=>none
def SVal.asB:SVal→Option Bool
 | .bt b=>some b
 | .bv b=>some b
 | .boo p d=>some (@decide p d)
 | .nbo p d=>some (!@decide p d)
 | _=>none
def SVal.asS:SVal→Option (List UInt8)
 | .str l=>some l
 | _=>none
def SVal.to (sv:SVal) (t:Ty):Option t.den:=
 match t with
 | .int ik=>match sv.asI with
   | some (ik',a,_,_)=>if ik'=ik then some a else none
   | none=>none
 | .byte=>match sv with
   | .byt c=>some c
   | sv=>match sv.asI with
     | some (ik',a,_,_)=>if ik'= .u8 then some (toB a) else none
     | none=>none
 | .bool=>sv.asB
 | .str=>sv.asS
 | t=>match sv with
   | .val t' x=>if h:t'=t then some (Ty.cast h x) else none
   | .own _ t' x=>if h:Ty.sl t'=t then some (Ty.cast h x) else none
   | .pt t' x=>if h:Ty.ptr t'=t then some (Ty.cast h (some x)) else none
   | .nil=>match t with
     | .ptr t=>some none
     | _=>none
   | .snil=>match t with
     | .sl t=>some []
     | _=>none
   | .snl _ _ _=>match t with
     | .sl t=>some []
     | _=>none
   | _=>none
def SVal.of:(t:Ty)→t.den→SVal
 | .int ik,x=> .int ik x false
 | .byte,x=> .byt x
 | .bool,x=> .bv x
 | .str,x=> .str x
 | t,x=> .val t x
section
variable {θ:Th} {n:Nat} {K:Ghost} {v:Value}
theorem SVal.asI_rel {sv:SVal} {ik:IntKind} {a:Int} {l lv:Bool} (h:sv.asI=some (ik,a,l,lv)) (hr:sv.rel θ n K v):v= .int ik a∧(Kd.int ik).wf a:=by
 cases sv<;>simp only [SVal.asI,Option.some.injEq,Prod.mk.injEq,reduceCtorEq] at h
 ·obtain ⟨rfl,rfl,_⟩:=h;exact hr
 ·obtain ⟨rfl,rfl,_⟩:=h;exact hr
 ·obtain ⟨rfl,rfl,_⟩:=h;exact ⟨hr,qqN _⟩
theorem SVal.asB_rel {sv:SVal} {b:Bool} (h:sv.asB=some b) (hr:sv.rel θ n K v):v= .bool b:=by
 cases sv<;>simp only [SVal.asB,Option.some.injEq,reduceCtorEq] at h<;>subst h<;>exact hr
theorem SVal.asS_rel {sv:SVal} {b:List UInt8} (h:sv.asS=some b) (hr:sv.rel θ n K v):v= .string ⟨b.toArray⟩∧b.length≤LM:=by
 cases sv<;>simp only [SVal.asS,Option.some.injEq,reduceCtorEq] at h
 subst h;exact hr
theorem qp3 {α:Type} {k:Kd α}:(Kd.sl k).V K [] (.slice none 0 0):=⟨_,(Kd.sl k).hz K,rfl⟩
theorem qgF {α:Type} {k:Kd α} {A:Option Addr}:(Kd.sl k).V K [] (.slice A 0 0):=⟨_,⟨A,0,rfl,by simp,by simp [LM],by simp,.inl rfl⟩,rfl⟩
theorem SVal.to_gen {sv:SVal} {t:Ty} {x:t.den} (h:(match sv with
 | .val t' x=>if h:t'=t then some (Ty.cast h x) else none
 | .own _ t' x=>if h:Ty.sl t'=t then some (Ty.cast h x) else none
 | .pt t' x=>if h:Ty.ptr t'=t then some (Ty.cast h (some x)) else none
 | .nil=>match t with
   | .ptr t=>some none
   | _=>none
 | .snil=>match t with
   | .sl t=>some []
   | _=>none
 | .snl _ _ _=>match t with
   | .sl t=>some []
   | _=>none
 | _=>none:Option t.den)=some x) (hr:sv.rel θ n K v):t.kd.V K x v:=by
 split at h
 ·split at h
  ·rename_i he;subst he;cases h;exact hr
  ·cases h
 ·split at h
  ·rename_i he;subst he;cases h;exact hr.2.1
  ·cases h
 ·split at h
  ·rename_i he;subst he;cases h;exact qp1 hr
  ·cases h
 ·have hr':v= .pointer none:=hr
  split at h
  ·cases h;subst hr';exact qnc
  ·cases h
 ·have hr':v= .slice none 0 0:=hr
  split at h
  ·cases h;subst hr';exact qp3
  ·cases h
 ·obtain ⟨A,hr',_⟩:=(show ∃A,v= .slice A 0 0∧_ from hr)
  split at h
  ·cases h;subst hr';exact qgF
  ·cases h
 ·cases h
theorem SVal.to_rel {sv:SVal}: ∀ {t:Ty} {x:t.den},sv.to t=some x→sv.rel θ n K v→t.kd.V K x v
 | .int ik,x,h,hr=>by
   simp only [SVal.to] at h
   split at h
   ·rename_i ik' a l lv he
    split at h
    ·rename_i hk
     subst hk
     cases h
     obtain ⟨rfl,hw⟩:=SVal.asI_rel he hr
     exact qeo hw
    ·cases h
   ·cases h
 | .byte,x,h,hr=>by
   simp only [SVal.to] at h
   split at h
   ·cases h
    have hr':v= .int .u8 (bI _):=hr
    subst hr'
    exact bI_V
   ·split at h
    ·rename_i ik' a l lv he
     split at h
     ·rename_i hk
      subst hk
      cases h
      obtain ⟨rfl,hw⟩:=SVal.asI_rel he hr
      exact qpQ hw
     ·cases h
    ·cases h
 | .bool,x,h,hr=>by
   have:=SVal.asB_rel (show sv.asB=some x from h) hr
   subst this
   exact qcs
 | .str,x,h,hr=>by
   obtain ⟨rfl,hw⟩:=SVal.asS_rel (show sv.asS=some x from h) hr
   exact qou hw
 | .arr _ _,x,h,hr=>SVal.to_gen h hr
 | .sl _,x,h,hr=>SVal.to_gen h hr
 | .pr _ _,x,h,hr=>SVal.to_gen h hr
 | .st _,x,h,hr=>SVal.to_gen h hr
 | .un,x,h,hr=>SVal.to_gen h hr
 | .ptr _,x,h,hr=>SVal.to_gen h hr
 | .hsl _ _,x,h,hr=>SVal.to_gen h hr
 | .hmp _ _,x,h,hr=>SVal.to_gen h hr
 | .hpt,x,h,hr=>SVal.to_gen h hr
 | .hfn,x,h,hr=>SVal.to_gen h hr
 | .anm,x,h,hr=>SVal.to_gen h hr
theorem SVal.of_rel: ∀ {t:Ty} {x:t.den},t.kd.V K x v→(SVal.of t x).rel θ n K v
 | .int ik,x,h=>⟨qa2 h,h.wf⟩
 | .byte,x,h=>qks h
 | .bool,x,h=>qbJ h
 | .str,x,h=>⟨qmJ h,h.wf⟩
 | .arr _ _,x,h=>h
 | .sl _,x,h=>h
 | .pr _ _,x,h=>h
 | .st _,x,h=>h
 | .un,x,h=>h
 | .ptr _,x,h=>h
 | .hsl _ _,x,h=>h
 | .hmp _ _,x,h=>h
 | .hpt,x,h=>h
 | .hfn,x,h=>h
 | .anm,x,h=>h
end
inductive MV where
 | no
 | need (p:Prop) (k:MV)
 | all (α:Type) (k:α→MV)
 | imp (p:Prop) (k:MV)
 | alt (a b:MV)
 | pur (v:SVal)
 | hld (r:Option Nat) (v:SVal)
section
variable (P:Program) (o:Oper) (ρ:Env) (θ:Th) (n:Nat) (w:World) (K:Ghost)
def MV.snd:MV→Prop
 | .no=>True
 | .need p k=>p→k.snd
 | .all α k=> ∃x,(k x).snd
 | .imp p k=>p∧k.snd
 | .alt a b=>a.snd∨b.snd
 | .pur v=> ∃val,v.rel θ n K val∧∀w':World,(execOp (ev ρ) o).run P w'= .ok (.value val) w'
 | .hld r v=> ∃val,v.rel θ n K val∧∀Z:Nat→Prop,(∀q,r=some q→∀g,θ.fp q g→¬Z g)→∀w' K',Ext Z w K w' K'→Models w' K'→(execOp (ev ρ) o).run P w'= .ok (.value val) w'
end
def cmpV (l:Bool) (p:Prop) (d:Decidable p):SVal:=bif l then .bt (@decide p d) else .boo p d
theorem qcO {θ:Th} {n:Nat} {K:Ghost} {l:Bool} {p:Prop} {d:Decidable p}:(cmpV l p d).rel θ n K (.bool (@decide p d)):=by
 cases l<;>exact rfl
def ari (l:Bool) (ik:IntKind) (a:Int):SVal:=bif l then .lit ik (ik.wrap a) else .int ik (ik.wrap a) false
theorem qda {θ:Th} {n:Nat} {K:Ghost} {l:Bool} {ik:IntKind} {a:Int}:(ari l ik a).rel θ n K (.int ik (ik.wrap a)):=by
 cases l<;>exact ⟨rfl,qb5 _ _⟩
def qqg (b:BinOp) (ik:IntKind) (x y:Int) (lx ly vx:Bool):MV:=
 match b with
 | .lss=> .pur (cmpV (lx && ly) (x<y) inferInstance)
 | .leq=> .pur (cmpV (lx && ly) (x≤y) inferInstance)
 | .gtr=> .pur (cmpV (lx && ly) (y<x) inferInstance)
 | .geq=> .pur (cmpV (lx && ly) (y≤x) inferInstance)
 | .eql=> .pur (cmpV (lx && ly) (x=y) inferInstance)
 | .neq=> .pur (cmpV (lx && ly) (x≠y) inferInstance)
 | .add=>bif vx && ly && decide (ik= .i64) && decide (y=1) then .need (x<9223372036854775807) (.pur (.int ik (x+1) false)) else .pur (ari (lx && ly) ik (x+y))
 | .sub=> .pur (ari (lx && ly) ik (x - y))
 | .mul=> .pur (ari (lx && ly) ik (x *y))
 | .quo=>bif ly && decide (y≠0) then .pur (ari (lx && ly) ik (Int.tdiv x y)) else .need (y≠0) (.pur (ari false ik (Int.tdiv x y)))
 | .rem=>bif ly && decide (y≠0) then .pur (.int ik (Int.tmod x y) false) else .need (y≠0) (.pur (.int ik (Int.tmod x y) false))
 | .and=> .pur (.int ik (band ik x y) false)
 | .or=> .pur (.int ik (bor ik x y) false)
 | .xor=> .pur (.int ik (bxor ik x y) false)
 | _=> .no
def qi4 (b:BinOp) (ik ik':IntKind) (x y:Int) (ly:Bool):MV:=
 match b with
 | .shl=>bif (ly && decide (0≤y)) || decide (0≤ik'.min) then .pur (.int ik (shl ik x y) false) else .need (0≤y) (.pur (.int ik (shl ik x y) false))
 | .shr=>bif (ly && decide (0≤y)) || decide (0≤ik'.min) then .pur (.int ik (shr ik x y) false) else .need (0≤y) (.pur (.int ik (shr ik x y) false))
 | _=> .no
section
variable {P:Program} {ρ:Env} {θ:Th} {n:Nat} {w:World} {K:Ghost} {ik ik':IntKind} {a b:Int} {x y:Operand}
variable {dst:Option Tmp} {ty:TypeId} {pos:String} {af:Array Edge} {g:Option (Nat×Bool)} {t1 t2:TypeId}
theorem qad {o:Oper} {v:SVal} {val:Value} (hv:v.rel θ n K val) (hr: ∀w':World,(execOp (ev ρ) o).run P w'= .ok (.value val) w'):(MV.pur v).snd P o ρ θ n w K:=⟨val,hv,hr⟩
theorem qlm {bo:BinOp} {lx ly vx:Bool} (hx:ev ρ x= .int ik a) (hy:ev ρ y= .int ik b) (hw:(Kd.int ik).wf a):(qqg bo ik a b lx ly vx).snd P ⟨dst,.binOp bo t1 x y t2,ty,pos,af,g⟩ ρ θ n w K:=by
 cases bo with
 | lss=>exact qad qcO fun w'=>qf5 hx hy
 | leq=>exact qad qcO fun w'=>qqt hx hy
 | gtr=>exact qad qcO fun w'=>qo9 hx hy
 | geq=>exact qad qcO fun w'=>qo6 hx hy
 | eql=>exact qad qcO fun w'=>qqr hx hy
 | neq=>exact qad qcO fun w'=>qqx hx hy
 | add=>
   show MV.snd _ _ _ _ _ _ _ (bif _ then _ else _)
   cases hc:(vx && ly && decide (ik= .i64) && decide (b=1)) with
   | true=>
     simp only [Bool.and_eq_true,decide_eq_true_eq] at hc
     obtain ⟨⟨_,rfl⟩,rfl⟩:=hc
     intro hlt
     have hw':(Kd.int .i64).wf (a+1):=⟨Int.le_trans hw.1 (by omega),by show a+1≤9223372036854775807;omega⟩
     refine qad (val:= .int .i64 (a+1)) ⟨rfl,hw'⟩ fun w'=>?_
     rw [qje hx hy,qaI hw']
   | false=>exact qad qda fun w'=>qje hx hy
 | sub=>exact qad qda fun w'=>qnI hx hy
 | mul=>exact qad qda fun w'=>qqu hx hy
 | quo=>
   show MV.snd _ _ _ _ _ _ _ (bif _ then _ else _)
   cases hc:(ly && decide (b≠0)) with
   | true=>
     simp only [Bool.and_eq_true,decide_eq_true_eq] at hc
     exact qad qda fun w'=>qpf hx hy hc.2
   | false=>exact fun hb=>qad qda fun w'=>qpf hx hy hb
 | rem=>
   show MV.snd _ _ _ _ _ _ _ (bif _ then _ else _)
   cases hc:(ly && decide (b≠0)) with
   | true=>
     simp only [Bool.and_eq_true,decide_eq_true_eq] at hc
     exact qad ⟨rfl,qlj hw⟩ fun w'=>qpg hx hy hc.2
   | false=>exact fun hb=>qad ⟨rfl,qlj hw⟩ fun w'=>qpg hx hy hb
 | and=>exact qad ⟨rfl,qb5 _ _⟩ fun w'=>qqn hx hy
 | or=>exact qad ⟨rfl,qb5 _ _⟩ fun w'=>R_or hx hy
 | xor=>exact qad ⟨rfl,qb5 _ _⟩ fun w'=>qqz hx hy
 | shl=>trivial
 | shr=>trivial
 | andNot=>trivial
theorem qd9 {bo:BinOp} {ly:Bool} (hx:ev ρ x= .int ik a) (hy:ev ρ y= .int ik' b) (hw:(Kd.int ik).wf a) (hw':(Kd.int ik').wf b):(qi4 bo ik ik' a b ly).snd P ⟨dst,.binOp bo t1 x y t2,ty,pos,af,g⟩ ρ θ n w K:=by
 cases bo with
 | shl=>
   show MV.snd _ _ _ _ _ _ _ (bif _ then _ else _)
   cases hc:(ly && decide (0≤b) || decide (0≤ik'.min)) with
   | true=>
     simp only [Bool.or_eq_true,Bool.and_eq_true,decide_eq_true_eq] at hc
     exact qad ⟨rfl,qb5 _ _⟩ fun w'=>qpl hx hy (hc.elim (·.2) (fun h=>Int.le_trans h hw'.1))
   | false=>exact fun hb=>qad ⟨rfl,qb5 _ _⟩ fun w'=>qpl hx hy hb
 | shr=>
   show MV.snd _ _ _ _ _ _ _ (bif _ then _ else _)
   cases hc:(ly && decide (0≤b) || decide (0≤ik'.min)) with
   | true=>
     simp only [Bool.or_eq_true,Bool.and_eq_true,decide_eq_true_eq] at hc
     exact qad ⟨rfl,qng hw⟩ fun w'=>qpm hx hy (hc.elim (·.2) (fun h=>Int.le_trans h hw'.1))
   | false=>exact fun hb=>qad ⟨rfl,qng hw⟩ fun w'=>qpm hx hy hb
 | _=>trivial
end
end Go.Inc

set_option linter.unusedVariables false
namespace Go.Inc
open Go Go.RowKit
def vStr (c:Seat) (b:BinOp) (t:TypeId) (x y:List UInt8):MV:=
 match c.P.underlying t with
 | some .string=>match b with
   | .eql=> .pur (.boo (x=y) inferInstance)
   | .neq=> .pur (.boo (x≠y) inferInstance)
   | .lss=> .pur (.bv (sless x y))
   | .gtr=> .pur (.bv (!(sless x y || decide (x=y))))
   | .leq=> .pur (.bv (sless x y || decide (x=y)))
   | .geq=> .pur (.bv (!sless x y))
   | .add=> .need (x.length+y.length≤LM) (.pur (.str (x++y)))
   | _=> .no
 | _=> .no
def qoz (c:Seat) (b:BinOp) (t:TypeId) (x y:Bool):MV:=
 match c.P.underlying t with
 | some .bool=>match b with
   | .eql=> .pur (.boo (x=y) inferInstance)
   | .neq=> .pur (.boo (x≠y) inferInstance)
   | _=> .no
 | _=> .no
def vEq (c:Seat) (b:BinOp) (t:TypeId) (k:Ty) (x:k.den) (Y:SVal):MV:=
 match qiH t k c.eqs,Y.to k with
 | some m,some y=>bif Nat.ble m 10000 && k.kd.agg && !(c.P.eqGuardType c.P.depth t) then (match b with
   | .eql=> .pur (.boo (x=y) (k.deq x y))
   | .neq=> .pur (.boo (x≠y) (@instDecidableNot _ (k.deq x y)))
   | _=> .no) else .no
 | _,_=> .no
def qmw (c:Seat) (t:TypeId):Bool:=match c.P.underlying t with
 | some (.pointer _)=>true
 | _=>false
def isSl (c:Seat) (t:TypeId):Bool:=match c.P.underlying t with
 | some (.slice _)=>true
 | _=>false
def qmu (c:Seat) (t:TypeId):Bool:=match c.P.underlying t with
 | some (.map _ _)=>true
 | _=>false
def qg9 (b:BinOp) (x:Bool):MV:=match b with
 | .eql=> .pur (.bt x)
 | .neq=> .pur (.bt (!x))
 | _=> .no
def vNil (c:Seat) (s:St) (b:BinOp) (t:TypeId) (X Y:SVal):MV:=
 match Y with
 | .nil=>bif qmw c t then (match X with
   | .nil=>qg9 b true
   | .pt _ _=>qg9 b false
   | .box _ _ _ _=>qg9 b false
   | .val (.ptr _) x=>(match b with
     | .eql=> .pur (.bv x.isNone)
     | .neq=> .pur (.bv x.isSome)
     | _=> .no)
   | .obj r=>(match s.res r with
     | some ⟨.bk _ x,_,_⟩=>(match b with
       | .eql=> .pur (.bv x.isNone)
       | .neq=> .pur (.bv x.isSome)
       | _=> .no)
     | _=> .no)
   | _=> .no) else .no
 | .snil=>bif isSl c t then (match b with
   | .eql=>(match X with
     | .val (.sl _) x=> .all Bool fun r=> .imp (r=true→x=[]) (.pur (.bv r))
     | .own _ _ x=> .all Bool fun r=> .imp (r=true→x=[]) (.pur (.bv r))
     | .snl _ _ z=>bif z then .pur (.bt true) else .all Bool fun r=> .pur (.bv r)
     | .snil=> .pur (.bt true)
     | _=> .no)
   | _=> .no) else .no
 | .mnil=>bif qmu c t then (match b with
   | .eql=>(match X with
     | .mp r=>(match s.res r with
       | some ⟨.mp _ _ _ _,_,_⟩=> .pur (.mnb r)
       | _=> .no)
     | _=> .no)
   | _=> .no) else .no
 | _=> .no
def vBin (c:Seat) (s:St) (b:BinOp) (t:TypeId) (x y:Operand):MV:=
 match s.opd x,s.opd y with
 | some X,some Y=>
   match X.asI,Y.asI with
   | some (k,a,la,va),some (k',a',lb,_)=>if k=k' then (match b with
      | .shl=>qi4 b k k' a a' lb
      | .shr=>qi4 b k k' a a' lb
      | _=>qqg b k a a' la lb va) else qi4 b k k' a a' lb
   | _,_=>match X.asB,Y.asB with
     | some p,some q=>qoz c b t p q
     | _,_=>match X.asS,Y.asS with
       | some p,some q=>vStr c b t p q
       | _,_=>match X,Y with
         | X,.nil=>vNil c s b t X .nil
         | X,.snil=>vNil c s b t X .snil
         | X,.mnil=>vNil c s b t X .mnil
         | .val k x,Y=>vEq c b t k x Y
         | _,_=> .no
 | _,_=> .no
def vUn (c:Seat) (s:St) (u:UnOp) (x:Operand):MV:=
 match u,s.opd x with
 | .not,some (.bt b)=> .pur (.bt (!b))
 | .not,some (.bv b)=> .pur (.nbo (b=true) inferInstance)
 | .not,some (.boo p d)=> .pur (.nbo p d)
 | .not,some (.nbo p d)=> .pur (.boo p d)
 | .neg,some X=>(match X.asI with
   | some (k,a,l,_)=> .pur (ari l k (0 - a))
   | none=> .no)
 | .xor,some X=>(match X.asI with
   | some (k,a,_,_)=> .pur (.int k (bxor k (if k.signed then -1 else k.max) a) false)
   | none=> .no)
 | _,_=> .no
def qor (s:St):SVal→Option (Nat×List UInt8)
 | .rw r=>(match s.res r with
   | some ⟨.rw _ .byte l,_,_⟩=>some (r,l)
   | _=>none)
 | _=>none
def qoB (c:Seat) (s:St) (t1 t2:TypeId) (x:Operand):MV:=
 match s.opd x,c.P.underlying t1,c.P.underlying t2 with
 | some X,some d1,some (.int k)=>(match X.asI with
   | some (k',a,l,_)=>bif decide (k.min≤k'.min) && decide (k'.max≤k.max) then .pur (bif l then .lit k a else .int k a false) else .pur (ari l k a)
   | none=> .no)
 | some X,some (.slice e),some .string=>(match c.P.underlying e,X.to (.sl .byte) with
   | some (.int .u8),some l=> .hld none (.str l)
   | some (.int .u8),none=>(match qor s X with
     | some (r,l)=> .hld (some r) (.str l)
     | none=> .no)
   | _,_=> .no)
 | some (.str l),some .string,some .string=> .no
 | _,_,_=> .no
def vLen (c:Seat) (s:St) (t:TypeId) (x:Operand):MV:=
 match s.opd x,c.P.underlying t with
 | some (.str l),some .string=> .pur (.int .i64 (l.length:Int) false)
 | some (.val (.sl _) l),some (.slice _)=> .pur (.int .i64 (l.length:Int) false)
 | some (.own _ _ l),some (.slice _)=> .pur (.int .i64 (l.length:Int) false)
 | some (.snl _ _ _),some (.slice _)=> .pur (.lit .i64 0)
 | some (.rw r),some (.slice _)=>(match s.res r with
   | some ⟨.rw _ _ l,_,_⟩=> .pur (.int .i64 (l.length:Int) false)
   | _=> .no)
 | some _,some (.array n _)=>bif Nat.ble n LM then .pur (.lit .i64 (n:Int)) else .no
 | _,_=> .no
section
variable {c:Seat} {G:Glob} {s:St} {ρ:Env} {θ:Th} {w:World} {K:Ghost} {x y:Operand} {n:Nat}
variable {dst:Option Tmp} {ty:TypeId} {pos:String} {af:Array Edge} {g:Option (Nat×Bool)} {t t1 t2:TypeId}
theorem qmT {b:BinOp} {p q:List UInt8} (hx:ev ρ x= .string ⟨p.toArray⟩) (hy:ev ρ y= .string ⟨q.toArray⟩):(vStr c b t p q).snd c.P ⟨dst,.binOp b t x y t2,ty,pos,af,g⟩ ρ θ n w K:=by
 unfold vStr
 split
 ·rename_i hu
  cases b with
  | eql=>exact qad (v:= .boo _ _) rfl fun w'=>qpi hx hy hu
  | neq=>exact qad (v:= .boo _ _) rfl fun w'=>qpp hx hy hu
  | lss=>exact qad (v:= .bv _) rfl fun w'=>qpo hx hy hu
  | gtr=>exact qad (v:= .bv _) rfl fun w'=>qpk hx hy hu
  | leq=>exact qad (v:= .bv _) rfl fun w'=>qpn hx hy hu
  | geq=>exact qad (v:= .bv _) rfl fun w'=>qpj hx hy hu
  | add=>exact fun hl=>qad (v:= .str _) ⟨rfl,by rw [List.length_append];exact hl⟩ fun w'=>qph hx hy hu hl
  | _=>trivial
 ·trivial
theorem qln {b:BinOp} {p q:Bool} (hx:ev ρ x= .bool p) (hy:ev ρ y= .bool q):(qoz c b t p q).snd c.P ⟨dst,.binOp b t x y t2,ty,pos,af,g⟩ ρ θ n w K:=by
 unfold qoz
 split
 ·rename_i hu
  cases b with
  | eql=>exact qad (v:= .boo _ _) rfl fun w'=>qqq hx hy hu
  | neq=>exact qad (v:= .boo _ _) rfl fun w'=>qqv hx hy hu
  | _=>trivial
 ·trivial
theorem qoE (hc:c.ok) {b:BinOp} {k:Ty} {a:k.den} {Y:SVal} (hx:k.kd.V K a (ev ρ x)) (hy:Y.rel θ n K (ev ρ y)):(vEq c b t k a Y).snd c.P ⟨dst,.binOp b t x y t2,ty,pos,af,g⟩ ρ θ n w K:=by
 unfold vEq
 split
 ·rename_i m q he hq
  cases hb:(Nat.ble m 10000 && k.kd.agg && !(c.P.eqGuardType c.P.depth t)) with
  | false=>trivial
  | true=>
    simp only [Bool.and_eq_true,Bool.not_eq_true'] at hb
    have hE:=hc.eqs _ (qfy he)
    have hyV:=SVal.to_rel hq hy
    cases b with
    | eql=>
      letI:=k.deq
      exact qad (v:= .boo _ _) (val:= .bool (decide (a=q))) (by show Value.bool _= .bool _;congr) fun w'=>qo7 (k:=k.kd) rfl rfl hx hyV hb.1.2 hE (Nat.le_of_ble_eq_true hb.1.1) hb.2
    | neq=>
      letI:=k.deq
      exact qad (v:= .boo _ _) (val:= .bool (decide (a≠q))) (by show Value.bool _= .bool _;congr) fun w'=>qo8 (k:=k.kd) rfl rfl hx hyV hb.1.2 hE (Nat.le_of_ble_eq_true hb.1.1) hb.2
    | _=>trivial
 ·trivial
theorem qmx (h:qmw c t=true): ∃e,c.P.underlying t=some (.pointer e):=by
 unfold qmw at h
 split at h
 ·rename_i e he;exact ⟨e,he⟩
 ·cases h
theorem qoc (h:isSl c t=true): ∃e,c.P.underlying t=some (.slice e):=by
 unfold isSl at h
 split at h
 ·rename_i e he;exact ⟨e,he⟩
 ·cases h
theorem qmv (h:qmu c t=true): ∃k e,c.P.underlying t=some (.map k e):=by
 unfold qmu at h
 split at h
 ·rename_i k e he;exact ⟨k,e,he⟩
 ·cases h
theorem qpY (hx:ev ρ x= .pointer none) (hy:ev ρ y= .pointer none) {b:BinOp} {e:TypeId} (hu:c.P.underlying t=some (.pointer e)):(qg9 b true).snd c.P ⟨dst,.binOp b t x y t2,ty,pos,af,g⟩ ρ θ n w K:=by
 cases b with
 | eql=>exact qad (v:= .bt _) rfl fun w'=>qfr hx hy hu
 | neq=>exact qad (v:= .bt _) rfl fun w'=>qgO hx hy hu
 | _=>trivial
theorem qna {ad:Addr} (hx:ev ρ x= .pointer (some ad)) (hy:ev ρ y= .pointer none) {b:BinOp} {e:TypeId} (hu:c.P.underlying t=some (.pointer e)):(qg9 b false).snd c.P ⟨dst,.binOp b t x y t2,ty,pos,af,g⟩ ρ θ n w K:=by
 cases b with
 | eql=>exact qad (v:= .bt _) rfl fun w'=>qjg hx hy hu
 | neq=>exact qad (v:= .bt _) rfl fun w'=>qj1 hx hy hu
 | _=>trivial
theorem qma {e:TypeId} {a:qav} {v:Value} {F:Nat→Prop} (h:qaJ e w K v F a):(a=none∧v= .pointer none)∨(a.isNone=false∧∃ad,v= .pointer (some ad)):=by
 cases a with
 | none=>exact .inl ⟨rfl,h.1⟩
 | some x=>obtain ⟨b,pre,post,lv,mv,m,hv,_⟩:=h;exact .inr ⟨rfl,_,hv⟩
theorem qgJ (h:Rel G s θ ρ w K) {b:BinOp} {X Y:SVal} (hx:X.rel θ s.nx K (ev ρ x)) (hy:Y.rel θ s.nx K (ev ρ y)):(vNil c s b t X Y).snd c.P ⟨dst,.binOp b t x y t2,ty,pos,af,g⟩ ρ θ s.nx w K:=by
 unfold vNil
 split
 ·have hy':ev ρ y= .pointer none:=hy
  cases hp:qmw c t with
  | false=>trivial
  | true=>
    obtain ⟨e,hu⟩:=qmx hp
    simp only [cond_true]
    split
    ·exact qpY hx hy' hu
    ·obtain ⟨bl,o,hv⟩:=Kd.Pt.form hx
     exact qna hv hy' hu
    ·obtain ⟨_,_,bl,o,_,hv⟩:=hx
     exact qna hv hy' hu
    ·rename_i k a
     split
     ·exact qad (v:= .bv _) rfl fun w'=>qiq (k:=k.kd) rfl hx hy' hu
     ·exact qad (v:= .bv _) rfl fun w'=>qnG (k:=k.kd) rfl hx hy' hu
     ·trivial
    ·rename_i r
     split
     ·rename_i e' a o l hr
      have hB:=(h.res _ _ hr).2.1
      have hk:θ.key r=ev ρ x:=hx.2
      have hB':qaJ e' w K (θ.key r) (θ.fp r) a:=hB
      rw [hk] at hB'
      rcases qma hB' with ⟨rfl,hv⟩ | ⟨hn,ad,hv⟩
      ·split
       ·exact qad (v:= .bv _) rfl fun w'=>qfr hv hy' hu
       ·exact qad (v:= .bv _) rfl fun w'=>qgO hv hy' hu
       ·trivial
      ·have hs:a.isSome=true:=by cases a<;>simp_all
       split
       ·exact qad (v:= .bv _) (val:= .bool false) (by show Value.bool false= .bool _;rw [hn]) fun w'=>qjg hv hy' hu
       ·exact qad (v:= .bv _) (val:= .bool true) (by show Value.bool true= .bool _;rw [hs]) fun w'=>qj1 hv hy' hu
       ·trivial
     ·trivial
    ·trivial
 ·have hy':ev ρ y= .slice none 0 0:=hy
  cases hp:isSl c t with
  | false=>trivial
  | true=>
    obtain ⟨e,hu⟩:=qoc hp
    simp only [cond_true]
    split
    ·split
     ·rename_i k a
      obtain ⟨r,hr,hi⟩:=qhE (dst:=dst) (ty:=ty) (pos:=pos) (af:=af) (g:=g) (t2:=t2) (k:=k.kd) (x:=x) rfl hx hy' hu
      exact ⟨r,hi,qad (v:= .bv _) rfl hr⟩
     ·rename_i q k a
      obtain ⟨r,hr,hi⟩:=qhE (dst:=dst) (ty:=ty) (pos:=pos) (af:=af) (g:=g) (t2:=t2) (k:=k.kd) (x:=x) rfl hx.2.1 hy' hu
      exact ⟨r,hi,qad (v:= .bv _) rfl hr⟩
     ·rename_i e0 k0 z
      obtain ⟨A,hx',hz⟩:=(show ∃A,ev ρ x= .slice A 0 0∧(z=true→A=none) from hx)
      cases z with
      | false=>
        obtain ⟨r,hr,hi⟩:=qhE (dst:=dst) (ty:=ty) (pos:=pos) (af:=af) (g:=g) (t2:=t2) (k:=k0.kd) (K:=K) (x:=x) hx' qgF hy' hu
        exact ⟨r,qad (v:= .bv _) rfl hr⟩
      | true=>
        rw [hz rfl] at hx'
        exact ⟨.bool true,rfl,fun w'=>by
         have hd: ∀d:Nat,(Op.equalIn (d+1) t (.slice none 0 0) (.slice none 0 0)).run c.P w'= .ok true w':=fun d=>by
          simp [Op.equalIn,run_underlying hu]
         have hd':(Op.equal t (.slice none 0 0) (.slice none 0 0)).run c.P w'= .ok true w':=hd 9999
         unfold execOp
         simp only [hx',hy']
         simp [binOp,eqGuard,hd']⟩
     ·have hx':ev ρ x= .slice none 0 0:=hx
      exact ⟨.bool true,rfl,fun w'=>by
       have hd: ∀d:Nat,(Op.equalIn (d+1) t (.slice none 0 0) (.slice none 0 0)).run c.P w'= .ok true w':=fun d=>by
        simp [Op.equalIn,run_underlying hu]
       have hd':(Op.equal t (.slice none 0 0) (.slice none 0 0)).run c.P w'= .ok true w':=hd 9999
       unfold execOp
       simp only [hx',hy']
       simp [binOp,eqGuard,hd']⟩
     ·trivial
    ·trivial
 ·have hy':ev ρ y= .map none:=hy
  cases hp:qmu c t with
  | false=>trivial
  | true=>
    obtain ⟨k,e,hu⟩:=qmv hp
    simp only [cond_true]
    split
    ·split
     ·rename_i r
      split
      ·rename_i kk kv m nn o l hr
       have hk:θ.key r=ev ρ x:=hx.2
       have hm:Mp kk.kd kv.kd w K m (θ.key r):=(h.res _ _ hr).2.1.1
       rw [hk] at hm
       obtain ⟨q,hq,h1,h2⟩:=qm2 (dst:=dst) (ty:=ty) (pos:=pos) (af:=af) (g:=g) (t2:=t2) (x:=x) rfl hy' hm hu
       exact qad (v:= .mnb r) ⟨hx.1,q,rfl,fun hqq=>hk.trans (h1 hqq).1,fun hqq=>by
        obtain ⟨b,hb⟩:=h2 hqq
        exact ⟨b,hk.trans hb⟩⟩ hq
      ·trivial
     ·trivial
    ·trivial
 ·trivial
theorem qmP (hc:c.ok) (h:Rel G s θ ρ w K) {b:BinOp}:(vBin c s b t x y).snd c.P ⟨dst,.binOp b t x y t2,ty,pos,af,g⟩ ρ θ s.nx w K:=by
 unfold vBin
 split
 ·rename_i X Y hX hY
  have hx:=h.opd hX
  have hy:=h.opd hY
  split
  ·rename_i k a la va k' a' lb _ h1 h2
   obtain ⟨ex,wx⟩:=SVal.asI_rel h1 hx
   obtain ⟨ey,wy⟩:=SVal.asI_rel h2 hy
   split
   ·rename_i hk
    subst hk
    split
    ·exact qd9 ex ey wx wy
    ·exact qd9 ex ey wx wy
    ·exact qlm ex ey wx
   ·exact qd9 ex ey wx wy
  ·split
   ·rename_i p q h1 h2
    exact qln (SVal.asB_rel h1 hx) (SVal.asB_rel h2 hy)
   ·split
    ·rename_i p q h1 h2
     exact qmT (SVal.asS_rel h1 hx).1 (SVal.asS_rel h2 hy).1
    ·split
     ·exact qgJ h hx hy
     ·exact qgJ h hx hy
     ·exact qgJ h hx hy
     ·exact qoE hc hx hy
     ·trivial
 ·trivial
theorem qoI (h:Rel G s θ ρ w K) {u:UnOp}:(vUn c s u x).snd c.P ⟨dst,.unOp u t x,ty,pos,af,g⟩ ρ θ s.nx w K:=by
 unfold vUn
 split
 ·rename_i hX
  exact qad (v:= .bt _) rfl fun w'=>qgN (h.opd hX)
 ·rename_i b hX
  have hx:ev ρ x= .bool b:=h.opd hX
  exact qad (v:= .nbo _ _) (val:= .bool (!b)) (by show Value.bool _= .bool _;cases b<;>rfl) fun w'=>qgN hx
 ·rename_i hX
  exact qad (v:= .nbo _ _) rfl fun w'=>qgN (h.opd hX)
 ·rename_i p d hX
  have hx:ev ρ x= .bool (!decide p):=h.opd hX
  exact qad (v:= .boo _ _) (val:= .bool (!(!decide p))) (by show Value.bool _= .bool _;rw [Bool.not_not]) fun w'=>qgN hx
 ·rename_i X hX
  split
  ·rename_i h1
   exact qad qda fun w'=>qqw (SVal.asI_rel h1 (h.opd hX)).1
  ·trivial
 ·rename_i X hX
  split
  ·rename_i h1
   exact qad (v:= .int _ _ _) ⟨rfl,qb5 _ _⟩ fun w'=>qqo (SVal.asI_rel h1 (h.opd hX)).1
  ·trivial
 ·trivial
theorem qmH (h:Rel G s θ ρ w K) {X:SVal} {v:Value} {r:Nat} {l:List UInt8} (hX:qor s X=some (r,l)) (hv:X.rel θ s.nx K v): ∃e,Rw Kd.byte e w K l v∧∀g,θ.fp r g↔ob v=some g:=by
 unfold qor at hX
 split at hX
 ·split at hX
  ·rename_i q e l' og lk hres
   cases hX
   obtain ⟨h1,h2⟩:=(h.res _ _ hres).2.1
   rw [hv.2] at h1 h2
   exact ⟨e,h1,h2⟩
  ·cases hX
 ·cases hX
theorem qlq (h:Rel G s θ ρ w K):(qoB c s t1 t2 x).snd c.P ⟨dst,.convert t1 t2 x,ty,pos,af,g⟩ ρ θ s.nx w K:=by
 unfold qoB
 split
 ·rename_i X d1 k hX h1 h2
  split
  ·rename_i k' a l lv hI
   obtain ⟨ex,wx⟩:=SVal.asI_rel hI (h.opd hX)
   cases hb:(decide (k.min≤k'.min) && decide (k'.max≤k.max)) with
   | true=>
     simp only [Bool.and_eq_true,decide_eq_true_eq] at hb
     have hw:=qnk wx hb.1 hb.2
     exact qad (val:= .int k a) (by cases l<;>exact ⟨rfl,hw⟩) fun w'=>qqp ex h1 h2 wx hb.1 hb.2
   | false=>exact qad qda fun w'=>qo4 ex h1 h2
  ·trivial
 ·rename_i X e hX h1 h2
  split
  ·rename_i l he hl
   have hV:=SVal.to_rel hl (h.opd hX)
   exact ⟨.string ⟨l.toArray⟩,⟨rfl,hV.wf.1⟩,fun Z _=>qps rfl hV h1 h2 he⟩
  ·rename_i he _
   split
   ·rename_i r l hl
    obtain ⟨e',⟨hn,l0,hO⟩,hf⟩:=qmH h hl (h.opd hX)
    have hlt:=hO.lt
    refine ⟨.string ⟨l.toArray⟩,⟨rfl,hO.wf.1⟩,fun Z hZ w' K' hE hM=>?_⟩
    have hZ': ∀g,ob (ev ρ x)=some g→¬Z g:=fun g hg=>hZ r rfl g ((hf g).2 hg)
    exact qps rfl hO.V h1 h2 he w' (kset K' (ev ρ x) e' l0) (qcQ hE hlt hZ') ((hO.ext (qcQ hE hlt hZ') hZ').models hM)
   ·trivial
  ·trivial
 ·trivial
 ·trivial
theorem qmR (h:Rel G s θ ρ w K):(vLen c s t x).snd c.P ⟨dst,.call { callee:= .builtin .len,args:= #[x],argTypes:= #[t] },ty,pos,af,g⟩ ρ θ s.nx w K:=by
 unfold vLen
 split
 ·rename_i l hX hu
  obtain ⟨ex,hl⟩:=h.opd hX
  exact qad (v:= .int _ _ _) ⟨rfl,qbj hl⟩ fun w'=>qpd ex hu
 ·rename_i k l e hX hu
  have hV:(Kd.sl k.kd).V K l (ev ρ x):=h.opd hX
  exact qad (v:= .int _ _ _) ⟨rfl,qbj hV.wf.1⟩ fun w'=>qdr rfl hV hu
 ·rename_i r k l e hX hu
  have hV:(Kd.sl k.kd).V K l (ev ρ x):=(h.opd hX).2.1
  exact qad (v:= .int _ _ _) ⟨rfl,qbj hV.wf.1⟩ fun w'=>qdr rfl hV hu
 ·rename_i e0 k z e hX hu
  obtain ⟨A,hv,_⟩:=(show ∃A,ev ρ x= .slice A 0 0∧(z=true→A=none) from h.opd hX)
  have hV:(Kd.sl k.kd).V K [] (ev ρ x):=by rw [hv];exact qgF
  exact qad (v:= .lit _ _) ⟨rfl,by constructor<;>decide⟩ fun w'=>qdr rfl hV hu
 ·rename_i r e hX hu
  split
  ·rename_i e' k l o lk hr
   have hR:Rw k.kd e' w K l (θ.key r):=(h.res _ _ hr).2.1.1
   rw [(h.opd hX).2] at hR
   exact qad (v:= .int _ _ _) ⟨rfl,qbj hR.wf.1⟩ fun w'=>qpb rfl hR hu
  ·trivial
 ·rename_i X n e hX hu
  cases hb:Nat.ble n LM with
  | true=>exact qad (v:= .lit _ _) ⟨rfl,qbj (Nat.le_of_ble_eq_true hb)⟩ fun w'=>qpc rfl hu
  | false=>trivial
 ·trivial
end
end Go.Inc

set_option linter.unusedVariables false
namespace Go.Inc
open Go Go.RowKit
def Ty.flatB:Ty→Bool
 | .int _=>true
 | .byte=>true
 | .bool=>true
 | .str=>true
 | .arr _ t=>t.flatB
 | .pr a b=>a.flatB && b.flatB
 | .st a=>a.flatB
 | _=>false
theorem Ty.flat_ok: ∀ {t:Ty},t.flatB=true→t.kd.Flat
 | .int _,_=>fun _ _ _ _ h=>h
 | .byte,_=>fun _ _ _ _ h=>h
 | .bool,_=>fun _ _ _ _ h=>h
 | .str,_=>fun _ _ _ _ h=>h
 | .arr n t,h=>fun K K' x cs hr=>⟨hr.1,RL.mono (fun _ _=>Ty.flat_ok (t:=t) h _ _ _ _) hr.2⟩
 | .pr a b,h=>fun K K' x cs hr=>by
   simp only [Ty.flatB,Bool.and_eq_true] at h
   obtain ⟨c1,c2,e,h1,h2⟩:=hr
   exact ⟨c1,c2,e,Ty.flat_ok h.1 _ _ _ _ h1,Ty.flat_ok h.2 _ _ _ _ h2⟩
 | .st a,h=>fun K K' x cs hr=>Ty.flat_ok (t:=a) h _ _ _ _ hr
 | .sl _,h=>by cases h
 | .un,h=>by cases h
 | .ptr _,h=>by cases h
 | .hsl _ _,h=>by cases h
 | .hmp _ _,h=>by cases h
 | .hpt,h=>by cases h
 | .hfn,h=>by cases h
 | .anm,h=>by cases h
def qb4 {a b:Ty} (h:a=b) (l:List a.den):List b.den:=h▸l
def Pth.fst (a b:Ty):Pth (.pr a b) a:=⟨0,Prod.fst,fun x y=>(y,x.2),True,fun _=>Foc.fst _ _⟩
def Pth.snd (a b:Ty):Pth (.pr a b) b:=⟨a.kd.sz,Prod.snd,fun x y=>(x.1,y),True,fun _=>Foc.snd _ _⟩
def Pth.st (a:Ty):Pth (.st a) a:=⟨0,fun x=>x,fun _ y=>y,True,fun _=>Foc.st _⟩
def Pth.arr (n:Nat) (t:Ty) (i:Int):Pth (.arr n t) t:=⟨i.toNat *t.kd.sz,fun l=>ix l i,fun l y=>l.set i.toNat y,0≤i∧i<(n:Int),fun h=>Foc.arr n t.kd i h.1 h.2⟩
def qa7:Nat→(T:Ty)→Nat→Option (Sigma (Pth T))
 | 1,T,0=>some ⟨T,Pth.id T⟩
 | n+2,.pr a b,0=>some ⟨a,Pth.fst a b⟩
 | n+2,.pr a b,i+1=>match qa7 (n+1) b i with
   | some ⟨t,p⟩=>some ⟨t,(Pth.snd a b).then p⟩
   | none=>none
 | _,_,_=>none
def qiI (n:Nat) (T:Ty) (i:Nat):Option (Sigma (Pth T)):=
 match T with
 | .st a=>bif Nat.beq n 1 && Nat.beq i 0 then some ⟨a,Pth.st a⟩ else none
 | T=>bif Nat.ble 2 n then qa7 n T i else none
theorem qfA: ∀ {n:Nat} {T:Ty} {i:Nat} {k:Ty} {p:Pth T k},qa7 n T i=some ⟨k,p⟩→p.cnd
 | 0,T,i,k,p,h=>by simp [qa7] at h
 | 1,T,0,k,p,h=>by
   simp only [qa7,Option.some.injEq,Sigma.mk.injEq] at h
   obtain ⟨rfl,h⟩:=h
   cases h
   trivial
 | 1,T,i+1,k,p,h=>by simp [qa7] at h
 | n+2,.pr a b,0,k,p,h=>by
   simp only [qa7,Option.some.injEq,Sigma.mk.injEq] at h
   obtain ⟨rfl,h⟩:=h
   cases h
   trivial
 | n+2,.pr a b,i+1,k,p,h=>by
   simp only [qa7] at h
   split at h
   ·rename_i t q hq
    simp only [Option.some.injEq,Sigma.mk.injEq] at h
    obtain ⟨rfl,h⟩:=h
    cases h
    exact ⟨trivial,qfA hq⟩
   ·cases h
 | n+2,.int _,i,k,p,h=>by simp [qa7] at h
 | n+2,.byte,i,k,p,h=>by simp [qa7] at h
 | n+2,.bool,i,k,p,h=>by simp [qa7] at h
 | n+2,.str,i,k,p,h=>by simp [qa7] at h
 | n+2,.arr _ _,i,k,p,h=>by simp [qa7] at h
 | n+2,.sl _,i,k,p,h=>by simp [qa7] at h
 | n+2,.st _,i,k,p,h=>by simp [qa7] at h
 | n+2,.un,i,k,p,h=>by simp [qa7] at h
 | n+2,.ptr _,i,k,p,h=>by simp [qa7] at h
 | n+2,.hsl _ _,i,k,p,h=>by simp [qa7] at h
 | n+2,.hmp _ _,i,k,p,h=>by simp [qa7] at h
 | n+2,.hpt,i,k,p,h=>by simp [qa7] at h
 | n+2,.hfn,i,k,p,h=>by simp [qa7] at h
 | n+2,.anm,i,k,p,h=>by simp [qa7] at h
theorem qfz {n:Nat} {T:Ty} {i:Nat} {k:Ty} {p:Pth T k} (h:qiI n T i=some ⟨k,p⟩):p.cnd:=by
 unfold qiI at h
 split at h
 ·rename_i a
  cases hb:(Nat.beq n 1 && Nat.beq i 0) with
  | true=>
    rw [hb] at h
    simp only [cond_true,Option.some.injEq,Sigma.mk.injEq] at h
    obtain ⟨rfl,h⟩:=h
    cases h
    trivial
  | false=>rw [hb] at h;cases h
 ·cases hb:Nat.ble 2 n with
  | true=>rw [hb] at h;exact qfA h
  | false=>rw [hb] at h;cases h
def fieldAt (c:Seat) (t:TypeId) (T:Ty) (f:Nat):Option (Sigma (Pth T)):=
 match c.P.underlying t with
 | some (.struct fs)=>match fs[f]?,qiI fs.size T f with
   | some fd,some ⟨k,q⟩=>match c.is fd.type k with
     | some _=>bif Nat.beq fd.offset q.off then some ⟨k,q⟩ else none
     | none=>none
   | _,_=>none
 | _=>none
theorem qdX {c:Seat} (hc:c.ok) {t:TypeId} {T k:Ty} {f:Nat} {q:Pth T k} (h:fieldAt c t T f=some ⟨k,q⟩):q.cnd∧∃fs fd b,c.P.underlying t=some (.struct fs)∧fs[f]?=some fd∧fd.offset=q.off∧TyOk c.P fd.type k.kd b:=by
 unfold fieldAt at h
 split at h
 ·rename_i fs hu
  split at h
  ·rename_i fd k' q' hf hq
   split at h
   ·rename_i b hb
    cases ho:Nat.beq fd.offset q'.off with
    | true=>
      rw [ho] at h
      simp only [cond_true,Option.some.injEq,Sigma.mk.injEq] at h
      obtain ⟨rfl,h⟩:=h
      cases h
      exact ⟨qfz hq,fs,fd,b,hu,hf,Nat.eq_of_beq_eq_true ho,hc.is_ok hb⟩
    | false=>rw [ho] at h;cases h
   ·cases h
  ·cases h
 ·cases h
def qd7 (c:Seat) (s:St) (t:TypeId) (x:Operand) (f:Nat):MV:=
 match s.opd x with
 | some (.box r T k p)=>match fieldAt c t k f with
   | some ⟨k',q⟩=>bif Nat.beq k'.kd.sz 0 then .no else .pur (.box r T k' (p.then q))
   | none=> .no
 | some (.pt k X)=>match fieldAt c t k f with
   | some ⟨k',q⟩=>bif Nat.beq k'.kd.sz 0 then .no else .pur (.pt k' (q.get X))
   | none=> .no
 | _=> .no
def qlt (c:Seat) (s:St) (t:TypeId) (x:Operand) (f:Nat):MV:=
 match s.opd x with
 | some (.val k X)=>match fieldAt c t k f with
   | some ⟨k',q⟩=>bif k.kd.agg then .pur (.of k' (q.get X)) else .no
   | none=> .no
 | _=> .no
def inB (l:Bool) (i:Int) (n:Nat):Bool:=l && decide (0≤i) && decide (i<(n:Int))
def altP (i:Int):Int→List SVal→MV
 | _,[]=> .no
 | j,v::l=>match l with
   | []=> .imp (i=j) (.pur (.ppt v))
   | _::_=> .alt (.imp (i=j) (.pur (.ppt v))) (altP i (j+1) l)
def lenI:List SVal→Int
 | []=>0
 | _::l=>lenI l+1
theorem qkX: ∀l:List SVal,lenI l=(l.length:Int)
 | []=>rfl
 | _::l=>by rw [lenI,qkX l,List.length_cons];rfl
def qd8 (c:Seat) (s:St) (t:TypeId) (x i:Operand):MV:=
 match s.opd x,(s.opd i).bind SVal.asI,c.P.underlying t with
 | some (.val (.sl k) l),some (_,i,_,_),some (.slice e)=>(match c.is e k with
   | some _=> .need (0≤i∧i<(l.length:Int)) (.pur (.pt k (ix l i)))
   | none=> .no)
 | some (.own _ k l),some (_,i,_,_),some (.slice e)=>(match c.is e k with
   | some _=> .need (0≤i∧i<(l.length:Int)) (.pur (.pt k (ix l i)))
   | none=> .no)
 | some (.rw r),some (_,i,_,_),some (.slice e)=>(match s.res r with
   | some ⟨.rw e' k l,_,_⟩=>(match c.is e k with
     | some _=>bif Nat.beq e' e then .need (0≤i∧i<(l.length:Int)) (.pur (.rpt r k i)) else .no
     | none=> .no)
   | _=> .no)
 | some (.box r T (.arr n k) p),some (_,i,li,_),some (.array n' e)=>(match c.is e k with
   | some _=>bif Nat.beq n n' then (bif inB li i n then .pur (.box r T k (p.then (Pth.arr n k i))) else .need (0≤i∧i<(n:Int)) (.pur (.box r T k (p.then (Pth.arr n k i))))) else .no
   | none=> .no)
 | some (.pt (.arr n k) X),some (_,i,li,_),some (.array n' e)=>(match c.is e k with
   | some _=>bif Nat.beq n n' then (bif inB li i n then .pur (.pt k (ix X i)) else .need (0≤i∧i<(n:Int)) (.pur (.pt k (ix X i)))) else .no
   | none=> .no)
 | some (.psl l),some (_,i,_,_),some (.slice e)=>(match c.ty true e with
   | some (.ptr _,_)=> .need (0≤i∧i<lenI l) (altP i 0 l)
   | _=> .no)
 | _,_,_=> .no
def qlv (c:Seat) (s:St) (t:TypeId) (x i:Operand):MV:=
 match s.opd x,(s.opd i).bind SVal.asI,c.P.underlying t with
 | some (.val (.arr n k) X),some (_,i,li,_),some (.array n' e)=>(match c.is e k with
   | some _=>bif Nat.beq n n' then (bif inB li i n then .pur (.of k (ix X i)) else .need (0≤i∧i<(n:Int)) (.pur (.of k (ix X i)))) else .no
   | none=> .no)
 | some (.str l),some (_,i,_,_),some .string=> .need (0≤i∧i<(l.length:Int)) (.pur (.byt (ix l i)))
 | some (.agg l),some (_,i,true,_),some (.array n e)=>(match c.ty true e,l[i.toNat]? with
   | some (.ptr _,_),some v=>bif Nat.beq l.length n && inB true i n then .pur v else .no
   | _,_=> .no)
 | _,_,_=> .no
def qfb (s:St) (x:Operand):MV:=
 match s.opd x with
 | some (.box r T k p)=> .pur (.box r T k p)
 | some (.pt k X)=> .pur (.pt k X)
 | some (.val (.ptr k) X)=> .need (X.isSome=true) (.pur (.pt k (X.getD k.dft)))
 | _=> .no
def qct:List (Nat×Nat)→Nat→Option Nat
 | [],_=>none
 | (o,r)::l,q=>bif Nat.beq o q then some r else qct l q
def Ty.hid:Ty→Bool
 | .hsl _ _ | .hmp _ _ | .hpt | .hfn=>true
 | _=>false
def Ty.hslB:Ty→Bool
 | .pr a b=>a.hslB || b.hslB
 | .st a=>a.hslB
 | .hsl _ _=>true
 | _=>false
def full (s:St) (ps:List (Nat×Nat)):(T:Ty)→Nat→T.den→Option (Sigma Ty.den)
 | .hsl _ _,o,_=>(match qct ps o with
   | some q=>(match s.res q with
     | some ⟨.ow _ k' y,_,_⟩=>some ⟨.sl k',y⟩
     | _=>none)
   | none=>none)
 | .pr a b,o,x=>(match full s ps a o x.1,full s ps b (o+a.kd.sz) x.2 with
   | some ⟨a',x'⟩,some ⟨b',y'⟩=>some ⟨.pr a' b',(x',y')⟩
   | _,_=>none)
 | .st a,o,x=>(match full s ps a o x with
   | some ⟨a',x'⟩=>some ⟨.st a',x'⟩
   | none=>none)
 | T,_,x=>some ⟨T,x⟩
def qkP (c:Seat) (s:St) (t:TypeId) (ps:List (Nat×Nat)) (k:Ty) (o:Nat) (x:k.den):Option (Sigma Ty.den):=
 bif k.hslB then (match full s ps k o x with
  | some z=>bif (c.is t z.1).isSome then some z else none
  | none=>none) else none
theorem SVal.relL.len {θ:Th} {n:Nat} {K:Ghost}: ∀ {l:List SVal} {vs:List Value},SVal.relL θ n K l vs→vs.length=l.length
 | [],vs,h=>by have h':vs=[]:=h;rw [h'];rfl
 | s::l,vs,⟨v,r,e,h1,h2⟩=>by rw [e,List.length_cons,List.length_cons,SVal.relL.len h2]
theorem SVal.relL.get {θ:Th} {n:Nat} {K:Ghost}: ∀ {l:List SVal} {vs:List Value} {i:Int} {v:SVal},SVal.relL θ n K l vs→l[i.toNat]?=some v→0≤i→v.rel θ n K (ix vs i)
 | [],vs,i,v,h,hv,_=>by simp at hv
 | s::l,vs,i,v,⟨u,r,e,h1,h2⟩,hv,h0=>by
   subst e
   obtain ⟨m,rfl⟩:=Int.eq_ofNat_of_zero_le h0
   cases m with
   | zero=>
     simp at hv
     subst hv
     exact h1
   | succ m=>
     have hv':l[((m:Nat):Int).toNat]?=some v:=by simpa using hv
     have:=SVal.relL.get h2 hv' (Int.natCast_nonneg m)
     have e:ix (u::r) ((m+1:Nat):Int)=ix r (m:Int):=by simp [ix]
     rw [e]
     exact this
theorem qlA: ∀ {vs:List Value} {K:Ghost},(∀u∈vs,u.oneCell'=true)→RL (Kd.vptr.R K) vs vs
 | [],K,_=>rfl
 | v::vs,K,h=>⟨[v],vs,rfl,⟨rfl,h v (by simp)⟩,qlA fun u hu=>h u (by simp [hu])⟩
theorem qgK: ∀ {vs cs:List Value} {K:Ghost},RL (Kd.vptr.R K) vs cs→cs=vs∧∀u∈vs,u.oneCell'=true
 | [],cs,K,h=>⟨h,fun u hu=>by cases hu⟩
 | v::vs,cs,K,⟨c1,c2,e,⟨h1,h2⟩,h3⟩=>by
   obtain ⟨h4,h5⟩:=qgK h3
   refine ⟨by rw [e,h1,h4];rfl,fun u hu=>?_⟩
   rcases List.mem_cons.1 hu with rfl | hu
   ·exact h2
   ·exact h5 u hu
theorem qnj {n:Nat} {vs:List Value} {K:Ghost} {v:Value} (hv:v= .agg vs.toArray) (hn:n=vs.length) (ho: ∀u∈vs,u.oneCell'=true):(Kd.arr n Kd.vptr).V K vs v:=⟨vs,⟨hn.symm,qlA ho⟩,hv⟩
theorem qig {n:Nat} {vs:List Value} {K:Ghost} {v:Value} (h:(Kd.arr n Kd.vptr).V K vs v):v= .agg vs.toArray∧n=vs.length∧∀u∈vs,u.oneCell'=true:=by
 obtain ⟨cs,⟨h1,h2⟩,h3⟩:=h
 obtain ⟨h4,h5⟩:=qgK h2
 exact ⟨by rw [h3,h4];rfl,h1.symm,h5⟩
theorem TyOk.vptr {P:Program} {t b:Nat} {T:Ty} (h:TyOk P t (Ty.ptr T).kd b):TyOk P t Kd.vptr b:=⟨h.info,h.desc⟩
theorem TyOk.varr {P:Program} {t b n:Nat} {T:Ty} (h:TyOk P t (Ty.arr n (.ptr T)).kd b):TyOk P t (Kd.arr n Kd.vptr) b:=⟨h.info,h.desc⟩
def qoG (c:Seat) (s:St) (t:TypeId) (x:Operand):MV:=
 match s.opd x with
 | some (.pt k X)=>(match c.is t k with
   | some _=> .hld none (.of k X)
   | none=> .no)
 | some (.val (.ptr k) X)=>(match c.is t k with
   | some _=> .need (X.isSome=true) (.hld none (.of k (X.getD k.dft)))
   | none=> .no)
 | some (.box r T k p)=>(match s.res r,c.is t k with
   | some ⟨.bx T' X ps,_,_⟩,some _=>if h:T'=T then (bif k.hid then (match qct ps p.off with
      | some q=>(match s.res q with
        | some ⟨.ow _ k' y,_,_⟩=> .hld (some r) (.own q k' y)
        | some ⟨.mp _ _ _ _,_,_⟩=> .hld (some r) (.mp q)
        | some ⟨.rw _ _ _,_,_⟩=> .hld (some r) (.rw q)
        | some ⟨.bk _ x,_,_⟩=>(match x with
          | none=> .hld (some r) .nil
          | some _=> .hld (some r) (.obj q))
        | _=> .no)
      | none=> .no) else (match qkP c s t ps k p.off (p.get (Ty.cast h X)) with
        | some ⟨k',x'⟩=> .hld (some r) (.of k' x')
        | none=> .hld (some r) (.of k (p.get (Ty.cast h X))))) else .no
   | _,_=> .no)
 | some (.rpt r k i)=>(match s.res r,c.is t k with
   | some ⟨.rw _ k' l,_,_⟩,some _=>if h:k'=k then (bif k.flatB then .hld (some r) (.of k (ix (qb4 h l) i)) else .no) else .no
   | _,_=> .no)
 | some (.ppt v)=>(match c.ty true t with
   | some (.ptr _,_)=> .hld none v
   | _=> .no)
 | some (.obj r)=>(match s.res r,c.ty false t with
   | some ⟨.cl n (some l),_,_⟩,some (.arr n' (.ptr _),_)=>bif Nat.beq n n' then .hld (some r) (.agg l) else .no
   | _,_=> .no)
 | _=> .no
def qgH (s:St) (x:Operand) (i:Nat):MV:=
 match s.opd x with
 | some (.tup l)=>match l[i]? with
   | some v=> .pur v
   | none=> .no
 | _=> .no
def St.opds (s:St):List Operand→Option (List SVal)
 | []=>some []
 | x::l=>match s.opd x,s.opds l with
   | some v,some r=>some (v::r)
   | _,_=>none
def qoF (s:St) (f:Fn) (fs cs:Array Operand):MV:=
 match f,fs.toList,s.opds cs.toList with
 | .func f,[],some l=> .pur (.fn f l)
 | _,_,_=> .no
section
variable {c:Seat} {G:Glob} {s:St} {ρ:Env} {θ:Th} {w:World} {K:Ghost} {x y i:Operand} {n:Nat}
variable {dst:Option Tmp} {ty:TypeId} {pos:String} {af:Array Edge} {g:Option (Nat×Bool)} {t t1 t2:TypeId} {f:Nat}
theorem qfj (hc:c.ok) (h:Rel G s θ ρ w K):(qd7 c s t x f).snd c.P ⟨dst,.fieldAddr t x f,ty,pos,af,g⟩ ρ θ s.nx w K:=by
 unfold qd7
 split
 ·rename_i r T k p hX
  split
  ·rename_i k' q hq
   obtain ⟨hcn,fs,fd,b,hu,hf,ho,hT⟩:=qdX hc hq
   cases hz:Nat.beq k'.kd.sz 0 with
   | true=>trivial
   | false=>
     obtain ⟨hr,hp,bl,o,hk,hv⟩:=h.opd hX
     refine qad (v:= .box _ _ _ _) (val:= .pointer (some ⟨bl,o+p.off+q.off,none⟩)) ⟨hr,⟨hp,hcn⟩,bl,o,hk,by rw [Nat.add_assoc];rfl⟩ fun w'=>R_fa hv hu hf ho hT hz
  ·trivial
 ·rename_i k X hX
  split
  ·rename_i k' q hq
   obtain ⟨hcn,fs,fd,b,hu,hf,ho,hT⟩:=qdX hc hq
   cases hz:Nat.beq k'.kd.sz 0 with
   | true=>trivial
   | false=>
     have hP:k.kd.Pt K X (ev ρ x):=h.opd hX
     obtain ⟨bl,o,hv⟩:=hP.form
     rw [hv] at hP
     exact qad (v:= .pt _ _) (hP.foc (q.ok hcn)) fun w'=>R_fa hv hu hf ho hT hz
  ·trivial
 ·trivial
theorem qjz (hc:c.ok) (h:Rel G s θ ρ w K):(qlt c s t x f).snd c.P ⟨dst,.field t x f,ty,pos,af,g⟩ ρ θ s.nx w K:=by
 unfold qlt
 split
 ·rename_i k X hX
  split
  ·rename_i k' q hq
   obtain ⟨hcn,fs,fd,b,hu,hf,ho,hT⟩:=qdX hc hq
   cases ha:k.kd.agg with
   | false=>trivial
   | true=>
     obtain ⟨u,hr,hV⟩:=qqA (dst:=dst) (ty:=ty) (pos:=pos) (af:=af) (g:=g) (q.ok hcn) rfl (h.opd hX) ha hu hf ho hT
     exact qad (SVal.of_rel hV) hr
  ·trivial
 ·trivial
theorem qiO {l:Bool} {a:Int} (h:inB l a n=true):0≤a∧a<(n:Int):=by
 simp only [inB,Bool.and_eq_true,decide_eq_true_eq] at h
 exact ⟨h.1.2,h.2⟩
theorem qbd {o:Option SVal} {z:IntKind×Int×Bool×Bool} (h:o.bind SVal.asI=some z): ∃X,o=some X∧X.asI=some z:=by
 cases o with
 | none=>cases h
 | some X=>exact ⟨X,rfl,h⟩
theorem qiz {P:Program} {o:Oper} {ρ:Env} {θ:Th} {n:Nat} {w:World} {K:Ghost} {i:Int} {u v:Value} (hr: ∀w':World,(execOp (ev ρ) o).run P w'= .ok (.value v) w') (hP:Kd.vptr.Pt K u v): ∀ {l:List SVal} {vs:List Value} {j:Int} {m:Nat},SVal.relL θ n K l vs→i=j+(m:Int)→vs[m]?=some u→(altP i j l).snd P o ρ θ n w K
 | [],vs,j,m,h,hi,hu=>by
   have h':vs=[]:=h
   rw [h'] at hu
   simp at hu
 | s::l,vs,j,m,⟨v0,r,e,h1,h2⟩,hi,hu=>by
   subst e
   cases l with
   | nil=>
     have h':r=[]:=h2
     subst h'
     cases m with
     | zero=>
       simp at hu
       subst hu
       exact ⟨by omega,qad (v:= .ppt s) ⟨_,hP,h1⟩ hr⟩
     | succ m=>simp at hu
   | cons s2 l=>
     cases m with
     | zero=>
       simp at hu
       subst hu
       exact .inl ⟨by omega,qad (v:= .ppt s) ⟨_,hP,h1⟩ hr⟩
     | succ m=>exact .inr (qiz hr hP (j:=j+1) (m:=m) h2 (by omega) (by simpa using hu))
theorem qfk (hc:c.ok) (h:Rel G s θ ρ w K):(qd8 c s t x i).snd c.P ⟨dst,.indexAddr t x i,ty,pos,af,g⟩ ρ θ s.nx w K:=by
 unfold qd8
 split
 ·rename_i k l ik a li lv e hX hI hu
  obtain ⟨I,hI1,hI2⟩:=qbd hI
  obtain ⟨ei,wi⟩:=SVal.asI_rel hI2 (h.opd hI1)
  split
  ·rename_i b hb
   intro hp
   obtain ⟨bl,o,hr,hP⟩:=qej (dst:=dst) (ty:=ty) (pos:=pos) (af:=af) (g:=g) (k:=k.kd) rfl (h.opd hX) ei hu (hc.is_ok hb) hp.1 hp.2
   exact qad (v:= .pt _ _) hP hr
  ·trivial
 ·rename_i r k l ik a li lv e hX hI hu
  obtain ⟨I,hI1,hI2⟩:=qbd hI
  obtain ⟨ei,wi⟩:=SVal.asI_rel hI2 (h.opd hI1)
  split
  ·rename_i b hb
   intro hp
   obtain ⟨bl,o,hr,hP⟩:=qej (dst:=dst) (ty:=ty) (pos:=pos) (af:=af) (g:=g) (k:=k.kd) rfl (h.opd hX).2.1 ei hu (hc.is_ok hb) hp.1 hp.2
   exact qad (v:= .pt _ _) hP hr
  ·trivial
 ·rename_i r ik a li lv e hX hI hu
  obtain ⟨I,hI1,hI2⟩:=qbd hI
  obtain ⟨ei,wi⟩:=SVal.asI_rel hI2 (h.opd hI1)
  split
  ·rename_i e' k l og lk hres
   split
   ·rename_i b hb
    cases he:Nat.beq e' e with
    | false=>trivial
    | true=>
      obtain rfl:=Nat.eq_of_beq_eq_true he
      simp only [cond_true]
      intro hp
      obtain ⟨hr,hkey⟩:=h.opd hX
      have hR:=(h.res _ _ hres).2.1.1
      rw [hkey] at hR
      obtain ⟨bl,o,hrun,hA⟩:=qqB (dst:=dst) (ty:=ty) (pos:=pos) (af:=af) (g:=g) rfl hR ei hu (hc.is_ok hb) hp.1 hp.2
      exact qad (v:= .rpt _ _ _) ⟨hr,bl,o,by rw [hkey];exact hA,rfl⟩ hrun
   ·trivial
  ·trivial
 ·rename_i r T m k p ik a li lv m' e hX hI hu
  obtain ⟨I,hI1,hI2⟩:=qbd hI
  obtain ⟨ei,wi⟩:=SVal.asI_rel hI2 (h.opd hI1)
  split
  ·rename_i b hb
   cases hn:Nat.beq m m' with
   | false=>trivial
   | true=>
     obtain rfl:=Nat.eq_of_beq_eq_true hn
     obtain ⟨hr,hp,bl,o,hk,hv⟩:=h.opd hX
     have key:(0≤a∧a<(m:Int))→(MV.pur (.box r T k (p.then (Pth.arr m k a)))).snd c.P ⟨dst,.indexAddr t x i,ty,pos,af,g⟩ ρ θ s.nx w K:=fun hb'=>
      qad (v:= .box _ _ _ _) (val:= .pointer (some ⟨bl,o+p.off+a.toNat *k.kd.sz,none⟩)) ⟨hr,⟨hp,hb'⟩,bl,o,hk,by rw [Nat.add_assoc];rfl⟩ fun w'=>qpa hv ei hu (hc.is_ok hb) hb'.1 hb'.2
     simp only [cond_true]
     cases hin:inB li a m with
     | true=>exact key (qiO hin)
     | false=>exact key
  ·trivial
 ·rename_i m k X ik a li lv m' e hX hI hu
  obtain ⟨I,hI1,hI2⟩:=qbd hI
  obtain ⟨ei,wi⟩:=SVal.asI_rel hI2 (h.opd hI1)
  split
  ·rename_i b hb
   cases hn:Nat.beq m m' with
   | false=>trivial
   | true=>
     obtain rfl:=Nat.eq_of_beq_eq_true hn
     have hP:(Ty.arr m k).kd.Pt K X (ev ρ x):=h.opd hX
     obtain ⟨bl,o,hv⟩:=hP.form
     rw [hv] at hP
     have key:(0≤a∧a<(m:Int))→(MV.pur (.pt k (ix X a))).snd c.P ⟨dst,.indexAddr t x i,ty,pos,af,g⟩ ρ θ s.nx w K:=fun hb'=>
      qad (v:= .pt _ _) (Kd.Pt.foc ((Pth.arr m k a).ok hb') hP) fun w'=>qpa hv ei hu (hc.is_ok hb) hb'.1 hb'.2
     simp only [cond_true]
     cases hin:inB li a m with
     | true=>exact key (qiO hin)
     | false=>exact key
  ·trivial
 ·rename_i l ik a li lv e hX hI hu
  obtain ⟨I,hI1,hI2⟩:=qbd hI
  obtain ⟨ei,wi⟩:=SVal.asI_rel hI2 (h.opd hI1)
  split
  ·rename_i T b hT
   rw [qkX]
   intro hp
   obtain ⟨vs,hV,hl⟩:=h.opd hX
   have hlen:=SVal.relL.len hl
   obtain ⟨bl,o,hr,hP⟩:=qej (dst:=dst) (ty:=ty) (pos:=pos) (af:=af) (g:=g) (k:=Kd.vptr) rfl hV ei hu (TyOk.vptr (hc.ty_ok hT)) hp.1 (by rw [hlen];exact hp.2)
   have hlt:a.toNat<vs.length:=by omega
   refine qiz hr hP (j:=0) (m:=a.toNat) hl (by omega) ?_
   rw [List.getElem?_eq_getElem hlt]
   simp [ix,List.getElem?_eq_getElem hlt]
  ·trivial
 ·trivial
theorem qjA (hc:c.ok) (h:Rel G s θ ρ w K):(qlv c s t x i).snd c.P ⟨dst,.index t x i,ty,pos,af,g⟩ ρ θ s.nx w K:=by
 unfold qlv
 split
 ·rename_i m k X ik a li lv m' e hX hI hu
  obtain ⟨I,hI1,hI2⟩:=qbd hI
  obtain ⟨ei,wi⟩:=SVal.asI_rel hI2 (h.opd hI1)
  split
  ·rename_i b hb
   cases hn:Nat.beq m m' with
   | false=>trivial
   | true=>
     obtain rfl:=Nat.eq_of_beq_eq_true hn
     have key:(0≤a∧a<(m:Int))→(MV.pur (.of k (ix X a))).snd c.P ⟨dst,.index t x i,ty,pos,af,g⟩ ρ θ s.nx w K:=fun hb'=>by
      obtain ⟨u,hr,hV⟩:=qpx (dst:=dst) (ty:=ty) (pos:=pos) (af:=af) (g:=g) (k:=k.kd) rfl (h.opd hX) ei hu (hc.is_ok hb) hb'.1 hb'.2
      exact qad (SVal.of_rel hV) hr
     simp only [cond_true]
     cases hin:inB li a m with
     | true=>exact key (qiO hin)
     | false=>exact key
  ·trivial
 ·rename_i l ik a li lv hX hI hu
  obtain ⟨I,hI1,hI2⟩:=qbd hI
  obtain ⟨ei,wi⟩:=SVal.asI_rel hI2 (h.opd hI1)
  exact fun hp=>qad (v:= .byt _) rfl fun w'=>qqs (h.opd hX).1 ei hu hp.1 hp.2
 ·rename_i l ik a lv n e hX hI hu
  obtain ⟨I,hI1,hI2⟩:=qbd hI
  obtain ⟨ei,wi⟩:=SVal.asI_rel hI2 (h.opd hI1)
  split
  ·rename_i T b v hT hv
   cases hn:(Nat.beq l.length n && inB true a n) with
   | false=>trivial
   | true=>
     simp only [Bool.and_eq_true] at hn
     obtain rfl:=Nat.eq_of_beq_eq_true hn.1
     obtain ⟨i0,i1⟩:=qiO hn.2
     obtain ⟨vs,hx,hr,ho⟩:=h.opd hX
     have hT':TyOk c.P e Kd.vptr b:=TyOk.vptr (hc.ty_ok hT)
     obtain ⟨u,hu1,hu2⟩:=qpx (dst:=dst) (ty:=ty) (pos:=pos) (af:=af) (g:=g) (k:=Kd.vptr) (K:=K) (l:=vs) (n:=l.length) rfl (qnj hx (SVal.relL.len hr).symm ho) ei hu hT' i0 i1
     have hu3:u=ix vs a:=by obtain ⟨cs,⟨h1,_⟩,h2⟩:=hu2;rw [h2,h1];rfl
     rw [hu3] at hu1
     exact qad (SVal.relL.get hr hv i0) hu1
  ·trivial
 ·trivial
theorem qgI (h:Rel G s θ ρ w K):(qfb s x).snd c.P ⟨dst,.nilCheck x,ty,pos,af,g⟩ ρ θ s.nx w K:=by
 unfold qfb
 split
 ·rename_i r T k p hX
  have hr:=h.opd hX
  obtain ⟨_,_,bl,o,_,hv⟩:=hr
  exact qad (val:= .pointer (some ⟨bl,o+p.off,none⟩)) (by rw [←hv];exact h.opd hX) fun w'=>qaB hv
 ·rename_i k X hX
  have hP:k.kd.Pt K X (ev ρ x):=h.opd hX
  obtain ⟨bl,o,hv⟩:=hP.form
  exact qad (v:= .pt _ _) (by rw [←hv];exact hP) fun w'=>qaB hv
 ·rename_i k X hX
  intro hs
  obtain ⟨y,rfl⟩:=Option.isSome_iff_exists.1 hs
  obtain ⟨y',bl,o,he,hv,hP⟩:=qgB (k:=k.kd) (h.opd hX) (by simp)
  cases he
  exact qad (v:= .pt _ _) hP fun w'=>qaB hv
 ·trivial
theorem qcU: ∀ {l:List (Nat×Nat)} {o q:Nat},qct l o=some q→(o,q)∈l
 | [],o,q,h=>by cases h
 | (o',r)::l,o,q,h=>by
   simp only [qct] at h
   cases hb:Nat.beq o' o with
   | true=>
     rw [hb] at h
     cases h
     obtain rfl:=Nat.eq_of_beq_eq_true hb
     exact List.mem_cons_self
   | false=>
     rw [hb] at h
     exact List.mem_cons_of_mem _ (qcU h)
theorem qms {t:TypeId} {b:Nat}: ∀ {k:Ty},k.hid=true→TyOk c.P t k.kd b→∀ {a:Addr} {v:Value} {w':World},v.oneCell'=true→w'.cell? a=some v→(loadVar t a).run c.P w'= .ok v w':=by
 have key: ∀z hz,TyOk c.P t (Kd.hid z hz) b→∀ {a:Addr} {v:Value} {w':World},v.oneCell'=true→w'.cell? a=some v→(loadVar t a).run c.P w'= .ok v w':=fun z hz hT a v w' h1 hcl=>
  qb7 (K:=fun _=>none) (x:=()) hT a (cs:=[v]) (fun j u hj=>by
   cases j with
   | zero=>
     simp at hj
     subst hj
     rw [show a.add 0=a from by cases a;simp [Addr.add]]
     exact hcl
   | succ j=>simp at hj) ⟨v,rfl,h1⟩
 intro k hk hT
 cases k with
 | hsl _ _=>exact key _ _ hT
 | hmp _ _=>exact key _ _ hT
 | hpt=>exact key _ _ hT
 | hfn=>exact key _ _ hT
 | _=>cases hk
theorem qgr (h:Rel G s θ ρ w K) {ps:List (Nat×Nat)}: ∀ {T:Ty} {o:Nat} {x:T.den} {z:Sigma Ty.den} {cs:List Value},full s ps T o x=some z→T.kd.R K x cs→(∀p∈ps,∀j,p.1=o+j→j<cs.length→cs[j]?=some (θ.key p.2))→z.1.kd.R K z.2 cs
 | .hsl e t,o,x,z,cs,hz,hR,hp=>by
   simp only [full] at hz
   split at hz
   ·rename_i q hq
    split at hz
    ·rename_i e' k' y og lk hqr
     cases hz
     obtain ⟨v,rfl,h1⟩: ∃v,cs=[v]∧v.oneCell'=true:=by
      obtain ⟨v,hv⟩:=hR
      exact ⟨v,hv⟩
     have hc:=hp _ (qcU hq) 0 rfl (by simp)
     simp at hc
     have hV:=(h.res _ _ hqr).2.1.1.V.cells
     rw [←hc,qb9 h1] at hV
     exact hV
    ·cases hz
   ·cases hz
 | .pr a b,o,x,z,cs,hz,⟨c1,c2,hcs,h1,h2⟩,hp=>by
   subst hcs
   simp only [full] at hz
   split at hz
   ·rename_i a' x' b' y' hA hB
    cases hz
    have l1:c1.length=a.kd.sz:=a.kd.len h1
    have g1:=qgr h hA h1 (fun p hpm j hj hlt=>by
     have:=hp p hpm j hj (by rw [List.length_append];omega)
     rwa [List.getElem?_append_left hlt] at this)
    have g2:=qgr h hB h2 (fun p hpm j hj hlt=>by
     have:=hp p hpm (a.kd.sz+j) (by rw [hj,Nat.add_assoc]) (by rw [List.length_append,l1];omega)
     rwa [List.getElem?_append_right (by omega),l1,Nat.add_sub_cancel_left] at this)
    exact ⟨c1,c2,rfl,g1,g2⟩
   ·cases hz
 | .st a,o,x,z,cs,hz,hR,hp=>by
   simp only [full] at hz
   split at hz
   ·rename_i a' x' hA
    cases hz
    exact qgr (T:=a) (z:=⟨a',x'⟩) h hA hR hp
   ·cases hz
 | .int _,o,x,z,cs,hz,hR,hp=>by cases hz;exact hR
 | .byte,o,x,z,cs,hz,hR,hp=>by cases hz;exact hR
 | .bool,o,x,z,cs,hz,hR,hp=>by cases hz;exact hR
 | .str,o,x,z,cs,hz,hR,hp=>by cases hz;exact hR
 | .arr _ _,o,x,z,cs,hz,hR,hp=>by cases hz;exact hR
 | .sl _,o,x,z,cs,hz,hR,hp=>by cases hz;exact hR
 | .un,o,x,z,cs,hz,hR,hp=>by cases hz;exact hR
 | .ptr _,o,x,z,cs,hz,hR,hp=>by cases hz;exact hR
 | .hmp _ _,o,x,z,cs,hz,hR,hp=>by cases hz;exact hR
 | .hpt,o,x,z,cs,hz,hR,hp=>by cases hz;exact hR
 | .hfn,o,x,z,cs,hz,hR,hp=>by cases hz;exact hR
 | .anm,o,x,z,cs,hz,hR,hp=>by cases hz;exact hR
theorem qkQ {T:Ty} {ps:List (Nat×Nat)} {o:Nat} {x:T.den} {z:Sigma Ty.den} (h:qkP c s t ps T o x=some z):full s ps T o x=some z∧∃b,c.is t z.1=some b:=by
 unfold qkP at h
 cases hh:T.hslB with
 | false=>rw [hh] at h;cases h
 | true=>
   rw [hh] at h
   simp only [cond_true] at h
   split at h
   ·rename_i z' hz'
    cases hb:(c.is t z'.1).isSome with
    | false=>rw [hb] at h;cases h
    | true=>
      rw [hb] at h
      cases h
      exact ⟨hz',Option.isSome_iff_exists.1 hb⟩
   ·cases h
theorem qg5 {ad:Addr} {v:Value} (hx:ev ρ x= .pointer (some ad)) {w':World} (hl:(loadVar t ad).run c.P w'= .ok v w'):(execOp (ev ρ) ⟨dst,.load t x,ty,pos,af,g⟩).run c.P w'= .ok (.value v) w':=by
 unfold execOp
 simp only [hx]
 simp [Instr.loadAt,Instr.sureAddr,hl]
theorem qlw (hc:c.ok) (h:Rel G s θ ρ w K):(qoG c s t x).snd c.P ⟨dst,.load t x,ty,pos,af,g⟩ ρ θ s.nx w K:=by
 unfold qoG
 split
 ·rename_i k X hX
  split
  ·rename_i b hb
   have hP:k.kd.Pt K X (ev ρ x):=h.opd hX
   obtain ⟨bl,o,hv⟩:=hP.form
   rw [hv] at hP
   obtain ⟨v,hr,hV⟩:=S_ld (dst:=dst) (ty:=ty) (pos:=pos) (af:=af) (g:=g) (Z:=fun _=>True) (x:=x) (w:=w) hv (hc.is_ok hb) hP
   refine ⟨v,SVal.of_rel hV,fun Z _ w' K' hE hM=>hr w' K' (hE.weak fun _ _ _=>trivial) hM⟩
  ·trivial
 ·rename_i k X hX
  split
  ·rename_i b hb
   intro hs
   obtain ⟨y,rfl⟩:=Option.isSome_iff_exists.1 hs
   obtain ⟨y',bl,o,he,hv,hP⟩:=qgB (k:=k.kd) (h.opd hX) (by simp)
   cases he
   obtain ⟨v,hr,hV⟩:=S_ld (dst:=dst) (ty:=ty) (pos:=pos) (af:=af) (g:=g) (Z:=fun _=>True) (x:=x) (w:=w) hv (hc.is_ok hb) hP
   refine ⟨v,SVal.of_rel hV,fun Z _ w' K' hE hM=>hr w' K' (hE.weak fun _ _ _=>trivial) hM⟩
  ·trivial
 ·rename_i r T k p hX
  obtain ⟨hr,hp,bl,o,hk,hv⟩:=h.opd hX
  split
  ·rename_i T' X ps og lk b hres hb
   split
   ·rename_i hTT
    subst hTT
    obtain ⟨bl',hk',hf,hB,hps⟩:=(h.res _ _ hres).2.1
    rw [hk] at hk'
    cases hk'
    have hT:=hc.is_ok hb
    cases hh:k.hid with
    | false=>
      simp only [cond_false]
      split
      ·rename_i k' x' hz
       obtain ⟨hz,b',hb'⟩:=qkQ hz
       have hz:full s ps k p.off (p.get X)=some ⟨k',x'⟩:=hz
       have hT':=hc.is_ok hb'
       have hB0:=hB
       obtain ⟨hKn,cs,Tt,hh',hR⟩:=hB
       obtain ⟨p1,m,q1,rfl,hl,hRm,_⟩:=(p.ok hp).foc hR
       have hcell: ∀j u,m[j]?=some u→w.cell? ⟨bl,(θ.sur r).1.length+p.off+j,none⟩=some u:=fun j u hj=>by
        unfold World.cell?
        rw [hh']
        have hjl:=(List.getElem?_eq_some_iff.1 hj).1
        simp only [List.getElem?_toArray]
        rw [show (θ.sur r).1++(p1++m++q1)++(θ.sur r).2=((θ.sur r).1++p1)++(m++(q1++(θ.sur r).2)) from by simp,show (θ.sur r).1.length+p.off+j=((θ.sur r).1++p1).length+j from by rw [List.length_append,hl],List.getElem?_append_right (Nat.le_add_right _ _),Nat.add_sub_cancel_left,List.getElem?_append_left hjl]
        exact hj
       have hRz:=qgr h hz hRm (fun p' hp' j hj hlt=>by
        have h2:=(hps p' hp').2
        rw [hj,←Nat.add_assoc,hcell j _ (List.getElem?_eq_getElem hlt)] at h2
        rw [List.getElem?_eq_getElem hlt]
        exact h2)
       refine ⟨_,SVal.of_rel (t:=k') (Kd.val_V hRz),fun Z hZ w' K' hE hM=>qg5 hv (qb7 hT' _ (cs:=m) (fun j u hj=>?_) (k'.kd.mono hE.le hRz))⟩
       have:=hcell j u hj
       rw [←qgh hE hB0.lt (fun hzz=>hZ r rfl _ ((hf _).2 rfl) hzz)] at this
       by_cases hj0:j=0
       ·subst hj0
        simpa [Addr.add] using this
       ·simp only [Addr.add]
        simpa [hj0] using this
      ·obtain ⟨v,hrun,hV⟩:=qaT (dst:=dst) (ty:=ty) (pos:=pos) (af:=af) (g:=g) (Z:=fun g=>g≠bl) (x:=x) (p.ok hp) hv hT hB rfl (by simp)
       refine ⟨v,SVal.of_rel hV,fun Z hZ w' K' hE hM=>?_⟩
       exact hrun w' K' (hE.weak fun g _ hg=>fun e=>hZ r rfl g ((hf g).2 e) hg) hM
    | true=>
      simp only [cond_true]
      split
      ·rename_i q hq
       have hcell:=hps _ (qcU hq)
       have gen:(θ.key q).oneCell'=true→∀sv:SVal,sv.rel θ s.nx K (θ.key q)→(MV.hld (some r) sv).snd c.P ⟨dst,.load t x,ty,pos,af,g⟩ ρ θ s.nx w K:=fun h1 sv hsv=>by
        refine ⟨θ.key q,hsv,fun Z hZ w' K' hE hM=>qg5 hv (qms hh hT h1 ?_)⟩
        rw [qgh hE hB.lt (fun hz=>hZ r rfl _ ((hf _).2 rfl) hz)]
        exact hcell.2
       split
       ·rename_i e' k' y o' l' hqr
        have hO:=(h.res _ _ hqr).2.1.1
        exact gen hO.one _ ⟨hcell.1,hO.V,rfl⟩
       ·rename_i hqr
        have hO:=(h.res _ _ hqr).2.1.1
        exact gen hO.one _ ⟨hcell.1,rfl⟩
       ·rename_i hqr
        have hO:=(h.res _ _ hqr).2.1.1
        obtain ⟨_,l,hO⟩:=hO
        exact gen hO.one _ ⟨hcell.1,rfl⟩
       ·rename_i e' xb o' l' hqr
        have hO:qaJ e' w K (θ.key q) (θ.fp q) xb:=(h.res _ _ hqr).2.1
        have h1:(θ.key q).oneCell'=true:=by
         cases xb with
         | none=>rw [hO.1];rfl
         | some y=>obtain ⟨b,_,_,_,_,_,hv,_⟩:=hO;rw [hv];rfl
        split
        ·exact gen h1 _ hO.1
        ·exact gen h1 _ ⟨hcell.1,rfl⟩
       ·trivial
      ·trivial
   ·trivial
  ·trivial
 ·rename_i r k i hX
  split
  ·rename_i e k' l og lk b hres hb
   split
   ·rename_i hk
    subst hk
    cases hf:k'.flatB with
    | false=>trivial
    | true=>
      obtain ⟨hr,bl,o,hA,hv⟩:=h.opd hX
      obtain ⟨hR,hfp⟩:=(h.res _ _ hres).2.1
      obtain ⟨v',hV',hrun⟩: ∃v',k'.kd.V K (ix l i) v'∧∀w' K',Ext (fun g=>ob (θ.key r)≠some g) w K w' K'→Models w' K'→(execOp (ev ρ) ⟨dst,.load t x,ty,pos,af,g⟩).run c.P w'= .ok (.value v') w':=by
       obtain ⟨v',h1,h2⟩:=qqC (dst:=dst) (ty:=ty) (pos:=pos) (af:=af) (g:=g) (Z:=fun g=>ob (θ.key r)≠some g) (Ty.flat_ok hf) h.mod hv (hc.is_ok hb) hR hA (fun g hg hn=>hn hg)
       exact ⟨v',h2,h1⟩
      simp only [cond_true]
      exact ⟨v',SVal.of_rel hV',fun Z hZ w' K' hE hM=>hrun w' K' (hE.weak fun g _ hg e=>hZ r rfl g ((hfp g).2 e) hg) hM⟩
   ·trivial
  ·trivial
 ·rename_i sv hX
  split
  ·rename_i T b hT
   obtain ⟨u,hP,hr⟩:=h.opd hX
   obtain ⟨bl,o,hv⟩:=hP.form
   rw [hv] at hP
   obtain ⟨v,hrun,hV⟩:=S_ld (dst:=dst) (ty:=ty) (pos:=pos) (af:=af) (g:=g) (Z:=fun _=>True) (x:=x) (w:=w) hv (TyOk.vptr (hc.ty_ok hT)) hP
   have hvu:v=u:=by obtain ⟨cs,⟨h1,_⟩,h2⟩:=hV;rw [h2,h1];rfl
   subst hvu
   exact ⟨v,hr,fun Z _ w' K' hE hM=>hrun w' K' (hE.weak fun _ _ _=>trivial) hM⟩
  ·trivial
 ·rename_i r hX
  split
  ·rename_i n l og lk n' T b hres hb
   cases hn:Nat.beq n n' with
   | false=>trivial
   | true=>
     obtain rfl:=Nat.eq_of_beq_eq_true hn
     obtain ⟨bl,vs,hk,hf,hB,hl⟩:=(h.res _ _ hres).2.1
     have hv:ev ρ x= .pointer (some ⟨bl,([]:List Value).length+0,none⟩):=(h.opd hX).2.symm.trans hk
     obtain ⟨v,hrun,hV⟩:=qaT (dst:=dst) (ty:=ty) (pos:=pos) (af:=af) (g:=g) (Z:=fun g=>g≠bl) (x:=x) (Foc.id (Kd.arr n Kd.vptr)) hv (TyOk.varr (hc.ty_ok hb)) hB rfl (by simp)
     obtain ⟨h1,_,h3⟩:=qig hV
     simp only [cond_true]
     exact ⟨v,⟨vs,h1,hl l rfl,h3⟩,fun Z hZ w' K' hE hM=>hrun w' K' (hE.weak fun g _ hg=>fun e=>hZ r rfl g ((hf g).2 e) hg) hM⟩
  ·trivial
 ·trivial
theorem qez: ∀ {l:List SVal} {vs:List Value} {j:Nat} {v:SVal},SVal.relL θ n K l vs→l[j]?=some v→∃u,vs[j]?=some u∧v.rel θ n K u
 | [],vs,j,v,h,hj=>by simp at hj
 | z::l,vs,0,v,⟨u,r,e,h1,h2⟩,hj=>by
   simp at hj
   subst hj
   exact ⟨u,by simp [e],h1⟩
 | z::l,vs,j+1,v,⟨u,r,e,h1,h2⟩,hj=>by
   obtain ⟨u',hu,hr⟩:=qez h2 (by simpa using hj)
   exact ⟨u',by simpa [e] using hu,hr⟩
theorem qhm (h:Rel G s θ ρ w K) {j:Nat}:(qgH s x j).snd c.P ⟨dst,.extract x j,ty,pos,af,g⟩ ρ θ s.nx w K:=by
 unfold qgH
 split
 ·rename_i l hX
  split
  ·rename_i v hj
   obtain ⟨vs,hv,hL⟩:=h.opd hX
   obtain ⟨u,hu,hr⟩:=qez hL hj
   exact qad hr fun w'=>qf4 hv (by simpa using hu)
  ·trivial
 ·trivial
theorem Rel.opds (h:Rel G s θ ρ w K): ∀ {l:List Operand} {vs:List SVal},s.opds l=some vs→SVal.relL θ s.nx K vs (l.map (ev ρ))
 | [],vs,hv=>by cases hv;rfl
 | z::l,vs,hv=>by
   simp only [St.opds] at hv
   split at hv
   ·rename_i v r h1 h2
    cases hv
    exact ⟨_,_,rfl,h.opd h1,h.opds h2⟩
   ·cases hv
theorem qlu (h:Rel G s θ ρ w K) {fn:Fn} {fs cs:Array Operand}:(qoF s fn fs cs).snd c.P ⟨dst,.makeFunc fn fs cs,ty,pos,af,g⟩ ρ θ s.nx w K:=by
 unfold qoF
 split
 ·rename_i q l hf hl
  have e1:fs= #[]:=by cases fs;simp at hf;rw [hf]
  have e2:cs=cs.toList.toArray:=by simp
  subst e1
  refine qad (v:= .fn _ _) ⟨_,rfl,h.opds hl⟩ fun w'=>?_
  rw [e2]
  exact qo5 (by simp)
 ·trivial
end
end Go.Inc

set_option linter.unusedVariables false
namespace Go.Inc
open Go Go.RowKit
def qmS (c:Seat) (s:St) (ty:TypeId) (x:Operand):MV:=
 match s.opd x with
 | some .snil=>(match c.P.underlying ty with
   | some (.slice e)=>(match c.ty true e with
     | some (k,_)=> .pur (.snl e k true)
     | none=> .pur .snil)
   | _=> .pur .snil)
 | some v=> .pur v
 | none=> .no
def SVal.asL:SVal→Option (Sigma fun t:Ty=>List t.den)
 | .val (.sl k) l=>some ⟨k,l⟩
 | .own _ k l=>some ⟨k,l⟩
 | .snl _ k _=>some ⟨k,[]⟩
 | _=>none
def St.opdI (s:St) (x:Operand):Option (IntKind×Int×Bool×Bool):=(s.opd x).bind SVal.asI
def isZ:Operand→Bool
 | .const (.int _ n)=>decide (n=0)
 | _=>false
def qoC (c:Seat) (s:St) (t:TypeId) (k:Ty) (l:List k.den) (lo hi mx:Option Operand):MV:=
 match c.P.underlying t with
 | some (.slice e)=>match c.is e k with
   | some _=>match lo,hi,mx with
     | none,none,none=> .pur (.val (.sl k) l)
     | some a,none,none=>match s.opdI a with
       | some (_,a,_,_)=> .need (0≤a∧a≤(l.length:Int)) (.pur (.val (.sl k) (l.drop a.toNat)))
       | none=> .no
     | none,some b,none=>match s.opdI b with
       | some (_,b,_,_)=> .need (0≤b∧b≤(l.length:Int)) (.pur (.val (.sl k) (l.take b.toNat)))
       | none=> .no
     | some a,some b,none=>match s.opdI a,s.opdI b with
       | some (_,a,_,_),some (_,b,_,_)=> .need (0≤a∧a≤b∧b≤(l.length:Int)) (.pur (.val (.sl k) ((l.take b.toNat).drop a.toNat)))
       | _,_=> .no
     | none,some b,some m=>bif isZ b && isZ m then .pur (.snl e k false) else (match s.opdI b,s.opdI m with
       | some (_,b,_,_),some (_,m,_,_)=> .need (0≤b∧b≤m∧m≤(l.length:Int)) (.pur (.val (.sl k) (l.take b.toNat)))
       | _,_=> .no)
     | _,_,_=> .no
   | none=> .no
 | _=> .no
def qb2 (s:St) (d:Int):Option Operand→Option (Int×Bool)
 | none=>some (d,true)
 | some x=>match s.opdI x with
   | some (_,a,l,_)=>some (a,l)
   | none=>none
def qoD (c:Seat) (s:St) (t:TypeId) (l:List UInt8) (lo hi:Option Operand):MV:=
 match c.P.underlying t,qb2 s 0 lo,qb2 s (l.length:Int) hi with
 | some .string,some (a,_),some (b,_)=> .need (0≤a∧a≤b∧b≤(l.length:Int)) (.pur (.str ((l.take b.toNat).drop a.toNat)))
 | _,_,_=> .no
def qmc (a b:Int) (n:Nat) (la lb:Bool):Bool:=la && lb && decide (0≤a) && decide (a≤b) && decide (b≤(n:Int)) && decide (a<(n:Int))
def qmQ (c:Seat) (s:St) (t:TypeId) (n:Nat) (k:Ty) (lo hi:Option Operand) (f:Nat→Nat→SVal):MV:=
 match c.P.underlying t,qb2 s 0 lo,qb2 s (n:Int) hi with
 | some (.array n' e),some (a,la),some (b,lb)=>match c.is e k with
   | some _=>bif Nat.beq n n' && Nat.ble n LM then (bif qmc a b n la lb then .pur (f a.toNat b.toNat) else .need (0≤a∧a≤b∧b≤(n:Int)∧a<(n:Int)) (.pur (f a.toNat b.toNat))) else .no
   | none=> .no
 | _,_,_=> .no
def qlz (c:Seat) (s:St) (t:TypeId) (x:Operand) (lo hi mx:Option Operand):MV:=
 match s.opd x with
 | some (.str l)=>match mx with
   | none=>qoD c s t l lo hi
   | some _=> .no
 | some (.box r T k p)=>(match mx,k with
   | none,.arr n k=>bif decide (T= .arr n k) && Nat.beq p.off 0 then qmQ c s t n k lo hi (fun a b=> .bsl r n k a b) else .no
   | _,_=> .no)
 | some (.pt (.arr n k) X)=>(match mx with
   | none=>qmQ c s t n k lo hi (fun a b=> .val (.sl k) ((X.take b).drop a))
   | some _=> .no)
 | some (.rw r)=>(match mx,s.res r,c.P.underlying t with
   | none,some ⟨.rw e' k l,_,_⟩,some (.slice e)=>(match c.is e k,qb2 s 0 lo,qb2 s (l.length:Int) hi with
     | some _,some (a,_),some (b,_)=> .need (0≤a∧a≤b∧b≤(l.length:Int)) (.pur (.rcut r k a.toNat b.toNat))
     | _,_,_=> .no)
   | _,_,_=> .no)
 | some v=>match v.asL with
   | some ⟨k,l⟩=>qoC c s t k l lo hi mx
   | none=> .no
 | none=> .no
theorem cutV {α:Type} {k:Kd α} {K:Ghost} {l:List α} {A:Option Addr} {len cap a b:Nat} (hV:(Kd.sl k).V K l (.slice A len cap)) (h1:a≤b) (h2:b≤l.length):(Kd.sl k).V K ((l.take b).drop a) (.slice (if cap=a then A else A.map (·.add (a *k.sz))) (b - a) (cap - a)):=by
 obtain ⟨A',cap',he,hc,hlm,hwf,hS⟩:=qbz hV
 cases he
 have hlen:((l.take b).drop a).length=b - a:=by rw [List.length_drop,List.length_take];omega
 rw [←hlen]
 refine ⟨_,⟨_,cap - a,rfl,by rw [hlen];omega,by rw [hlen];omega,fun y hy=>hwf y (List.mem_of_mem_take (List.mem_of_mem_drop hy)),?_⟩,rfl⟩
 by_cases hne:(l.take b).drop a=[]
 ·exact .inl hne
 ·have hlt:a<b:=by
   rcases Nat.lt_or_ge a b with h | h
   ·exact h
   ·exact absurd (List.eq_nil_of_length_eq_zero (by rw [hlen];omega)) hne
  rw [if_neg (by omega)]
  rcases hS with rfl | ⟨bl,e2,pre,mid,post,rfl,hK,hR⟩
  ·simp at hne
  ·have hml:=RL.len (fun _ _=>k.len) hR
   have h3:=(RL.split (fun _ _=>k.len) a (RL.split (fun _ _=>k.len) b hR).1).2
   refine .inr ⟨bl,e2,pre++mid.take (a *k.sz),(mid.take (b *k.sz)).drop (a *k.sz),mid.drop (b *k.sz)++post,?_,?_,h3⟩
   ·have:a *k.sz≤mid.length:=by rw [hml];exact Nat.mul_le_mul_right _ (by omega)
    simp only [Option.map_some,qba,List.length_append,List.length_take]
    congr 3
    omega
   ·rw [hK]
    congr 2
    have e1:mid.take (a *k.sz)++(mid.take (b *k.sz)).drop (a *k.sz)=mid.take (b *k.sz):=by
     have h4:mid.take (a *k.sz)=(mid.take (b *k.sz)).take (a *k.sz):=by
      rw [List.take_take,Nat.min_eq_left (Nat.mul_le_mul_right _ (by omega))]
     rw [h4,List.take_append_drop]
    have e2:mid=mid.take (a *k.sz)++(mid.take (b *k.sz)).drop (a *k.sz)++mid.drop (b *k.sz):=by rw [e1,List.take_append_drop]
    conv=>lhs;rw [e2]
    simp only [List.append_assoc]
theorem qnH {P:Program} {e t1:TypeId} {by_ n cap:Nat} {α:Type} {k:Kd α} {ρ:Env} {x:Operand} {A:Option Addr} {a b:Int} {dst:Option Tmp} {ty:TypeId} {pos:String} {af:Array Edge} {g:Option (Nat×Bool)} {lo hi:Option Operand} (hx:ev ρ x= .slice A n cap) (hc:n≤cap) (hu:P.underlying t1=some (.slice e)) (hT:TyOk P e k by_) (hl:qb1 ρ lo a) (hh:qbb ρ (n:Int) hi b) (h0:0≤a) (h1:a≤b) (h2:b≤(n:Int)) (w:World):
 (execOp (ev ρ) ⟨dst,.slice t1 x lo hi none,ty,pos,af,g⟩).run P w= .ok (.value (.slice (if cap=a.toNat then A else A.map (·.add (a.toNat *k.sz))) (b.toNat - a.toNat) (cap - a.toNat))) w:=by
 have hrun:=qcN (P:=P) (w:=w) (isS:=true) (n:=n) (cap:=cap) hl hh h0 h1 h2 hc
 unfold execOp
 simp only [hx]
 simp [Instr.sliceAt,Instr.slice,run_underlying hu,hrun,hT.size]
def keyB (c:Seat) (kt:TypeId) (kk:Ty):Bool:=
 match kk,c.P.underlying kt with
 | .arr n .byte,some (.array n' e)=>Nat.beq n n' && (match c.P.underlying e with
   | some (.int .u8)=>true
   | _=>false) && (c.is e .byte).isSome
 | _,_=>false
def qie (c:Seat) (s:St) (t:TypeId) (x y:Operand):MV:=
 match s.opd x,s.opd y,c.P.underlying t with
 | some (.mp r),some Y,some (.map kt vt)=>(match s.res r with
   | some ⟨.mp kk kv m _,_,_⟩=>(match Y.to kk,c.is vt kv with
     | some a,some _=>bif keyB c kt kk then .hld (some r) (.tup [.of kv ((@mfind _ _ kk.deq a m).getD kv.kd.z),.bv (@mfind _ _ kk.deq a m).isSome]) else .no
     | _,_=> .no)
   | _=> .no)
 | _,_,_=> .no
def bldP (c:Seat) (s:St) (fs:Array Field) (k:Ty):List (Nat×Operand)→k.den→Option k.den
 | [],X=>some X
 | (i,x)::l,X=>match fs[i]?,qiI fs.size k i,s.opd x with
   | some fd,some ⟨k',q⟩,some v=>match v.to k',c.is fd.type k' with
     | some y,some _=>bif Nat.beq fd.offset q.off then bldP c s fs k l (q.put X y) else none
     | _,_=>none
   | _,_,_=>none
def bldA (s:St) (k:Ty):Nat→List (Nat×Operand)→Option (List k.den)
 | _,[]=>some []
 | j,(i,x)::l=>bif Nat.beq i j then (match s.opd x with
   | some v=>match v.to k,bldA s k (j+1) l with
     | some y,some r=>some (y::r)
     | _,_=>none
   | none=>none) else none
def infos (P:Program):List Field→Bool
 | []=>true
 | f::l=>(P.info? f.type).isSome && infos P l
def Ty.hidB:Ty→Bool
 | .pr a b=>a.hidB || b.hidB
 | .st a=>a.hidB
 | .hsl _ _=>true
 | .hmp _ _=>true
 | _=>false
theorem qkJ: ∀(m:List Value) (o:Nat) (c:Array Value),o+m.length≤c.size→((m.zipIdx).foldl (fun cs (p:Value×Nat)=>cs.setIfInBounds (o+p.2) p.1) c).toList=c.toList.take o++m++c.toList.drop (o+m.length):=by
 have gen: ∀(m:List Value) (o s:Nat) (c:Array Value),o+s+m.length≤c.size→((m.zipIdx s).foldl (fun cs (p:Value×Nat)=>cs.setIfInBounds (o+p.2) p.1) c).toList=c.toList.take (o+s)++m++c.toList.drop (o+s+m.length):=by
  intro m
  induction m with
  | nil=>intro o s c _;simp
  | cons x m ih=>
    intro o s c hc
    simp only [List.length_cons] at hc
    rw [List.zipIdx_cons,List.foldl_cons,ih o (s+1) _ (by simp;omega)]
    simp only [Array.toList_setIfInBounds]
    have h1:(c.toList.set (o+s) x).take (o+(s+1))=c.toList.take (o+s)++ [x]:=by
     rw [←Nat.add_assoc,List.take_add_one]
     rw [List.take_set_of_le (Nat.le_refl _)]
     congr 1
     have:o+s<c.toList.length:=by simp;omega
     rw [List.getElem?_set_self this]
     rfl
    have h2:(c.toList.set (o+s) x).drop (o+(s+1)+m.length)=c.toList.drop (o+s+(m.length+1)):=by
     rw [List.drop_set_of_lt (by omega)]
     congr 1
     omega
    rw [h1,h2]
    simp
 intro m o c h
 simpa using gen m o 0 c (by simpa using h)
theorem qiJ {α:Type} {k:Kd α} {K:Ghost} (sz:Nat): ∀(l:List (α×Value)) (i:Nat) (pre rest:List Value) (cells:Array Value),(∀p∈l,k.V K p.1 p.2)→pre.length=i *sz→cells.toList=pre++rest→l.length *sz≤rest.length→k.sz=sz→
 ∃c,Instr.fill (fun j=>some (j *sz,sz)) cells ((l.map (·.2)).zipIdx i |>.map fun p=>(p.2,p.1))=some c∧∃mid,c.toList=pre++mid++rest.drop (l.length *sz)∧RL (k.R K) (l.map (·.1)) mid
 | [],i,pre,rest,cells,_,hp,ht,hs,hk=>⟨cells,rfl,[],by simpa using ht,rfl⟩
 | (a,v)::l,i,pre,rest,cells,hV,hp,ht,hs,hk=>by
   have hv:=hV (a,v) (by simp)
   have hvs:v.cells.size=sz:=hv.size.trans hk
   have hlv:v.cells.toList.length=sz:=by simpa using hvs
   have hmul:(l.length+1) *sz=l.length *sz+sz:=by rw [Nat.add_mul,Nat.one_mul]
   have hs':l.length *sz+sz≤rest.length:=by rw [←hmul];exact hs
   have hcl:cells.toList.length=i *sz+rest.length:=by rw [ht,List.length_append,hp]
   have hcs:cells.size=i *sz+rest.length:=by simpa using hcl
   have hf:=qkJ v.cells.toList (i *sz) cells (by rw [hlv];omega)
   have e1:cells.toList.take (i *sz)=pre:=by rw [ht,←hp];exact List.take_left
   have e2:cells.toList.drop (i *sz+sz)=rest.drop sz:=by rw [ht,←hp,←List.drop_drop,List.drop_left]
   rw [hlv,e1,e2] at hf
   obtain ⟨c,hc,mid,hm,hRm⟩:=qiJ sz l (i+1) (pre++v.cells.toList) (rest.drop sz) (v.cells.zipIdx.foldl (fun cs (p:Value×Nat)=>cs.setIfInBounds (i *sz+p.2) p.1) cells) (fun p hp=>hV p (by simp [hp])) (by rw [List.length_append,hlv,hp,Nat.add_mul,Nat.one_mul]) (by
    rw [←Array.foldl_toList,Array.toList_zipIdx,hf]) (by rw [List.length_drop];omega) hk
   refine ⟨c,?_,v.cells.toList++mid,by rw [hm,List.drop_drop,List.length_cons,hmul,Nat.add_comm sz];simp,v.cells.toList,mid,rfl,hv.cells,hRm⟩
   simp only [List.map_cons,List.zipIdx_cons,Instr.fill]
   have hcond: ¬((decide (v.cells.size≠sz) || decide (i *sz+v.cells.size>cells.size))=true):=by simp;omega
   rw [if_neg hcond]
   exact hc
theorem qjX {α:Type} {k:Kd α} {K:Ghost}: ∀m:Nat,RL (k.R K) (List.replicate m k.z) (List.replicate m k.zc).flatten
 | 0=>rfl
 | m+1=>⟨k.zc,(List.replicate m k.zc).flatten,rfl,k.hz K,qjX m⟩
theorem qpt {P:Program} {α:Type} {k:Kd α} {e t:TypeId} {by_:Nat} {K:Ghost} {ρ:Env} {dst:Option Tmp} {ty:TypeId} {pos:String} {af:Array Edge} {g:Option (Nat×Bool)} {l:List (α×Value)} {ps:List (Nat×Operand)} {n:Nat} (hT0:TyOk P t (Kd.arr n k) by_) {by':Nat} (hT:TyOk P e k by') (hu:P.underlying t=some (.array n e)) (hps:ps.map (fun p=>(p.1,ev ρ p.2))=((l.map (·.2)).zipIdx.map fun p=>(p.2,p.1))) (hV: ∀p∈l,k.V K p.1 p.2) (hn:l.length≤n):
 ∃v,(∀w:World,(execOp (ev ρ) ⟨dst,.build t ps.toArray,ty,pos,af,g⟩).run P w= .ok (.value v) w)∧(Kd.arr n k).V K (l.map (·.1)++List.replicate (n - l.length) k.z) v:=by
 obtain ⟨i,z,hi,hsi,hz,hzc,hbi, -⟩:=hT0.info
 have hzr: ∀w:World,(zeroValue t).run P w= .ok z w:=fun w=>by simp [zeroValue,typeInfo,hi,hz]
 have hzl:k.zc.length=k.sz:=k.len (k.hz K)
 have hz1:z.cells.toList=(List.replicate l.length k.zc).flatten++(List.replicate (n - l.length) k.zc).flatten:=by
  rw [hzc,←List.flatten_append,List.replicate_append_replicate,show l.length+(n - l.length)=n from by omega]
  rfl
 have fl: ∀m:Nat,(List.replicate m k.zc).flatten.length=m *k.sz:=fun m=>by rw [List.length_flatten,List.map_replicate,List.sum_replicate_nat,hzl]
 obtain ⟨c,hc,mid,hm,hRm⟩:=qiJ (k:=k) (K:=K) k.sz l 0 [] z.cells.toList z.cells hV (by simp) rfl (by rw [hz1,List.length_append,fl];omega) rfl
 have hd:z.cells.toList.drop (l.length *k.sz)=(List.replicate (n - l.length) k.zc).flatten:=by
  rw [hz1,←fl l.length,List.drop_left]
 rw [hd] at hm
 refine ⟨.agg c,fun w=>?_,⟨c.toList,⟨by simp;omega,?_⟩,by simp [Kd.arr]⟩⟩
 ·unfold execOp
  simp only [List.map_toArray,hps]
  have key:(Instr.build t ((l.map (·.2)).zipIdx.map fun p=>(p.2,p.1)).toArray).run P w= .ok (.agg c) w:=by
   unfold Instr.build
   simp only [Sem.run_bind,hzr w,Result.andThen_ok,run_underlying hu,hT.size]
   simp [hc]
  simp [key]
 ·rw [hm]
  exact RL.append (by simpa using hRm) (qjX _)
def qlo (c:Seat) (s:St) (t:TypeId) (ps:Array (Nat×Operand)):MV:=
 match c.P.underlying t,c.ty false t with
 | some (.struct fs),some (k,_)=>bif k.kd.agg && infos c.P fs.toList then bif ps.toList.isEmpty && k.hidB then .pur (.zer k) else (match bldP c s fs k ps.toList k.kd.z with
   | some Z=> .pur (.of k Z)
   | none=> .no) else .no
 | some (.array n e),some (.arr n' k,_)=>bif Nat.beq n n' && (c.is e k).isSome then (match ps.toList with
   | []=>bif (c.P.info? e).isSome then .pur (.val (.arr n' k) (List.replicate n' k.kd.z)) else .no
   | l=>match bldA s k 0 l with
     | some xs=>bif Nat.beq l.length n then .pur (.val (.arr n' k) xs) else (bif Nat.blt l.length n then .pur (.val (.arr n' k) (xs++List.replicate (n' - l.length) k.kd.z)) else .no)
     | none=> .no) else .no
 | _,_=> .no
def Seat.atB (c:Seat) (n:Nat):Option Tmp→Bool
 | some d=>c.rwB (n+d)
 | none=>false
def oneB:SVal→Bool
 | .lit _ _ | .int _ _ _ | .byt _ | .bt _ | .bv _ | .snil | .str _=>true
 | _=>false
def zerL:List Value→Option (List SVal)
 | []=>some []
 | v::l=>match qiD v,zerL l with
   | some s,some r=>bif oneB s then some (s::r) else none
   | _,_=>none
def sz1 (c:Seat) (t:TypeId):Bool:=match c.P.info? t with
 | some i=>Nat.beq i.size 1
 | none=>false
def bldG (c:Seat) (s:St) (fs:Array Field):List (Nat×Operand)→List SVal→Option (List SVal)
 | [],l=>some l
 | (i,x)::r,l=>match fs[i]?,s.opd x with
   | some fd,some sv=>bif (oneB sv && Nat.blt fd.offset l.length) && sz1 c fd.type then bldG c s fs r (l.set fd.offset sv) else none
   | _,_=>none
def bldV (s:St):Nat→List (Nat×Operand)→Option (List SVal)
 | _,[]=>some []
 | j,(i,x)::l=>bif Nat.beq i j then (match s.opd x,bldV s (j+1) l with
   | some (.box r T t p),some m=>some (.box r T t p::m)
   | _,_=>none) else none
def qic (c:Seat) (s:St) (t:TypeId) (ps:Array (Nat×Operand)):MV:=
 match c.P.underlying t,c.ty false t with
 | some (.array n e),some (.arr n' (.ptr _),_)=>(match c.ty true e,bldV s 0 ps.toList with
   | some (.ptr _,_),some l=>bif Nat.beq n n' && Nat.beq ps.toList.length n then .pur (.agg l) else .no
   | _,_=> .no)
 | _,_=> .no
def qia (c:Seat) (s:St) (t:TypeId) (ps:Array (Nat×Operand)):MV:=
 match c.P.underlying t,c.P.info? t with
 | some (.struct fs),some i=>bif infos c.P fs.toList then (match i.zero with
   | some z=>(match zerL z.cells.toList with
     | some l0=>(match bldG c s fs ps.toList l0 with
       | some l=> .pur (.agg l)
       | none=> .no)
     | none=> .no)
   | none=> .no) else .no
 | _,_=> .no
def qoH (s:St) (z x y:Operand):MV:=
 match s.opd z with
 | some (.bt b)=>match s.opd (bif b then x else y) with
   | some v=> .pur v
   | none=> .no
 | _=> .no
def vMM (s:St) (mx:Bool) (x y:Operand):MV:=
 match s.opdI x,s.opdI y with
 | some (k,a,_,_),some (k',b,_,_)=>if k=k' then .pur (.int k (bif mx then max a b else min a b) false) else .no
 | _,_=> .no
def qoA (c:Seat) (s:St) (l:Call):MV:=
 match l.callee,l.args.toList,l.argTypes.toList with
 | .builtin .len,[x],[t]=>vLen c s t x
 | .builtin .max,[x,y],_=>vMM s true x y
 | .builtin .min,[x,y],_=>vMM s false x y
 | _,_,_=> .no
def opV (c:Seat) (s:St) (o:Oper):MV:=
 match o.op with
 | .move x=>bif c.atB 8000000 o.dst then .no else qmS c s o.type x
 | .assign x=>qmS c s o.type x
 | .binOp b t x y _=>vBin c s b t x y
 | .unOp u _ x=>vUn c s u x
 | .convert a b x=>qoB c s a b x
 | .fieldAddr t x f=>qd7 c s t x f
 | .field t x f=>qlt c s t x f
 | .indexAddr t x i=>qd8 c s t x i
 | .index t x i=>qlv c s t x i
 | .nilCheck x=>qfb s x
 | .load t x=>qoG c s t x
 | .extract x i=>qgH s x i
 | .makeFunc f fs cs=>qoF s f fs cs
 | .slice t x lo hi mx=>bif c.atB 5000000 o.dst then .no else qlz c s t x lo hi mx
 | .lookup t x y b=>bif b then qie c s t x y else .no
 | .build t ps=>bif c.atB 4000000 o.dst then qia c s t ps else (bif c.atB 6000000 o.dst then qic c s t ps else qlo c s t ps)
 | .pick z x y=>qoH s z x y
 | .call l=>qoA c s l
 | _=> .no
section
variable {c:Seat} {G:Glob} {s:St} {ρ:Env} {θ:Th} {w:World} {K:Ghost} {x y i z:Operand} {n:Nat}
variable {dst:Option Tmp} {ty:TypeId} {pos:String} {af:Array Edge} {g:Option (Nat×Bool)} {t t1 t2:TypeId} {f:Nat}
theorem qhn (h:Rel G s θ ρ w K) {o:Oper} (hr: ∀w':World,(execOp (ev ρ) o).run c.P w'= .ok (.value (ev ρ x)) w'):(qmS c s ty x).snd c.P o ρ θ s.nx w K:=by
 unfold qmS
 split
 ·rename_i hX
  have hv:ev ρ x= .slice none 0 0:=h.opd hX
  split
  ·split
   ·exact qad (v:= .snl _ _ _) ⟨none,hv,fun _=>rfl⟩ hr
   ·exact qad (v:= .snil) hv hr
  ·exact qad (v:= .snil) hv hr
 ·rename_i v _ hX
  exact qad (h.opd hX) hr
 ·trivial
theorem SVal.asL_rel {v:SVal} {u:Value} {k:Ty} {l:List k.den} (h:v.asL=some ⟨k,l⟩) (hr:v.rel θ n K u):(Kd.sl k.kd).V K l u:=by
 cases v with
 | val T X=>
   cases T<;>simp only [SVal.asL,Option.some.injEq,Sigma.mk.injEq,reduceCtorEq] at h
   obtain ⟨rfl,h⟩:=h
   cases h
   exact hr
 | own r T X=>
   simp only [SVal.asL,Option.some.injEq,Sigma.mk.injEq] at h
   obtain ⟨rfl,h⟩:=h
   cases h
   exact hr.2.1
 | snl e T z=>
   simp only [SVal.asL,Option.some.injEq,Sigma.mk.injEq] at h
   obtain ⟨rfl,h⟩:=h
   cases h
   obtain ⟨A,rfl,_⟩:=hr
   exact qgF
 | _=>simp [SVal.asL] at h
theorem Rel.opdI (h:Rel G s θ ρ w K) {k:IntKind} {a:Int} {l lv:Bool} (hx:s.opdI x=some (k,a,l,lv)):ev ρ x= .int k a∧(Kd.int k).wf a:=by
 obtain ⟨X,h1,h2⟩:=qbd hx
 exact SVal.asI_rel h2 (h.opd h1)
theorem qm8 {x:Operand} (h:isZ x=true): ∃ik,x= .const (.int ik 0):=by
 unfold isZ at h
 split at h
 ·rename_i ik m
  simp only [decide_eq_true_eq] at h
  subst h
  exact ⟨ik,rfl⟩
 ·cases h
theorem qpC {α:Type} {k:Kd α} {P:Program} {ρ:Env} {K:Ghost} {e t1:TypeId} {by_:Nat} {x hi mx:Operand} {ik ik':IntKind} {b m:Int} {l:List α} {dst:Option Tmp} {ty:TypeId} {pos:String} {af:Array Edge} {g:Option (Nat×Bool)} (hV:(Kd.sl k).V K l (ev ρ x)) (hu:P.underlying t1=some (.slice e)) (hT:TyOk P e k by_) (hh:ev ρ hi= .int ik b) (hm:ev ρ mx= .int ik' m) (h0:0≤b) (h1:b≤m) (h2:m≤(l.length:Int)):
 ∃v,(∀w:World,(execOp (ev ρ) ⟨dst,.slice t1 x none (some hi) (some mx),ty,pos,af,g⟩).run P w= .ok (.value v) w)∧(Kd.sl k).V K (l.take b.toNat) v:=by
 obtain ⟨A,cap,hx,hc,hlm,hwf,hS⟩:=qbz hV
 have hlen:(l.take b.toNat).length=b.toNat:=by rw [List.length_take];omega
 have hrun: ∀w:World,(Instr.sliceBounds true l.length cap none (some (ev ρ hi)) (some (ev ρ mx))).run P w= .ok (0,b.toNat,m.toNat) w:=fun w=>by
  have b1: ∀c:BoundsCode,(Instr.sliceBound (.int ik' m) cap c).run P w= .ok m.toNat w:=fun c=>qbK (by omega) (by omega)
  have b2: ∀c:BoundsCode,(Instr.sliceBound (.int ik b) m.toNat c).run P w= .ok b.toNat w:=fun c=>qbK (by omega) (by omega)
  simp [Instr.sliceBounds,hh,hm,b1,b2]
 refine ⟨.slice A (l.take b.toNat).length m.toNat,fun w=>?_,?_⟩
 ·rw [hlen]
  unfold execOp
  simp only [hx]
  simp [Instr.sliceAt,Instr.slice,run_underlying hu,hrun w,hT.size]
  intro _
  cases A with
  | none=>rfl
  | some a=>cases a;simp [Addr.add]
 ·refine ⟨_,⟨_,m.toNat,rfl,by rw [hlen];omega,by rw [hlen];omega,fun y hy=>hwf y (List.mem_of_mem_take hy),?_⟩,rfl⟩
  rcases hS with rfl | ⟨bl,e2,pre,mid,post,rfl,hK,hR⟩
  ·exact .inl (by simp)
  ·have h3:=(RL.split (fun _ _=>k.len) b.toNat hR).1
   refine .inr ⟨bl,e2,pre,mid.take (b.toNat *k.sz),mid.drop (b.toNat *k.sz)++post,rfl,?_,h3⟩
   rw [hK]
   have e3:mid.take (b.toNat *k.sz)++(mid.drop (b.toNat *k.sz)++post)=mid++post:=by rw [←List.append_assoc,List.take_append_drop]
   simp only [List.append_assoc,e3]
theorem qlr (hc:c.ok) (h:Rel G s θ ρ w K) {k:Ty} {l:List k.den} (hx:(Kd.sl k.kd).V K l (ev ρ x)) {lo hi mx:Option Operand}:(qoC c s t k l lo hi mx).snd c.P ⟨dst,.slice t x lo hi mx,ty,pos,af,g⟩ ρ θ s.nx w K:=by
 unfold qoC
 split
 ·rename_i e hu
  split
  ·rename_i b hb
   have hT:=hc.is_ok hb
   split
   ·obtain ⟨v,hr,hV⟩:=qpE (dst:=dst) (ty:=ty) (pos:=pos) (af:=af) (g:=g) rfl hx hu hT
    exact qad (v:= .val _ _) hV hr
   ·split
    ·rename_i ha
     intro hp
     obtain ⟨v,hr,hV⟩:=qpD (dst:=dst) (ty:=ty) (pos:=pos) (af:=af) (g:=g) rfl hx hu hT (h.opdI ha).1 hp.1 hp.2
     exact qad (v:= .val _ _) hV hr
    ·trivial
   ·split
    ·rename_i ha
     intro hp
     obtain ⟨v,hr,hV⟩:=qqE (dst:=dst) (ty:=ty) (pos:=pos) (af:=af) (g:=g) rfl hx hu hT (h.opdI ha).1 hp.1 hp.2
     exact qad (v:= .val _ _) hV hr
    ·trivial
   ·split
    ·rename_i ha hb
     intro hp
     obtain ⟨v,hr,hV⟩:=qpF (dst:=dst) (ty:=ty) (pos:=pos) (af:=af) (g:=g) rfl hx hu hT (h.opdI ha).1 (h.opdI hb).1 hp.1 hp.2.1 hp.2.2
     exact qad (v:= .val _ _) hV hr
    ·trivial
   ·rename_i b' m'
    cases hz:(isZ b' && isZ m') with
    | false=>
      simp only [cond_false]
      split
      ·rename_i ha hb
       intro hp
       obtain ⟨v,hr,hV⟩:=qpC (dst:=dst) (ty:=ty) (pos:=pos) (af:=af) (g:=g) hx hu hT (h.opdI ha).1 (h.opdI hb).1 hp.1 hp.2.1 hp.2.2
       exact qad (v:= .val _ _) hV hr
      ·trivial
    | true=>
      simp only [Bool.and_eq_true] at hz
      obtain ⟨ik,rfl⟩:=qm8 hz.1
      obtain ⟨ik',rfl⟩:=qm8 hz.2
      obtain ⟨A,hr⟩:=qpB (dst:=dst) (ty:=ty) (pos:=pos) (af:=af) (g:=g) (ik:=ik) (ik':=ik') rfl hx hu hT
      exact qad (v:= .snl _ _ _) ⟨A,rfl,fun h=>by cases h⟩ hr
   ·trivial
  ·trivial
 ·trivial
theorem qoe (h:Rel G s θ ρ w K) {lo:Option Operand} {a:Int} {l:Bool} (hl:qb2 s 0 lo=some (a,l)):qb1 ρ lo a:=by
 cases lo with
 | none=>cases hl;exact qb1.no
 | some x=>
   simp only [qb2] at hl
   split at hl
   ·rename_i h1
    cases hl
    exact qb1.yes (h.opdI h1).1
   ·cases hl
theorem qkT (h:Rel G s θ ρ w K) {lo:Option Operand} {a d:Int} {l:Bool} (hl:qb2 s d lo=some (a,l)):qbb ρ d lo a:=by
 cases lo with
 | none=>cases hl;exact qbb.no
 | some x=>
   simp only [qb2] at hl
   split at hl
   ·rename_i h1
    cases hl
    exact qbb.yes (h.opdI h1).1
   ·cases hl
theorem qls (h:Rel G s θ ρ w K) {l:List UInt8} (hx:ev ρ x= .string ⟨l.toArray⟩) (hl:l.length≤LM) {lo hi:Option Operand}:(qoD c s t l lo hi).snd c.P ⟨dst,.slice t x lo hi none,ty,pos,af,g⟩ ρ θ s.nx w K:=by
 unfold qoD
 split
 ·rename_i hu h1 h2
  exact fun hp=>qad (v:= .str _) ⟨rfl,Nat.le_trans (by rw [List.length_drop,List.length_take];omega) hl⟩ fun w'=>qqy hx hu (qoe h h1) (qkT h h2) hp.1 hp.2.1 hp.2.2
 ·trivial
theorem qmd {a b:Int} {la lb:Bool} (h:qmc a b n la lb=true):0≤a∧a≤b∧b≤(n:Int)∧a<(n:Int):=by
 simp only [qmc,Bool.and_eq_true,decide_eq_true_eq] at h
 exact ⟨h.1.1.1.2,h.1.1.2,h.1.2,h.2⟩
theorem qhl (hc:c.ok) (h:Rel G s θ ρ w K) {k:Ty} {lo hi:Option Operand} {f:Nat→Nat→SVal} {bl o:Nat} (hx:ev ρ x= .pointer (some ⟨bl,o,none⟩)) (hn:n≤LM→∀a b:Nat,a≤b→b≤n→(f a b).rel θ s.nx K (.slice (some ⟨bl,o+a *k.kd.sz,none⟩) (b - a) (n - a))):(qmQ c s t n k lo hi f).snd c.P ⟨dst,.slice t x lo hi none,ty,pos,af,g⟩ ρ θ s.nx w K:=by
 unfold qmQ
 split
 ·rename_i n' e a la b lb hu h1 h2
  split
  ·rename_i bb hb
   cases hz:(Nat.beq n n' && Nat.ble n LM) with
   | false=>trivial
   | true=>
     simp only [Bool.and_eq_true] at hz
     obtain rfl:=Nat.eq_of_beq_eq_true hz.1
     have key:(0≤a∧a≤b∧b≤(n:Int)∧a<(n:Int))→(MV.pur (f a.toNat b.toNat)).snd c.P ⟨dst,.slice t x lo hi none,ty,pos,af,g⟩ ρ θ s.nx w K:=fun hp=>
      qad (hn (Nat.le_of_ble_eq_true hz.2) _ _ (by omega) (by omega)) fun w'=>qqF hx hu (hc.is_ok hb) (qoe h h1) (qkT h h2) hp.1 hp.2.1 hp.2.2.1 hp.2.2.2
     simp only [cond_true]
     cases hcut:qmc a b n la lb with
     | true=>exact key (qmd hcut)
     | false=>exact key
  ·trivial
 ·trivial
theorem qjB (hc:c.ok) (h:Rel G s θ ρ w K) {lo hi mx:Option Operand}:(qlz c s t x lo hi mx).snd c.P ⟨dst,.slice t x lo hi mx,ty,pos,af,g⟩ ρ θ s.nx w K:=by
 unfold qlz
 split
 ·rename_i l hX
  split
  ·exact qls h (h.opd hX).1 (h.opd hX).2
  ·trivial
 ·rename_i r T k0 p0 hX
  split
  ·rename_i n k p
   cases hz:(decide (T= .arr n k) && Nat.beq p.off 0) with
   | false=>trivial
   | true=>
     simp only [Bool.and_eq_true] at hz
     obtain ⟨hr,hp,bl,o,hk,hv⟩:=h.opd hX
     have h0:=Nat.eq_of_beq_eq_true hz.2
     rw [h0] at hv
     exact qhl hc h hv fun hn a b h1 h2=>⟨hr,⟨h1,h2,hn⟩,bl,o,hk,rfl⟩
  ·trivial
 ·rename_i n k X hX
  split
  ·have hP:(Ty.arr n k).kd.Pt K X (ev ρ x):=h.opd hX
   obtain ⟨bl,o,hv⟩:=hP.form
   rw [hv] at hP
   exact qhl hc h hv fun hn a b h1 h2=>Pt.cut hP h1 h2 hn
  ·trivial
 ·rename_i r hX
  split
  ·rename_i e' k l og lk e hres hu
   split
   ·rename_i by0 a la b lb hb hlo hhi
    intro hp
    obtain ⟨hr,hkey⟩:=h.opd hX
    obtain ⟨hn,l0,hO⟩:=(h.res _ _ hres).2.1.1
    obtain ⟨A,cap,he,hc1,_⟩:=qbz hO.V
    have hk:θ.key r= .slice A l.length cap:=he
    exact qad (v:= .rcut _ _ _ _) ⟨hr,by omega,A,l.length,cap,hk,by omega,rfl⟩ fun w'=>qnH (hkey.symm.trans hk) hc1 hu (hc.is_ok hb) (qoe h hlo) (qkT h hhi) hp.1 hp.2.1 hp.2.2 w'
   ·trivial
  ·trivial
 ·rename_i v _ _ _ hX
  split
  ·rename_i k l hl
   exact qlr hc h (SVal.asL_rel hl (h.opd hX))
  ·trivial
 ·trivial
theorem qkW (hc:c.ok) {kt:TypeId} {kk:Ty} (h:keyB c kt kk=true): @KeyOk _ c.P kt kk.kd kk.deq:=by
 unfold keyB at h
 split at h
 ·rename_i n n' e hu
  simp only [Bool.and_eq_true] at h
  obtain ⟨⟨h1,h2⟩,h3⟩:=h
  obtain rfl:=Nat.eq_of_beq_eq_true h1
  obtain ⟨b,hb⟩:=Option.isSome_iff_exists.1 h3
  split at h2
  ·rename_i he
   exact qb6 hu he (hc.is_ok hb)
  ·cases h2
 ·cases h
theorem qif (hc:c.ok) (h:Rel G s θ ρ w K):(qie c s t x y).snd c.P ⟨dst,.lookup t x y true,ty,pos,af,g⟩ ρ θ s.nx w K:=by
 unfold qie
 split
 ·rename_i r Y kt vt hX hY hu
  split
  ·rename_i kk kv m nn o l hr
   split
   ·rename_i a b ha hb
    cases hk:keyB c kt kk with
    | false=>trivial
    | true=>
      letI:=kk.deq
      obtain ⟨hm,hf,_⟩:=(h.res _ _ hr).2.1
      have hkey:θ.key r=ev ρ x:=(h.opd hX).2
      have hkO:KeyOk c.P kt kk.kd:=qkW hc hk
      rw [hkey] at hm hf
      obtain ⟨v,hrun,hV⟩:=qj5 (dst:=dst) (ty:=ty) (pos:=pos) (af:=af) (g:=g) (Z:=fun g=>mb (ev ρ x)≠some g) (kk:=kk.kd) (kv:=kv.kd) rfl rfl hm (SVal.to_rel ha (h.opd hY)) hu hkO (hc.is_ok hb) (fun q hq hne=>hne hq)
      refine ⟨_,⟨[v,.bool (mfind a m).isSome],rfl,v,_,rfl,SVal.of_rel hV,_,_,rfl,rfl,rfl⟩,fun Z hZ w' K' hE hM=>?_⟩
      refine hrun w' K' (hE.weak fun g _ hg hne=>?_) hM
      exact hZ r rfl g ((hf g).2 hne) hg
   ·trivial
  ·trivial
 ·trivial
theorem qkn (hc:c.ok) (h:Rel G s θ ρ w K) {fs:Array Field} {k:Ty}: ∀ {l:List (Nat×Operand)} {X Z:k.den},bldP c s fs k l X=some Z→Parts c.P K fs k.kd (l.map fun p=>(p.1,ev ρ p.2)) X Z
 | [],X,Z,hb=>by cases hb;exact Parts.nil
 | (j,x)::l,X,Z,hb=>by
   simp only [bldP] at hb
   split at hb
   ·rename_i fd k' q v hf hq hv
    split at hb
    ·rename_i y b hy hT
     cases ho:Nat.beq fd.offset q.off with
     | true=>
       rw [ho] at hb
       exact Parts.cons hf (Nat.eq_of_beq_eq_true ho) (hc.is_ok hT) (q.ok (qfz hq)) (SVal.to_rel hy (h.opd hv)) (qkn hc h hb)
     | false=>rw [ho] at hb;cases hb
    ·cases hb
   ·cases hb
theorem qhG (h:Rel G s θ ρ w K) {k:Ty}: ∀ {l:List (Nat×Operand)} {j:Nat} {xs:List k.den},bldA s k j l=some xs→∃zs:List (k.den×Value),zs.map (·.1)=xs∧zs.length=l.length∧l.map (fun p=>(p.1,ev ρ p.2))=((zs.map (·.2)).zipIdx j).map (fun p=>(p.2,p.1))∧∀p∈zs,k.kd.V K p.1 p.2
 | [],j,xs,hb=>by cases hb;exact ⟨[],rfl,rfl,rfl,by simp⟩
 | (i,x)::l,j,xs,hb=>by
   simp only [bldA] at hb
   cases ho:Nat.beq i j with
   | false=>rw [ho] at hb;cases hb
   | true=>
     obtain rfl:=Nat.eq_of_beq_eq_true ho
     rw [ho] at hb
     simp only [cond_true] at hb
     split at hb
     ·rename_i v hv
      split at hb
      ·rename_i y r hy hr
       cases hb
       obtain ⟨zs,h1,h2,h3,h4⟩:=qhG h hr
       refine ⟨(y,ev ρ x)::zs,by simp [h1],by simp [h2],by simp [h3,List.zipIdx_cons],?_⟩
       intro p hp
       rcases List.mem_cons.1 hp with rfl | hp
       ·exact SVal.to_rel hy (h.opd hv)
       ·exact h4 p hp
      ·cases hb
     ·cases hb
theorem qew {P:Program}: ∀ {l:List Field},infos P l=true→∀f∈l,∃i,P.info? f.type=some i
 | [],_,f,hf=>by cases hf
 | f'::l,h,f,hf=>by
   simp only [infos,Bool.and_eq_true] at h
   rcases List.mem_cons.1 hf with rfl | hf
   ·exact Option.isSome_iff_exists.1 h.1
   ·exact qew h.2 f hf
theorem qqH {P:Program} {fs:Array Field} {α:Type} {k:Kd α} {by_:Nat} (hT:TyOk P t k by_) (ha:k.agg=true) (hu:P.underlying t=some (.struct fs)) (hfs: ∀f∈fs.toList,∃i,P.info? f.type=some i) (w:World):(execOp (ev ρ) ⟨dst,.build t #[],ty,pos,af,g⟩).run P w= .ok (.value (.agg k.zc.toArray)) w:=by
 obtain ⟨i,z,hi,hsi,hz,hzc,hbi,hzv⟩:=hT.info
 obtain ⟨l,hl,hq⟩:=qdh (P:=P) hfs
 have hzr:(zeroValue t).run P w= .ok z w:=by simp [zeroValue,typeInfo,hi,hz]
 have hcs:z.cells=k.zc.toArray:=by rw [←hzc]
 have key:(Instr.build t #[]).run P w= .ok (.agg z.cells) w:=by
  unfold Instr.build
  have hm:(fs.mapM fun f=>do pure (f.offset,←sizeOf f.type):Sem (Array (Nat×Nat))).run P w= .ok l.toArray w:=by
   rw [Array.mapM_eq_mapM_toList]
   rw [←bind_pure_comp]
   simp only [Sem.run_bind,hl,Result.andThen_ok,Sem.run_pure]
  simp only [Sem.run_bind,hzr,Result.andThen_ok,run_underlying hu,hm]
  simp [Instr.fill]
 unfold execOp
 simp [key,hcs]
theorem qk3 {sv:SVal} {v:Value} (h:oneB sv=true) (hr:sv.rel θ n K v):v.oneCell'=true:=by
 cases sv with
 | lit _ _=>rw [hr.1];rfl
 | int _ _ _=>rw [hr.1];rfl
 | byt _=>rw [show v=_ from hr];rfl
 | bt _=>rw [show v=_ from hr];rfl
 | bv _=>rw [show v=_ from hr];rfl
 | snil=>rw [show v=_ from hr];rfl
 | str _=>rw [hr.1];rfl
 | _=>cases h
theorem qlC: ∀ {vs:List Value} {l:List SVal},zerL vs=some l→SVal.relL θ n K l vs∧∀u∈vs,u.oneCell'=true
 | [],l,h=>by cases h;exact ⟨rfl,by simp⟩
 | v::vs,l,h=>by
   simp only [zerL] at h
   split at h
   ·rename_i s r hs hr
    cases hb:oneB s with
    | false=>rw [hb] at h;cases h
    | true=>
      rw [hb] at h
      cases h
      have h1:s.rel θ n K v:=qfx hs
      obtain ⟨h2,h3⟩:=qlC hr
      exact ⟨⟨v,vs,rfl,h1,h2⟩,fun u hu=>by
       rcases List.mem_cons.1 hu with rfl | hu
       ·exact qk3 hb h1
       ·exact h3 u hu⟩
   ·cases h
theorem qiV: ∀ {l:List SVal} {vs:List Value} {i:Nat} {s:SVal} {v:Value},SVal.relL θ n K l vs→s.rel θ n K v→SVal.relL θ n K (l.set i s) (vs.set i v)
 | [],vs,i,s,v,h,hs=>by have h:vs=[]:=h;subst h;exact rfl
 | z::l,vs,0,s,v,⟨u,r,e,h1,h2⟩,hs=>by subst e;exact ⟨v,r,rfl,hs,h2⟩
 | z::l,vs,i+1,s,v,⟨u,r,e,h1,h2⟩,hs=>by subst e;exact ⟨u,_,rfl,h1,qiV h2 hs⟩
theorem qhc: ∀ {l:List SVal} {vs:List Value},SVal.relL θ n K l vs→vs.length=l.length
 | [],vs,h=>by have h:vs=[]:=h;subst h;rfl
 | z::l,vs,⟨u,r,e,h1,h2⟩=>by subst e;simp [qhc h2]
theorem qkm (h:Rel G s θ ρ w K) {fs:Array Field} (place:Nat→Option (Nat×Nat)) (hpl: ∀i fd inf,fs[i]?=some fd→c.P.info? fd.type=some inf→place i=some (fd.offset,inf.size)): ∀ {ps:List (Nat×Operand)} {l l':List SVal} {cs:Array Value},bldG c s fs ps l=some l'→SVal.relL θ s.nx K l cs.toList→(∀u∈cs.toList,u.oneCell'=true)→
 ∃cs',Instr.fill place cs (ps.map fun p=>(p.1,ev ρ p.2))=some cs'∧SVal.relL θ s.nx K l' cs'.toList∧∀u∈cs'.toList,u.oneCell'=true
 | [],l,l',cs,hb,hr,ho=>by cases hb;exact ⟨cs,rfl,hr,ho⟩
 | (i,x)::ps,l,l',cs,hb,hr,ho=>by
   simp only [bldG] at hb
   split at hb
   ·rename_i fd sv hfd hsv
    cases hq:((oneB sv && Nat.blt fd.offset l.length) && sz1 c fd.type) with
    | false=>rw [hq] at hb;cases hb
    | true=>
      rw [hq] at hb
      simp only [cond_true] at hb
      simp only [Bool.and_eq_true] at hq
      obtain ⟨⟨q1,q2⟩,q3⟩:=hq
      have q2:=Nat.le_of_ble_eq_true q2
      obtain ⟨inf,hinf,hsz⟩: ∃inf,c.P.info? fd.type=some inf∧inf.size=1:=by
       unfold sz1 at q3
       split at q3
       ·rename_i inf hinf;exact ⟨inf,hinf,Nat.eq_of_beq_eq_true q3⟩
       ·cases q3
      have hv:=h.opd hsv
      have h1:=qk3 q1 hv
      have hlen:=qhc hr
      have hlt:fd.offset<cs.toList.length:=by omega
      have hc:cs.toList=cs.toList.take fd.offset++ [cs.toList[fd.offset]]++cs.toList.drop (fd.offset+1):=by
       rw [List.append_assoc,List.singleton_append,List.getElem_cons_drop,List.take_append_drop]
      obtain ⟨c',hc',hfill⟩:=qgW (off:=fd.offset) (v:=ev ρ x) hc (by rw [List.length_take];omega) (by rw [qb9 h1];rfl) place (by rw [hpl i fd inf hfd hinf,hsz];simp) (ps.map fun p=>(p.1,ev ρ p.2))
      have e:c'.toList=cs.toList.set fd.offset (ev ρ x):=by
       rw [hc',qb9 h1,List.set_eq_take_append_cons_drop,if_pos hlt]
       simp
      obtain ⟨cs',g1,g2,g3⟩:=qkm h place hpl hb (by rw [e];exact qiV hr hv) (fun u hu=>by
       rw [e] at hu
       rcases List.mem_or_eq_of_mem_set hu with hu | rfl
       ·exact ho u hu
       ·exact h1)
      refine ⟨cs',?_,g2,g3⟩
      rw [List.map_cons,hfill]
      exact g1
   ·cases hb
theorem qko (h:Rel G s θ ρ w K): ∀ {l:List (Nat×Operand)} {j:Nat} {m:List SVal},bldV s j l=some m→∃zs:List (Value×Value),SVal.relL θ s.nx K m (zs.map (·.1))∧zs.length=l.length∧l.map (fun p=>(p.1,ev ρ p.2))=((zs.map (·.2)).zipIdx j).map (fun p=>(p.2,p.1))∧∀p∈zs,Kd.vptr.V K p.1 p.2
 | [],j,m,hb=>by cases hb;exact ⟨[],rfl,rfl,by simp,by simp⟩
 | (i,x)::l,j,m,hb=>by
   simp only [bldV] at hb
   cases ho:Nat.beq i j with
   | false=>rw [ho] at hb;cases hb
   | true=>
     obtain rfl:=Nat.eq_of_beq_eq_true ho
     rw [ho] at hb
     simp only [cond_true] at hb
     split at hb
     ·rename_i r T t p m' hv hr
      cases hb
      obtain ⟨zs,h1,h2,h3,h4⟩:=qko h hr
      refine ⟨(ev ρ x,ev ρ x)::zs,⟨_,_,rfl,h.opd hv,h1⟩,by simp [h2],by simp [h3,List.zipIdx_cons],?_⟩
      intro q hq
      rcases List.mem_cons.1 hq with rfl | hq
      ·obtain ⟨_,_,b,o,_,hx⟩:=h.opd hv
       exact ⟨[ev ρ x],⟨rfl,by rw [hx];rfl⟩,rfl⟩
      ·exact h4 q hq
     ·cases hb
theorem qid (hc:c.ok) (h:Rel G s θ ρ w K) {ps:Array (Nat×Operand)}:(qic c s t ps).snd c.P ⟨dst,.build t ps,ty,pos,af,g⟩ ρ θ s.nx w K:=by
 unfold qic
 have eps:ps=ps.toList.toArray:=by simp
 split
 ·rename_i n e n' T b hu hk
  split
  ·rename_i T' b' l hk' hl
   cases hz:(Nat.beq n n' && Nat.beq ps.toList.length n) with
   | false=>trivial
   | true=>
     simp only [Bool.and_eq_true] at hz
     obtain rfl:=Nat.eq_of_beq_eq_true hz.1
     obtain ⟨zs,h1,h2,h3,h4⟩:=qko h hl
     rw [eps]
     obtain ⟨v,hr,hV⟩:=qm1 (dst:=dst) (ty:=ty) (pos:=pos) (af:=af) (g:=g) (K:=K) (k:=Kd.vptr) (TyOk.varr (hc.ty_ok hk)) (TyOk.vptr (hc.ty_ok hk')) hu h3 h4 (h2.trans (Nat.eq_of_beq_eq_true hz.2))
     obtain ⟨v1,_,v3⟩:=qig hV
     exact qad (v:= .agg l) ⟨_,v1,h1,v3⟩ hr
  ·trivial
 ·trivial
theorem qib (h:Rel G s θ ρ w K) {ps:Array (Nat×Operand)}:(qia c s t ps).snd c.P ⟨dst,.build t ps,ty,pos,af,g⟩ ρ θ s.nx w K:=by
 unfold qia
 have eps:ps=ps.toList.toArray:=by simp
 split
 ·rename_i fs i hu hi
  cases hif:infos c.P fs.toList with
  | false=>trivial
  | true=>
    simp only [cond_true]
    split
    ·rename_i z hz
     split
     ·rename_i l0 hl0
      split
      ·rename_i l hl
       obtain ⟨pl,hpl,hq⟩:=qdh (P:=c.P) (qew hif)
       obtain ⟨hr0,ho0⟩:=qlC (θ:=θ) (n:=s.nx) (K:=K) hl0
       obtain ⟨cs',hfill,hr',ho'⟩:=qkm h (fun j=>pl.toArray[j]?) (fun j fd inf hj hinf=>by simpa using hq j fd inf (by simpa using hj) hinf) hl hr0 ho0
       refine qad (v:= .agg l) (val:= .agg cs') ⟨cs'.toList,by simp,hr',ho'⟩ fun w=>?_
       have hzr:(zeroValue t).run c.P w= .ok z w:=by simp [zeroValue,typeInfo,hi,hz]
       have key:(Instr.build t (ps.toList.map fun p=>(p.1,ev ρ p.2)).toArray).run c.P w= .ok (.agg cs') w:=by
        unfold Instr.build
        have hm:(fs.mapM fun f=>do pure (f.offset,←sizeOf f.type):Sem (Array (Nat×Nat))).run c.P w= .ok pl.toArray w:=by
         rw [Array.mapM_eq_mapM_toList]
         rw [←bind_pure_comp]
         simp only [Sem.run_bind,hpl,Result.andThen_ok,Sem.run_pure]
        simp only [Sem.run_bind,hzr,Result.andThen_ok,run_underlying hu,hm]
        rw [hfill]
        rfl
       rw [eps]
       unfold execOp
       simp only [List.map_toArray]
       simp [key]
      ·trivial
     ·trivial
    ·trivial
 ·trivial
theorem qjy (hc:c.ok) (h:Rel G s θ ρ w K) {ps:Array (Nat×Operand)}:(qlo c s t ps).snd c.P ⟨dst,.build t ps,ty,pos,af,g⟩ ρ θ s.nx w K:=by
 unfold qlo
 have eps:ps=ps.toList.toArray:=by simp
 split
 ·rename_i fs k b hu hk
  cases hz:(k.kd.agg && infos c.P fs.toList) with
  | false=>trivial
  | true=>
    simp only [Bool.and_eq_true] at hz
    simp only [cond_true]
    cases hq:(ps.toList.isEmpty && k.hidB) with
    | true=>
      simp only [Bool.and_eq_true] at hq
      have e0:ps= #[]:=by
       have:=List.isEmpty_iff.1 hq.1
       cases ps
       simp at this
       rw [this]
      subst e0
      exact qad (v:= .zer k) ⟨rfl,hz.1⟩ (qqH (dst:=dst) (ty:=ty) (pos:=pos) (af:=af) (g:=g) (hc.ty_ok hk) hz.1 hu (qew hz.2))
    | false=>
    simp only [cond_false]
    split
    ·rename_i Z hZ
     rw [eps]
     obtain ⟨v,hr,hV⟩:=qnM (dst:=dst) (ty:=ty) (pos:=pos) (af:=af) (g:=g) (hc.ty_ok hk) hz.1 hu (qew hz.2) rfl (qkn hc h hZ)
     exact qad (SVal.of_rel hV) hr
    ·trivial
 ·rename_i n e n' k b hu hk
  cases hz:(Nat.beq n n' && (c.is e k).isSome) with
  | false=>trivial
  | true=>
    simp only [Bool.and_eq_true] at hz
    obtain rfl:=Nat.eq_of_beq_eq_true hz.1
    obtain ⟨b',hb'⟩:=Option.isSome_iff_exists.1 hz.2
    simp only [cond_true]
    split
    ·rename_i hnil
     cases hi:(c.P.info? e).isSome with
     | false=>trivial
     | true=>
       obtain ⟨inf,hinf⟩:=Option.isSome_iff_exists.1 hi
       have e0:ps= #[]:=by cases ps;simp at hnil;rw [hnil]
       subst e0
       obtain ⟨v,hr,hV⟩:=qpG (dst:=dst) (ty:=ty) (pos:=pos) (af:=af) (g:=g) (K:=K) (hc.ty_ok hk) hu rfl hinf
       exact qad (v:= .val _ _) hV hr
    ·split
     ·rename_i xs hxs
      cases hlen:Nat.beq ps.toList.length n with
      | false=>
        cases hlt:Nat.blt ps.toList.length n with
        | false=>trivial
        | true=>
          obtain ⟨zs,h1,h2,h3,h4⟩:=qhG h hxs
          simp only [cond_true,cond_false]
          obtain ⟨v,hr,hV⟩:=qpt (dst:=dst) (ty:=ty) (pos:=pos) (af:=af) (g:=g) (K:=K) (ps:=ps.toList) (hc.ty_ok hk) (hc.is_ok hb') hu h3 h4 (by rw [h2];exact Nat.le_of_lt (Nat.le_of_ble_eq_true hlt))
          rw [h1,h2] at hV
          rw [←eps] at hr
          exact qad (v:= .val _ _) hV hr
      | true=>
        obtain ⟨zs,h1,h2,h3,h4⟩:=qhG h hxs
        rw [eps]
        obtain ⟨v,hr,hV⟩:=qm1 (dst:=dst) (ty:=ty) (pos:=pos) (af:=af) (g:=g) (K:=K) (hc.ty_ok hk) (hc.is_ok hb') hu h3 h4 (h2.trans (Nat.eq_of_beq_eq_true hlen))
        rw [h1] at hV
        exact qad (v:= .val _ _) hV hr
     ·trivial
 ·trivial
theorem qly (h:Rel G s θ ρ w K):(qoH s z x y).snd c.P ⟨dst,.pick z x y,ty,pos,af,g⟩ ρ θ s.nx w K:=by
 unfold qoH
 split
 ·rename_i b hZ
  have hz:ev ρ z= .bool b:=h.opd hZ
  split
  ·rename_i v hv
   refine qad (h.opd hv) fun w'=>?_
   unfold execOp
   cases b<;>simp [hz,asBool]
  ·trivial
 ·trivial
theorem qlx (h:Rel G s θ ρ w K) {mx:Bool} {ts:Array TypeId}:(vMM s mx x y).snd c.P ⟨dst,.call { callee:= .builtin (bif mx then .max else .min),args:= #[x,y],argTypes:=ts },ty,pos,af,g⟩ ρ θ s.nx w K:=by
 unfold vMM
 split
 ·rename_i k a l lv k' b l' lv' h1 h2
  split
  ·rename_i hk
   subst hk
   obtain ⟨e1,w1⟩:=h.opdI h1
   obtain ⟨e2,w2⟩:=h.opdI h2
   cases mx with
   | true=>
     refine qad (v:= .int _ _ _) (val:= .int k (max a b)) ⟨rfl,?_⟩ fun w'=>?_
     ·show (Kd.int k).wf (max a b)
      rw [Int.max_def];split<;>assumption
     ·have e3:(if b>a then b else a)=max a b:=by rw [Int.max_def];split<;>split<;>omega
      have e3':(if a<b then b else a)=max a b:=e3
      unfold execOp
      simp [resolve,invoke,builtin,e1,e2,Builtin.max_,Builtin.max2,e3']
   | false=>
     refine qad (v:= .int _ _ _) (val:= .int k (min a b)) ⟨rfl,?_⟩ fun w'=>?_
     ·show (Kd.int k).wf (min a b)
      rw [Int.min_def];split<;>assumption
     ·have e3:(if b<a then b else a)=min a b:=by rw [Int.min_def];split<;>split<;>omega
      unfold execOp
      simp [resolve,invoke,builtin,e1,e2,Builtin.min_,Builtin.min2,e3]
  ·trivial
 ·trivial
theorem qlp (h:Rel G s θ ρ w K) {l:Call}:(qoA c s l).snd c.P ⟨dst,.call l,ty,pos,af,g⟩ ρ θ s.nx w K:=by
 obtain ⟨cal,args,ts⟩:=l
 unfold qoA
 have ea:args=args.toList.toArray:=by simp
 have et:ts=ts.toList.toArray:=by simp
 split
 ·rename_i x t hcal ha ht
  simp only at hcal ha ht
  subst hcal
  rw [ea,et,ha,ht]
  exact qmR h
 ·rename_i x y hcal ha
  simp only at hcal ha
  subst hcal
  rw [ea,ha]
  exact qlx h (mx:=true)
 ·rename_i x y hcal ha
  simp only at hcal ha
  subst hcal
  rw [ea,ha]
  exact qlx h (mx:=false)
 ·trivial
theorem qk4 (hc:c.ok) (h:Rel G s θ ρ w K) (o:Oper):(opV c s o).snd c.P o ρ θ s.nx w K:=by
 obtain ⟨dst,op,ty,pos,af,g⟩:=o
 unfold opV
 split
 ·rename_i x hop;simp only at hop;subst hop
  cases hb:c.atB 8000000 dst with
  | true=>trivial
  | false=>exact qhn h fun w'=>R_mv rfl
 ·rename_i x hop;simp only at hop;subst hop;exact qhn h fun w'=>R_as rfl
 ·rename_i hop;simp only at hop;subst hop;exact qmP hc h
 ·rename_i hop;simp only at hop;subst hop;exact qoI h
 ·rename_i hop;simp only at hop;subst hop;exact qlq h
 ·rename_i hop;simp only at hop;subst hop;exact qfj hc h
 ·rename_i hop;simp only at hop;subst hop;exact qjz hc h
 ·rename_i hop;simp only at hop;subst hop;exact qfk hc h
 ·rename_i hop;simp only at hop;subst hop;exact qjA hc h
 ·rename_i hop;simp only at hop;subst hop;exact qgI h
 ·rename_i hop;simp only at hop;subst hop;exact qlw hc h
 ·rename_i hop;simp only at hop;subst hop;exact qhm h
 ·rename_i hop;simp only at hop;subst hop;exact qlu h
 ·rename_i hop;simp only at hop;subst hop
  cases hb:c.atB 5000000 dst with
  | true=>trivial
  | false=>exact qjB hc h
 ·rename_i b hop
  simp only at hop;subst hop
  cases b with
  | true=>exact qif hc h
  | false=>trivial
 ·rename_i t ps hop;simp only at hop;subst hop;exact (match hq:c.atB 4000000 dst with
   | true=>qib h
   | false=>(match hq:c.atB 6000000 dst with
     | true=>qid hc h
     | false=>qjy hc h))
 ·rename_i hop;simp only at hop;subst hop;exact qly h
 ·rename_i hop;simp only at hop;subst hop;exact qlp h
 ·trivial
end
end Go.Inc

set_option linter.unusedVariables false
namespace Go.Inc
open Go Go.RowKit
inductive PM where
 | v (t:Ty) | nil | snil | bx (t:Ty) (u:Bool) | bk (e:Nat) (u:Bool) | rw (e:Nat) (t:Ty) (u:Bool) | fn (f:Nat) (cs:List PM)
mutual
def PM.den:PM→Type
 | .v t=>t.den
 | .nil=>Unit
 | .snil=>Unit
 | .bx t _=>t.den
 | .bk _ _=>qav
 | .rw _ t _=>List t.den
 | .fn _ cs=>PM.denL cs
def PM.denL:List PM→Type
 | []=>Unit
 | m::l=>PM.den m×PM.denL l
end
mutual
def PM.res:(m:PM)→m.den→List (Res×Bool)
 | .v t,a=> []
 | .nil,a=> []
 | .snil,a=> []
 | .bx t u,a=> [(.bx t a [],u)]
 | .bk e u,a=> [(.bk e a,u)]
 | .rw e t u,a=> [(.rw e t a,u)]
 | .fn _ cs,a=>PM.resL cs a
def PM.resL:(l:List PM)→PM.denL l→List (Res×Bool)
 | [],a=> []
 | m::l,a=>PM.res m a.1++PM.resL l a.2
end
mutual
def PM.sv:(m:PM)→m.den→Nat→SVal
 | .v t,a,n=> .of t a
 | .nil,a,n=> .nil
 | .snil,a,n=> .snil
 | .bx t u,a,n=> .box n t t (Pth.id t)
 | .bk e u,a,n=> .obj n
 | .rw e t u,a,n=> .rw n
 | .fn f cs,a,n=> .fn f (PM.svL cs a n)
def PM.svL:(l:List PM)→PM.denL l→Nat→List SVal
 | [],a,n=> []
 | m::l,a,n=>PM.sv m a.1 n::PM.svL l a.2 (n+(PM.res m a.1).length)
end
inductive RM where
 | v (t:Ty) | ow (e:Nat) (t:Ty) | bx (t:Ty) | rw (e:Nat) (t:Ty)
abbrev RM.den:RM→Type
 | .v t=>t.den
 | .ow _ t=>List t.den
 | .bx t=>t.den
 | .rw _ t=>List t.den
abbrev RM.denL:List RM→Type
 | []=>Unit
 | m::l=>RM.den m×RM.denL l
def RM.res:(m:RM)→m.den→List Res
 | .v t,a=> []
 | .ow e t,a=> [.ow e t a]
 | .rw e t,a=> [.rw e t a]
 | .bx t,a=> [.bx t a []]
def RM.sv:(m:RM)→m.den→Nat→SVal
 | .v t,a,n=> .of t a
 | .ow e t,a,n=> .own n t a
 | .rw e t,a,n=> .rw n
 | .bx t,a,n=> .box n t t (Pth.id t)
def RM.resL:(l:List RM)→RM.denL l→List Res
 | [],a=> []
 | m::l,a=>RM.res m a.1++RM.resL l a.2
def RM.svL:(l:List RM)→RM.denL l→Nat→List SVal
 | [],a,n=> []
 | m::l,a,n=>RM.sv m a.1 n::RM.svL l a.2 (n+(RM.res m a.1).length)
def RM.wfI:(l:List RM)→RM.denL l→Prop→Prop
 | [],_,p=>p
 | .v .bool::l,a,p=>RM.wfI l a.2 p
 | .v t::l,a,p=>t.kd.wf a.1→RM.wfI l a.2 p
 | .ow e t::l,a,p=>(Kd.sl t.kd).wf a.1→RM.wfI l a.2 p
 | .rw e t::l,a,p=>(Kd.sl t.kd).wf a.1→RM.wfI l a.2 p
 | .bx t::l,a,p=>t.kd.wf a.1→RM.wfI l a.2 p
abbrev PM.MD:List PM→Type
 | []=>Unit
 | .bx t true::l=>t.den×PM.MD l
 | .bk _ true::l=>qav×PM.MD l
 | .rw _ t true::l=>List t.den×PM.MD l
 | _::l=>PM.MD l
def PM.aft:(l:List PM)→PM.denL l→PM.MD l→List Res
 | [],_,_=> []
 | .bx t true::l,a,b=> .bx t b.1 []::PM.aft l a.2 b.2
 | .bk e true::l,a,b=> .bk e b.1::PM.aft l a.2 b.2
 | .rw e t true::l,a,b=> .rw e t b.1::PM.aft l a.2 b.2
 | .bx t false::l,a,b=> .bx t a.1 []::PM.aft l a.2 b
 | .bk e false::l,a,b=> .bk e a.1::PM.aft l a.2 b
 | .rw e t false::l,a,b=> .rw e t a.1::PM.aft l a.2 b
 | .v t::l,a,b=>PM.aft l a.2 b
 | .nil::l,a,b=>PM.aft l a.2 b
 | .snil::l,a,b=>PM.aft l a.2 b
 | .fn f cs::l,a,b=>(PM.res (.fn f cs) a.1).map (·.1)++PM.aft l a.2 b
structure Ctr where
 pm:List PM
 rm:List RM
 pr:Option (PM.denL pm→Prop)
 out:(a:PM.denL pm)→RM.denL rm×PM.MD pm
def Ctr.pre (C:Ctr) (a:PM.denL C.pm):Prop:=match C.pr with
 | some p=>p a
 | none=>True
def Ctr.preAnd (C:Ctr) (a:PM.denL C.pm) (X:Prop):Prop:=match C.pr with
 | some p=>p a∧X
 | none=>X
theorem Ctr.preAnd_ok {C:Ctr} {a:PM.denL C.pm} {X:Prop} (h:C.preAnd a X):C.pre a∧X:=by
 unfold Ctr.preAnd at h
 unfold Ctr.pre
 split at h
 ·exact h
 ·exact ⟨trivial,h⟩
def tupV:List Value→Value
 | [v]=>v
 | vs=> .tuple vs.toArray
def tupS:List SVal→SVal
 | [v]=>v
 | vs=> .tup vs
def Apart (θ:Th) (n:Nat):Prop:=∀r r',r<n→r'<n→r≠r'→∀g,θ.fp r g→¬θ.fp r' g
structure ArgsOk (pm:List PM) (a:PM.denL pm) (θ:Th) (vs:List Value) (w:World) (K:Ghost):Prop where
 vals:SVal.relL θ (PM.resL pm a).length K (PM.svL pm a 0) vs
 sat: ∀(r:Nat) (R:Res) (m:Bool),(PM.resL pm a)[r]?=some (R,m)→R.sat θ r (PM.resL pm a).length w K
 apart:Apart θ (PM.resL pm a).length
def qi3 (l:List (Res×Bool)) (θ:Th):Nat→Prop:=fun g=> ∃r R,l[r]?=some (R,true)∧θ.fp r g
def Ctr.ends (C:Ctr) (a:PM.denL C.pm):List Res:=PM.aft C.pm a (C.out a).2++RM.resL C.rm (C.out a).1
structure OutOk (C:Ctr) (a:PM.denL C.pm) (θ:Th) (w:World) (K:Ghost) (v:Value) (w':World) (K':Ghost) (θ':Th):Prop where
 ext:Ext (qi3 (PM.resL C.pm a) θ) w K w' K'
 mod:Models w' K'
 upto:θ.upto θ' (PM.resL C.pm a).length
 val: ∃vs,v=tupV vs∧SVal.relL θ' (C.ends a).length K' (RM.svL C.rm (C.out a).1 (PM.resL C.pm a).length) vs
 sat: ∀(r:Nat) (R:Res),(C.ends a)[r]?=some R→R.sat θ' r (C.ends a).length w' K'
 old: ∀r,r<(PM.resL C.pm a).length→∀g,θ'.fp r g→θ.fp r g∨w.heap.size≤g
 new: ∀r,(PM.resL C.pm a).length≤r→r<(C.ends a).length→∀g,θ'.fp r g→w.heap.size≤g
 apart:Apart θ' (C.ends a).length
def Ctr.valid (P:Program) (f:FuncId) (C:Ctr):Prop:=∀(a:PM.denL C.pm),C.pre a→∀(θ:Th) (vs:List Value) (w:World) (K:Ghost),Models w K→ArgsOk C.pm a θ vs w K→
 Calls P f vs.toArray w fun e w'=> ∃v K' θ',e= .returned v∧OutOk C a θ w K v w' K' θ'
theorem PM.aft_len: ∀ {l:List PM} {a:PM.denL l} {b:PM.MD l},(PM.aft l a b).length=(PM.resL l a).length
 | [],a,b=>rfl
 | .v t::l,a,b=>by
   rw [PM.aft,PM.resL,PM.res,List.nil_append]
   exact PM.aft_len
 | .nil::l,a,b=>by
   rw [PM.aft,PM.resL,PM.res,List.nil_append]
   exact PM.aft_len
 | .snil::l,a,b=>by
   rw [PM.aft,PM.resL,PM.res,List.nil_append]
   exact PM.aft_len
 | .bx t true::l,a,b=>by
   rw [PM.aft,PM.resL,PM.res,List.length_cons,List.singleton_append,List.length_cons,PM.aft_len]
 | .rw e t true::l,a,b=>by
   rw [PM.aft,PM.resL,PM.res,List.length_cons,List.singleton_append,List.length_cons,PM.aft_len]
 | .rw e t false::l,a,b=>by
   rw [PM.aft,PM.resL,PM.res,List.length_cons,List.singleton_append,List.length_cons,PM.aft_len]
 | .bk e true::l,a,b=>by
   rw [PM.aft,PM.resL,PM.res,List.length_cons,List.singleton_append,List.length_cons,PM.aft_len]
 | .bx t false::l,a,b=>by
   rw [PM.aft,PM.resL,PM.res,List.length_cons,List.singleton_append,List.length_cons,PM.aft_len]
 | .bk e false::l,a,b=>by
   rw [PM.aft,PM.resL,PM.res,List.length_cons,List.singleton_append,List.length_cons,PM.aft_len]
 | .fn f cs::l,a,b=>by
   rw [PM.aft,PM.resL,List.length_append,List.length_append,List.length_map,PM.aft_len]
end Go.Inc

set_option linter.unusedVariables false
namespace Go.Inc
open Go Go.RowKit
def Res.objB:Res→Bool
 | .bk _ _=>true
 | .rw _ _ _=>true
 | _=>false
theorem Res.sat.mvO {θ θ':Th} {r r' n n':Nat} {w:World} {K:Ghost}: ∀ {R:Res},R.objB=true→θ'.key r'=θ.key r→θ'.fp r'=θ.fp r→R.sat θ r n w K→R.sat θ' r' n' w K
 | .bk e x,_,hk,hf,h=>by
   show qaJ _ _ _ _ _ _
   rw [hk,hf];exact h
 | .rw e t x,_,hk,hf,h=>by
   show Rw _ _ _ _ _ _∧_
   rw [hk,hf];exact h
 | .bx _ _ _,h,_,_,_=>by cases h
 | .ow _ _ _,h,_,_,_=>by cases h
 | .mp _ _ _ _,h,_,_,_=>by cases h
 | .cl _ _,h,_,_,_=>by cases h
inductive Arg where
 | no (e:Nat)
 | bx (q:Nat) (T t:Ty) (p:Pth T t) (X:T.den) (u:Bool)
 | ob (q:Nat) (R:Res) (u:Bool)
def qaS (org:Org) (lk:Bool):Bool:= !lk && (match org with
 | .ro=>false
 | _=>true)
mutual
def PM.fit (s:St):(m:PM)→SVal→Option (PM.den m×List Arg)
 | .v t,sv=>match sv.to t with
   | some x=>some (x,[])
   | none=>none
 | .nil,sv=>match sv with
   | .nil=>some ((),[])
   | _=>none
 | .snil,sv=>match sv with
   | .snil=>some ((),[])
   | _=>none
 | .bx t u,sv=>match sv with
   | .box r T k p=>(match s.res r with
     | some ⟨.bx T' X [],org,lk⟩=>if h:T'=T then (if h':k=t then (bif !u || qaS org lk then some (Ty.cast h' (p.get (Ty.cast h X)),[.bx r T k p (Ty.cast h X) u]) else none) else none) else none
     | _=>none)
   | _=>none
 | .bk e u,sv=>match sv with
   | .obj r=>(match s.res r with
     | some ⟨.bk e' x,org,lk⟩=>bif Nat.beq e' e && (!u || qaS org lk) then some (x,[.ob r (.bk e' x) u]) else none
     | _=>none)
   | .nil=>some ((none:qav),[.no e])
   | _=>none
 | .rw e t u,sv=>match sv with
   | .rw r=>(match s.res r with
     | some ⟨.rw e' t' x,org,lk⟩=>if h:t'=t then (bif Nat.beq e' e && (!u || qaS org lk) then some (qb4 h x,[.ob r (.rw e' t' x) u]) else none) else none
     | _=>none)
   | _=>none
 | .fn f cs,sv=>match sv with
   | .fn f' vs=>bif Nat.beq f f' then PM.fitL s cs vs else none
   | _=>none
def PM.fitL (s:St):(l:List PM)→List SVal→Option (PM.denL l×List Arg)
 | [],vs=>match vs with
   | []=>some ((),[])
   | _=>none
 | m::l,vs=>match vs with
   | x::xs=>(match PM.fit s m x,PM.fitL s l xs with
     | some (a,i),some (b,j)=>some ((a,b),i++j)
     | _,_=>none)
   | []=>none
end
def shift (o:Nat):Value→Value
 | .pointer (some ⟨b,p,none⟩)=> .pointer (some ⟨b,p+o,none⟩)
 | v=>v
def Arg.rid:Arg→Option Nat
 | .no _=>none
 | .bx q _ _ _ _ _=>some q
 | .ob q _ _=>some q
def Arg.mu:Arg→Option Nat
 | .no _=>none
 | .bx q _ _ _ _ u=>bif u then some q else none
 | .ob q _ u=>bif u then some q else none
def Arg.key (θ:Th):Arg→Value
 | .no _=> .pointer none
 | .bx q _ _ p _ _=>shift p.off (θ.key q)
 | .ob q _ _=>θ.key q
def Arg.fp (θ:Th):Arg→Nat→Prop
 | .no _=>NX
 | .bx q _ _ _ _ _=>θ.fp q
 | .ob q _ _=>θ.fp q
def Arg.R:Arg→Res
 | .no e=> .bk e none
 | .bx _ _ t p X _=> .bx t (p.get X) []
 | .ob _ R _=>R
def Arg.up:Arg→Res→Option Res
 | .bx _ T t p X _,.bx t' y []=>if h:t'=t then some (.bx T (p.put X (Ty.cast h y)) []) else none
 | .ob _ _ _,R=>bif R.objB then some R else none
 | _,_=>none
def Arg.ok (s:St):Arg→Prop
 | .no _=>True
 | .bx q T _ p X u=>p.cnd∧∃org lk,s.res q=some ⟨.bx T X [],org,lk⟩∧(u=true→qaS org lk=true)
 | .ob q R u=>R.objB=true∧∃org lk,s.res q=some ⟨R,org,lk⟩∧(u=true→qaS org lk=true)
def Arg.sur (θ:Th) (w:World) (K:Ghost) (sr:List Value×List Value):Arg→Prop
 | .bx q T t p X _=> ∃b,θ.key q= .pointer (some ⟨b,(θ.sur q).1.length,none⟩)∧sr.1.length=(θ.sur q).1.length+p.off∧Bx t.kd w K b sr.1 sr.2 (p.get X)∧
    ∀(w':World) (K':Ghost) (y:t.den),K.le K'→Bx t.kd w' K' b sr.1 sr.2 y→Bx T.kd w' K' b (θ.sur q).1 (θ.sur q).2 (p.put X y)
 | _=>True
def distinct:List Arg→Bool
 | []=>true
 | a::l=>(match a.rid with
   | some q=>l.all fun b=>match b.rid with
     | some q'=> !(Nat.beq q q')
     | none=>true
   | none=>true) && distinct l
def qbr:List Arg→List Res→Nat→Option Res
 | a::l,R::m,r=>match a.mu with
   | some q=>bif Nat.beq q r then a.up R else qbr l m r
   | none=>qbr l m r
 | _,_,_=>none
def upsB:List Arg→List Res→Bool
 | [],[]=>true
 | a::l,R::m=>(match a.mu with
   | some _=>(a.up R).isSome
   | none=>true) && upsB l m
 | _,_=>false
def qeO (s:St) (args:List Arg) (aft rs:List Res) (r:Nat):Option RE:=
 match qbr args aft r with
 | some R=>(match s.res r with
   | some e=>some { e with r:=R }
   | none=>none)
 | none=>bif Nat.ble s.nx r then (match rs[r - s.nx]? with
   | some R=>some ⟨R,.new,false⟩
   | none=>none) else s.res r
def St.behind (s:St) (args:List Arg) (aft rs:List Res):St:={ s with res:=qeO s args aft rs,nx:=s.nx+rs.length }
def qnV (C:Ctr) (s:St) (vs:List SVal) (k:List Nat→St→SVal→Prop):Option Prop:=
 match PM.fitL s C.pm vs with
 | some (a,args)=>bif distinct args && upsB args (PM.aft C.pm a (C.out a).2) then
    some (C.preAnd a (RM.wfI C.rm (C.out a).1 (k (args.filterMap Arg.mu) (s.behind args (PM.aft C.pm a (C.out a).2) (RM.resL C.rm (C.out a).1)) (tupS (RM.svL C.rm (C.out a).1 s.nx))))) else none
 | none=>none
section
variable {G:Glob} {s:St} {θ:Th} {ρ:Env} {w:World} {K:Ghost} {n:Nat}
theorem qaQ {org:Org} {lk:Bool} {R:Res} (h:qaS org lk=true):RE.free ⟨R,org,lk⟩:=by
 cases lk<;>cases org<;>simp_all [qaS,RE.free]
def Tells (θ θc:Th) (w:World) (K:Ghost) (args:List Arg) (n0:Nat):Prop:=∀j A,args[j]?=some A→θc.key (n0+j)=A.key θ∧θc.fp (n0+j)=A.fp θ∧A.sur θ w K (θc.sur (n0+j))
theorem Tells.left {θc:Th} {a b:List Arg} {n0:Nat} (h:Tells θ θc w K (a++b) n0):Tells θ θc w K a n0:=fun j A hj=>by
 have hlt:=(List.getElem?_eq_some_iff.1 hj).1
 exact h j A (by rw [List.getElem?_append_left hlt];exact hj)
theorem Tells.right {θc:Th} {a b:List Arg} {n0:Nat} (h:Tells θ θc w K (a++b) n0):Tells θ θc w K b (n0+a.length):=fun j A hj=>by
 rw [Nat.add_assoc]
 exact h (a.length+j) A (by rw [List.getElem?_append_right (by omega)];simpa using hj)
mutual
theorem PM.fit_ok (h:Rel G s θ ρ w K): ∀ {m:PM} {sv:SVal} {a:PM.den m} {args:List Arg},PM.fit s m sv=some (a,args)→(∀A∈args,A.ok s∨∀u,sv.rel θ s.nx K u→A.ok s)∧(PM.res m a).map (·.1)=args.map Arg.R∧
 (∀(j:Nat) (A:Arg),args[j]?=some A→∀(R:Res),(PM.res m a)[j]?=some (R,true)→A.mu=A.rid)
 | .v t,sv,a,args,hf=>by
   simp only [PM.fit] at hf
   split at hf
   ·cases hf
    exact ⟨by simp,rfl,by simp⟩
   ·cases hf
 | .nil,sv,a,args,hf=>by
   simp only [PM.fit] at hf
   split at hf
   ·cases hf
    exact ⟨by simp,rfl,by simp⟩
   ·cases hf
 | .snil,sv,a,args,hf=>by
   simp only [PM.fit] at hf
   split at hf
   ·cases hf
    exact ⟨by simp,rfl,by simp⟩
   ·cases hf
 | .bx t u,sv,a,args,hf=>by
   simp only [PM.fit] at hf
   split at hf
   ·rename_i r T k p
    split at hf
    ·rename_i T' X org lk hr
     split at hf
     ·rename_i hT
      subst hT
      split at hf
      ·rename_i hk
       subst hk
       cases hb:(!u || qaS org lk) with
       | false=>rw [hb] at hf;cases hf
       | true=>
         rw [hb] at hf
         cases hf
         refine ⟨?_,rfl,?_⟩
         ·intro A hA
          obtain rfl:=List.mem_singleton.1 hA
          refine .inr fun v hv=>⟨hv.2.1,org,lk,hr,fun hu=>?_⟩
          rw [hu] at hb
          simpa using hb
         ·intro j A hj R hR
          cases j with
          | zero=>
            simp at hj
            subst hj
            simp [PM.res] at hR
            simp [Arg.mu,Arg.rid,hR.2]
          | succ j=>simp at hj
      ·cases hf
     ·cases hf
    ·cases hf
   ·cases hf
 | .bk e u,sv,a,args,hf=>by
   simp only [PM.fit] at hf
   split at hf
   ·rename_i r
    split at hf
    ·rename_i e' x org lk hr
     cases hb:(Nat.beq e' e && (!u || qaS org lk)) with
     | false=>rw [hb] at hf;cases hf
     | true=>
       rw [hb] at hf
       cases hf
       simp only [Bool.and_eq_true] at hb
       obtain rfl:=Nat.eq_of_beq_eq_true hb.1
       refine ⟨?_,rfl,?_⟩
       ·intro A hA
        obtain rfl:=List.mem_singleton.1 hA
        refine .inl ⟨rfl,org,lk,hr,fun hu=>?_⟩
        have hb2:=hb.2
        rw [hu] at hb2
        simpa using hb2
       ·intro j A hj R hR
        cases j with
        | zero=>
          simp at hj
          subst hj
          simp [PM.res] at hR
          simp [Arg.mu,Arg.rid,hR.2]
        | succ j=>simp at hj
    ·cases hf
   ·cases hf
    refine ⟨?_,rfl,?_⟩
    ·intro A hA
     obtain rfl:=List.mem_singleton.1 hA
     exact .inl trivial
    ·intro j A hj R hR
     cases j with
     | zero=>
       simp at hj
       subst hj
       rfl
     | succ j=>simp at hj
   ·cases hf
 | .rw e t u,sv,a,args,hf=>by
   simp only [PM.fit] at hf
   split at hf
   ·rename_i r
    split at hf
    ·rename_i e' t' x org lk hr
     split at hf
     ·rename_i ht
      subst ht
      cases hb:(Nat.beq e' e && (!u || qaS org lk)) with
      | false=>rw [hb] at hf;cases hf
      | true=>
        rw [hb] at hf
        cases hf
        simp only [Bool.and_eq_true] at hb
        obtain rfl:=Nat.eq_of_beq_eq_true hb.1
        refine ⟨?_,rfl,?_⟩
        ·intro A hA
         obtain rfl:=List.mem_singleton.1 hA
         refine .inl ⟨rfl,org,lk,hr,fun hu=>?_⟩
         have hb2:=hb.2
         rw [hu] at hb2
         simpa using hb2
        ·intro j A hj R hR
         cases j with
         | zero=>
           simp at hj
           subst hj
           simp [PM.res] at hR
           simp [Arg.mu,Arg.rid,hR.2]
         | succ j=>simp at hj
     ·cases hf
    ·cases hf
   ·cases hf
 | .fn f cs,sv,a,args,hf=>by
   simp only [PM.fit] at hf
   split at hf
   ·rename_i f' vs
    cases hb:Nat.beq f f' with
    | false=>rw [hb] at hf;cases hf
    | true=>
      rw [hb] at hf
      obtain ⟨h1,h2,h3⟩:=PM.fitL_ok h hf
      refine ⟨fun A hA=>(h1 A hA).imp (fun h=>h) fun hh u hu=>?_,h2,h3⟩
      obtain ⟨us,_,hus⟩:=hu
      exact hh us hus
   ·cases hf
theorem PM.fitL_ok (h:Rel G s θ ρ w K): ∀ {l:List PM} {svs:List SVal} {a:PM.denL l} {args:List Arg},PM.fitL s l svs=some (a,args)→(∀A∈args,A.ok s∨∀us,SVal.relL θ s.nx K svs us→A.ok s)∧(PM.resL l a).map (·.1)=args.map Arg.R∧
 (∀(j:Nat) (A:Arg),args[j]?=some A→∀(R:Res),(PM.resL l a)[j]?=some (R,true)→A.mu=A.rid)
 | [],svs,a,args,hf=>by
   simp only [PM.fitL] at hf
   split at hf
   ·cases hf
    exact ⟨by simp,rfl,by simp⟩
   ·cases hf
 | m::l,svs,a,args,hf=>by
   simp only [PM.fitL] at hf
   split at hf
   ·rename_i v vs
    split at hf
    ·rename_i a1 i b j h1 h2
     cases hf
     obtain ⟨x1,x2,x3⟩:=PM.fit_ok h h1
     obtain ⟨y1,y2,y3⟩:=PM.fitL_ok h h2
     have hlen:(PM.res m a1).length=i.length:=by
      have:=congrArg List.length x2
      simpa using this
     refine ⟨?_,?_,?_⟩
     ·intro A hA
      rcases List.mem_append.1 hA with hA | hA
      ·exact (x1 A hA).imp (fun h=>h) fun hh us hus=>by
        obtain ⟨u,r,_,hu,hr⟩:=hus
        exact hh u hu
      ·exact (y1 A hA).imp (fun h=>h) fun hh us hus=>by
        obtain ⟨u,r,_,hu,hr⟩:=hus
        exact hh r hr
     ·show (PM.res m a1++PM.resL l b).map (·.1)=(i++j).map Arg.R
      rw [List.map_append,List.map_append,x2,y2]
     ·intro q A hq R hR
      have hR':(PM.res m a1++PM.resL l b)[q]?=some (R,true):=hR
      rcases Nat.lt_or_ge q i.length with hlt | hge
      ·rw [List.getElem?_append_left hlt] at hq
       rw [List.getElem?_append_left (by omega)] at hR'
       exact x3 q A hq R hR'
      ·rw [List.getElem?_append_right hge] at hq
       rw [List.getElem?_append_right (by omega),hlen] at hR'
       exact y3 _ A hq R hR'
    ·cases hf
   ·cases hf
end
mutual
theorem PM.fit_val (h:Rel G s θ ρ w K) {θc:Th} {N:Nat}: ∀ {m:PM} {sv:SVal} {a:PM.den m} {args:List Arg} {n0:Nat} {u:Value},PM.fit s m sv=some (a,args)→sv.rel θ s.nx K u→Tells θ θc w K args n0→n0+args.length≤N→(PM.sv m a n0).rel θc N K u
 | .v t,sv,a,args,n0,u,hf,hr,ht,hN=>by
   simp only [PM.fit] at hf
   split at hf
   ·rename_i x hx
    cases hf
    exact SVal.of_rel (SVal.to_rel hx hr)
   ·cases hf
 | .nil,sv,a,args,n0,u,hf,hr,ht,hN=>by
   simp only [PM.fit] at hf
   split at hf
   ·exact hr
   ·cases hf
 | .snil,sv,a,args,n0,u,hf,hr,ht,hN=>by
   simp only [PM.fit] at hf
   split at hf
   ·exact hr
   ·cases hf
 | .bx t b,sv,a,args,n0,u,hf,hr,ht,hN=>by
   simp only [PM.fit] at hf
   split at hf
   ·rename_i r T k p
    split at hf
    ·rename_i T' X org lk hres
     split at hf
     ·rename_i hT
      subst hT
      split at hf
      ·rename_i hk
       subst hk
       cases hb:(!b || qaS org lk) with
       | false=>rw [hb] at hf;cases hf
       | true=>
         rw [hb] at hf
         cases hf
         obtain ⟨hk,_,_⟩:=ht 0 _ rfl
         obtain ⟨_,_,bl,o,h1,h2⟩:=hr
         have hk':θc.key n0= .pointer (some ⟨bl,o+p.off,none⟩):=by
          rw [show n0=n0+0 from rfl,hk]
          show shift p.off (θ.key r)=_
          rw [h1]
          rfl
         exact ⟨Nat.lt_of_lt_of_le (Nat.lt_succ_self _) hN,trivial,bl,o+p.off,hk',h2⟩
      ·cases hf
     ·cases hf
    ·cases hf
   ·cases hf
 | .bk e b,sv,a,args,n0,u,hf,hr,ht,hN=>by
   simp only [PM.fit] at hf
   split at hf
   ·rename_i r
    split at hf
    ·rename_i e' x org lk hres
     cases hb:(Nat.beq e' e && (!b || qaS org lk)) with
     | false=>rw [hb] at hf;cases hf
     | true=>
       rw [hb] at hf
       cases hf
       obtain ⟨hk,_,_⟩:=ht 0 _ rfl
       exact ⟨Nat.lt_of_lt_of_le (Nat.lt_succ_self _) hN,hk.trans hr.2⟩
    ·cases hf
   ·cases hf
    obtain ⟨hk,_,_⟩:=ht 0 _ rfl
    have hr':u= .pointer none:=hr
    exact ⟨Nat.lt_of_lt_of_le (Nat.lt_succ_self _) hN,hk.trans hr'.symm⟩
   ·cases hf
 | .rw e t b,sv,a,args,n0,u,hf,hr,ht,hN=>by
   simp only [PM.fit] at hf
   split at hf
   ·rename_i r
    split at hf
    ·rename_i e' t' x org lk hres
     split at hf
     ·rename_i hT
      subst hT
      cases hb:(Nat.beq e' e && (!b || qaS org lk)) with
      | false=>rw [hb] at hf;cases hf
      | true=>
        rw [hb] at hf
        cases hf
        obtain ⟨hk,_,_⟩:=ht 0 _ rfl
        exact ⟨Nat.lt_of_lt_of_le (Nat.lt_succ_self _) hN,hk.trans hr.2⟩
     ·cases hf
    ·cases hf
   ·cases hf
 | .fn f cs,sv,a,args,n0,u,hf,hr,ht,hN=>by
   simp only [PM.fit] at hf
   split at hf
   ·rename_i f' vs
    cases hb:Nat.beq f f' with
    | false=>rw [hb] at hf;cases hf
    | true=>
      rw [hb] at hf
      obtain rfl:=Nat.eq_of_beq_eq_true hb
      obtain ⟨us,hu,hus⟩:=hr
      exact ⟨us,hu,PM.fitL_val h hf hus ht hN⟩
   ·cases hf
theorem PM.fitL_val (h:Rel G s θ ρ w K) {θc:Th} {N:Nat}: ∀ {l:List PM} {svs:List SVal} {a:PM.denL l} {args:List Arg} {n0:Nat} {us:List Value},PM.fitL s l svs=some (a,args)→SVal.relL θ s.nx K svs us→Tells θ θc w K args n0→n0+args.length≤N→SVal.relL θc N K (PM.svL l a n0) us
 | [],svs,a,args,n0,us,hf,hr,ht,hN=>by
   simp only [PM.fitL] at hf
   split at hf
   ·exact hr
   ·cases hf
 | m::l,svs,a,args,n0,us,hf,hr,ht,hN=>by
   simp only [PM.fitL] at hf
   split at hf
   ·rename_i v vs
    split at hf
    ·rename_i a1 i b j h1 h2
     cases hf
     obtain ⟨u,r,e,hu,hr⟩:=hr
     have hlen:(PM.res m a1).length=i.length:=by
      have:=congrArg List.length (PM.fit_ok h h1).2.1
      simpa using this
     rw [List.length_append] at hN
     refine ⟨u,r,e,PM.fit_val h h1 hu ht.left (by omega),?_⟩
     show SVal.relL θc N K (PM.svL l b (n0+(PM.res m a1).length)) r
     rw [hlen]
     exact PM.fitL_val h h2 hr ht.right (by omega)
    ·cases hf
   ·cases hf
end
end
end Go.Inc

set_option linter.unusedVariables false
namespace Go.Inc
open Go Go.RowKit
theorem qku {α:Type} {n:Nat} {P:Nat→α→Prop} [Inhabited α] (h: ∀j,j<n→∃x,P j x): ∃f:Nat→α,∀j,j<n→P j (f j):=by
 classical
 refine ⟨fun j=>if hj:j<n then Classical.choose (h j hj) else default,fun j hj=>?_⟩
 simp only [hj,dif_pos]
 exact Classical.choose_spec (h j hj)
theorem qdd: ∀ {l:List Arg},distinct l=true→∀ {i j:Nat} {A B:Arg} {q:Nat},i<j→l[i]?=some A→l[j]?=some B→A.rid=some q→B.rid≠some q
 | [],_,i,j,A,B,q,_,hi,_,_=>by simp at hi
 | a::l,h,0,0,A,B,q,hij,_,_,_=>absurd hij (Nat.lt_irrefl _)
 | a::l,h,i+1,0,A,B,q,hij,_,_,_=>absurd hij (Nat.not_lt_zero _)
 | a::l,h,0,j+1,A,B,q,hij,hi,hj,hA=>fun hB=>by
   simp at hi
   subst hi
   simp only [distinct,hA,Bool.and_eq_true,List.all_eq_true] at h
   have hm:B∈l:=List.mem_of_getElem? (by simpa using hj)
   have:=h.1 B hm
   simp [hB] at this
 | a::l,h,i+1,j+1,A,B,q,hij,hi,hj,hA=>by
   simp only [distinct,Bool.and_eq_true] at h
   exact qdd h.2 (Nat.lt_of_succ_lt_succ hij) (by simpa using hi) (by simpa using hj) hA
theorem qeQ {l:List Arg} (h:distinct l=true) {i j:Nat} {A B:Arg} {q:Nat} (hi:l[i]?=some A) (hj:l[j]?=some B) (hA:A.rid=some q) (hB:B.rid=some q):i=j:=by
 rcases Nat.lt_trichotomy i j with hlt | he | hgt
 ·exact absurd hB (qdd h hlt hi hj hA)
 ·exact he
 ·exact absurd hA (qdd h hgt hj hi hB)
theorem Arg.mu_rid {A:Arg} {q:Nat} (h:A.mu=some q):A.rid=some q:=by
 cases A with
 | no e=>cases h
 | bx q' T t p X u=>cases u<;>simp_all [Arg.mu,Arg.rid]
 | ob q' R u=>cases u<;>simp_all [Arg.mu,Arg.rid]
theorem qbC: ∀ {l:List Arg} {m:List Res} {r:Nat} {R:Res},qbr l m r=some R→∃(j:Nat) (A:Arg) (B:Res),l[j]?=some A∧m[j]?=some B∧A.mu=some r∧A.up B=some R
 | [],m,r,R,h=>by simp [qbr] at h
 | a::l,[],r,R,h=>by simp [qbr] at h
 | a::l,B::m,r,R,h=>by
   simp only [qbr] at h
   split at h
   ·rename_i q hq
    cases hb:Nat.beq q r with
    | true=>
      rw [hb] at h
      obtain rfl:=Nat.eq_of_beq_eq_true hb
      exact ⟨0,a,B,rfl,rfl,hq,h⟩
    | false=>
      rw [hb] at h
      obtain ⟨j,A,B',h1,h2,h3⟩:=qbC (show qbr l m r=some R from h)
      exact ⟨j+1,A,B',by simpa using h1,by simpa using h2,h3⟩
   ·obtain ⟨j,A,B',h1,h2,h3⟩:=qbC h
    exact ⟨j+1,A,B',by simpa using h1,by simpa using h2,h3⟩
theorem qcj: ∀ {l:List Arg} {m:List Res} {r:Nat},upsB l m=true→qbr l m r=none→∀(j:Nat) (A:Arg),l[j]?=some A→A.mu≠some r
 | [],m,r,hu,h,j,A,hj=>by simp at hj
 | a::l,[],r,hu,h,j,A,hj=>by simp [upsB] at hu
 | a::l,B::m,r,hu,h,j,A,hj=>by
   simp only [upsB,Bool.and_eq_true] at hu
   simp only [qbr] at h
   split at h
   ·rename_i q hq
    rw [hq] at hu
    cases hb:Nat.beq q r with
    | true=>
      rw [hb] at h
      have h':a.up B=none:=h
      rw [h'] at hu
      exact absurd hu.1 (by simp)
    | false=>
      rw [hb] at h
      cases j with
      | zero=>
        simp at hj
        subst hj
        intro he
        rw [hq] at he
        cases he
        simp at hb
      | succ j=>exact qcj hu.2 h j A (by simpa using hj)
   ·rename_i hq
    cases j with
    | zero=>
      simp at hj
      subst hj
      rw [hq]
      exact fun h=>by cases h
    | succ j=>exact qcj hu.2 h j A (by simpa using hj)
def Res.plain:Res→Prop
 | .bx _ _ ps=>ps=[]
 | .cl _ _=>False
 | _=>True
theorem Res.sat.move {θ θ':Th} {r r' n n':Nat} {w:World} {K:Ghost} (hk:θ'.key r'=θ.key r) (hf:θ'.fp r'=θ.fp r) (hs:θ'.sur r'=θ.sur r): ∀ {R:Res},R.plain→R.sat θ r n w K→R.sat θ' r' n' w K
 | .bx t x ps,hp,⟨b,h1,h2,h3,h4⟩=>by
   have hp':ps=[]:=hp
   subst hp'
   exact ⟨b,by rw [hk,hs];exact h1,by rw [hf];exact h2,by rw [hs];exact h3,by simp⟩
 | .ow e t x,_,h=>by
   show Own _ _ _ _ _ _∧_
   rw [hk,hf];exact h
 | .rw e t x,_,h=>by
   show Rw _ _ _ _ _ _∧_
   rw [hk,hf];exact h
 | .mp kk kv m nn,_,h=>by
   show Mp _ _ _ _ _ _∧_
   rw [hk,hf];exact h
 | .bk e x,_,h=>by
   show qaJ _ _ _ _ _ _
   rw [hk,hf];exact h
 | .cl _ _,h,_=>h.elim
theorem RM.plain: ∀ {l:List RM} {a:RM.denL l},∀R∈RM.resL l a,R.plain
 | [],a,R,h=>by simp [RM.resL] at h
 | m::l,a,R,h=>by
   rcases List.mem_append.1 (show R∈RM.res m a.1++RM.resL l a.2 from h) with h | h
   ·cases m with
    | v t=>simp [RM.res] at h
    | ow e t=>simp [RM.res] at h;subst h;trivial
    | bx t=>simp [RM.res] at h;subst h;exact rfl
    | rw e t=>simp [RM.res] at h;subst h;trivial
   ·exact RM.plain R h
theorem RM.sv_move {θ θ':Th} {N N':Nat} {K:Ghost}: ∀ {l:List RM} {a:RM.denL l} {n n':Nat} {vs:List Value},(∀i,i<(RM.resL l a).length→θ'.key (n'+i)=θ.key (n+i))→n'+(RM.resL l a).length≤N'→SVal.relL θ N K (RM.svL l a n) vs→SVal.relL θ' N' K (RM.svL l a n') vs
 | [],a,n,n',vs,hk,hN,h=>h
 | m::l,a,n,n',vs,hk,hN,⟨u0,r,e,h1,h2⟩=>by
   have hlen:(RM.resL (m::l) a).length=(RM.res m a.1).length+(RM.resL l a.2).length:=by
    show (RM.res m a.1++RM.resL l a.2).length=_
    rw [List.length_append]
   rw [hlen] at hN
   refine ⟨u0,r,e,?_,?_⟩
   ·cases m with
    | v t=>
      have h1':(SVal.of t a.1).rel θ N K u0:=h1
      exact (SVal.of_rel (K:=K) (θ:=θ') (n:=N') (by
       have: ∀ {t:Ty} {x:t.den},(SVal.of t x).rel θ N K u0→t.kd.V K x u0:=fun {t x} h=>by
        cases t with
        | int ik=>obtain ⟨rfl,hw⟩:=h;exact qeo hw
        | byte=>have h':u0= .int .u8 (bI _):=h;subst h';exact bI_V
        | bool=>have h':u0= .bool _:=h;subst h';exact qcs
        | str=>obtain ⟨rfl,hw⟩:=h;exact qou hw
        | _=>exact h
       exact this h1'))
    | ow e t=>
      obtain ⟨_,hV,hkey⟩:=h1
      refine ⟨by simp [RM.res] at hN;omega,hV,?_⟩
      have:=hk 0 (by rw [hlen];simp [RM.res];omega)
      exact this.trans hkey
    | bx t=>
      obtain ⟨_,_,b,o,h3,h4⟩:=h1
      refine ⟨by simp [RM.res] at hN;omega,trivial,b,o,?_,h4⟩
      have:=hk 0 (by rw [hlen];simp [RM.res];omega)
      exact this.trans h3
    | rw e t=>
      obtain ⟨_,hkey⟩:=h1
      refine ⟨by simp [RM.res] at hN;omega,?_⟩
      have:=hk 0 (by rw [hlen];simp [RM.res];omega)
      exact this.trans hkey
   ·refine RM.sv_move (fun i hi=>?_) (by omega) h2
    have:=hk ((RM.res m a.1).length+i) (by rw [hlen];omega)
    rw [Nat.add_assoc,Nat.add_assoc]
    exact this
theorem qlk {θ:Th} {n:Nat} {K:Ghost}: ∀ {l:List SVal} {vs:List Value},SVal.relL θ n K l vs→(tupS l).rel θ n K (tupV vs)
 | [],vs,h=>by
   have h':vs=[]:=h
   subst h'
   exact ⟨[],rfl,rfl⟩
 | [s],vs,⟨v,r,e,h1,h2⟩=>by
   have h2':r=[]:=h2
   subst h2'
   subst e
   exact h1
 | s::s'::l,vs,h=>by
   obtain ⟨v,r,e,h1,v',r',e',h2,h3⟩:=h
   subst e'
   subst e
   exact ⟨v::v'::r',rfl,v,_,rfl,h1,v',r',rfl,h2,h3⟩
theorem qiR {θ:Th} {N:Nat} {K:Ghost} {t:Ty} {x:t.den} {u0:Value} (h:(SVal.of t x).rel θ N K u0):t.kd.V K x u0:=by
 cases t with
 | int ik=>obtain ⟨rfl,hw⟩:=h;exact qeo hw
 | byte=>have h':u0= .int .u8 (bI _):=h;subst h';exact bI_V
 | bool=>have h':u0= .bool _:=h;subst h';exact qcs
 | str=>obtain ⟨rfl,hw⟩:=h;exact qou hw
 | _=>exact h
theorem RM.wfI_of {θ:Th} {N:Nat} {K:Ghost} {w:World} {p:Prop}: ∀ {l:List RM} {a:RM.denL l} {n:Nat} {vs:List Value},SVal.relL θ N K (RM.svL l a n) vs→(∀(j:Nat) (R:Res),(RM.resL l a)[j]?=some R→R.sat θ (n+j) N w K)→RM.wfI l a p→p
 | [],a,n,vs,hr,hs,h=>h
 | .v t::l,a,n,vs,⟨u,r,e,h1,h2⟩,hs,h=>by
   have hV:t.kd.V K a.1 u:=qiR h1
   have rest:RM.wfI l a.2 p→p:=fun h=>RM.wfI_of h2 (fun j R hj=>by
    have:=hs j R hj
    simpa [RM.res] using this) h
   have hw:=hV.wf
   cases t with
   | bool=>exact rest h
   | _=>exact rest (h hw)
 | .ow e t::l,a,n,vs,⟨u,r,e',h1,h2⟩,hs,h=>by
   have hs': ∀(j:Nat) (R:Res),(RM.resL l a.2)[j]?=some R→R.sat θ (n+1+j) N w K:=fun j R hj=>by
    have:=hs (1+j) R (by rw [Nat.add_comm 1 j];simpa [RM.resL,RM.res] using hj)
    rw [Nat.add_assoc]
    exact this
   exact RM.wfI_of h2 hs' (h h1.2.1.wf)
 | .bx t::l,a,n,vs,⟨u,r,e',h1,h2⟩,hs,h=>by
   have h0:(Res.bx t a.1 []).sat θ n N w K:=hs 0 _ rfl
   obtain ⟨b,_,_,hB,_⟩:=h0
   have hs': ∀(j:Nat) (R:Res),(RM.resL l a.2)[j]?=some R→R.sat θ (n+1+j) N w K:=fun j R hj=>by
    have:=hs (1+j) R (by rw [Nat.add_comm 1 j];simpa [RM.resL,RM.res] using hj)
    rw [Nat.add_assoc]
    exact this
   exact RM.wfI_of h2 hs' (h hB.wf)
 | .rw e t::l,a,n,vs,⟨u,r,e',h1,h2⟩,hs,h=>by
   have h0:(Res.rw e t a.1).sat θ n N w K:=hs 0 _ rfl
   have hs': ∀(j:Nat) (R:Res),(RM.resL l a.2)[j]?=some R→R.sat θ (n+1+j) N w K:=fun j R hj=>by
    have:=hs (1+j) R (by rw [Nat.add_comm 1 j];simpa [RM.resL,RM.res] using hj)
    rw [Nat.add_assoc]
    exact this
   exact RM.wfI_of h2 hs' (h h0.1.wf)
section
variable {G:Glob} {s:St} {θ:Th} {ρ:Env} {w:World} {K:Ghost} {n:Nat}
theorem Arg.sur_ex (h:Rel G s θ ρ w K): ∀ {A:Arg},A.ok s→∃sr,A.sur θ w K sr
 | .no e,_=>⟨([],[]),trivial⟩
 | .ob q R u,_=>⟨([],[]),trivial⟩
 | .bx q T t p X u,⟨hp,org,lk,hr,_⟩=>by
   obtain ⟨b,hk,hf,hB,_⟩:=(h.res _ _ hr).2.1
   obtain ⟨p',q',hl,hB',hback⟩:=Bx.sub (p.ok hp) hB
   exact ⟨((θ.sur q).1++p',q'++(θ.sur q).2),b,hk,by rw [List.length_append,hl],hB',fun w' K' y hle hy=>hback hle hy⟩
theorem Arg.sat_of (h:Rel G s θ ρ w K) {θc:Th} {j N:Nat}: ∀ {A:Arg},A.ok s→θc.key j=A.key θ→θc.fp j=A.fp θ→A.sur θ w K (θc.sur j)→A.R.sat θc j N w K
 | .no e,_,hk,hf,_=>by
   show qaJ e w K (θc.key j) (θc.fp j) none
   rw [hk,hf]
   exact qaJ.nil
 | .ob q R u,⟨ho,org,lk,hr,_⟩,hk,hf,_=>(h.res _ _ hr).2.1.mvO ho hk hf
 | .bx q T t p X u,⟨hp,org,lk,hr,_⟩,hk,hf,⟨b,h1,h2,h3,h4⟩=>by
   obtain ⟨b',hk',hf',hB,_⟩:=(h.res _ _ hr).2.1
   rw [h1] at hk'
   cases hk'
   refine ⟨b,?_,?_,h3,by simp⟩
   ·rw [hk]
    show shift p.off (θ.key q)=_
    rw [h1,h2]
    rfl
   ·rw [hf];exact hf'
theorem qkt (hG:G.fine) (h:Rel G s θ ρ w K) {P:Program} {f:FuncId} {C:Ctr} (hC:C.valid P f) {svs:List SVal} {vs:List Value} {k:List Nat→St→SVal→Prop} {Φ:Prop} (hc:qnV C s svs k=some Φ) (hΦ:Φ) (hvs:SVal.relL θ s.nx K svs vs):
 Calls P f vs.toArray w fun e w'=> ∃v K' θ' s' sv tn,e= .returned v∧k tn s' sv∧Rel G s' θ' ρ w' K'∧sv.rel θ' s'.nx K' v∧s'.env=s.env∧(∀r∈tn,∃e,s.res r=some e)∧Ext (fun g=> ∃r∈tn,θ.fp r g) w K w' K'∧Moved s s' θ θ' w tn:=by
 classical
 unfold qnV at hc
 split at hc
 ·rename_i a args hfit
  cases hb:(distinct args && upsB args (PM.aft C.pm a (C.out a).2)) with
  | false=>rw [hb] at hc;cases hc
  | true=>
    rw [hb] at hc
    simp only [cond_true,Option.some.injEq] at hc
    subst hc
    simp only [Bool.and_eq_true] at hb
    obtain ⟨hdis,hups⟩:=hb
    obtain ⟨hpre,hk⟩:=Ctr.preAnd_ok hΦ
    obtain ⟨f1,f2,f3⟩:=PM.fitL_ok h hfit
    have hok: ∀A∈args,A.ok s:=fun A hA=>(f1 A hA).elim (fun h=>h) (fun h=>h vs hvs)
    have hlen:(PM.resL C.pm a).length=args.length:=by
     have:=congrArg List.length f2
     simpa using this
    obtain ⟨sr,hsr⟩:=qku (n:=args.length) (P:=fun j sr=> ∀A,args[j]?=some A→A.sur θ w K sr) fun j hj=>by
     obtain ⟨sr,hs⟩:=Arg.sur_ex h (hok args[j] (List.getElem_mem hj))
     exact ⟨sr,fun A hA=>by
      rw [List.getElem?_eq_getElem hj] at hA
      cases hA
      exact hs⟩
    let θc:Th:=⟨fun j=>match args[j]? with
     | some A=>A.key θ
     | none=> .pointer none,fun j=>match args[j]? with
     | some A=>A.fp θ
     | none=>NX,sr⟩
    have htell:Tells θ θc w K args 0:=fun j A hj=>by
     rw [Nat.zero_add]
     have hlt:=(List.getElem?_eq_some_iff.1 hj).1
     refine ⟨?_,?_,hsr j hlt A hj⟩
     ·show (match args[j]? with
       | some A=>A.key θ
       | none=> .pointer none)=_
      rw [hj]
     ·show (match args[j]? with
       | some A=>A.fp θ
       | none=>NX)=_
      rw [hj]
    have hresA: ∀(r:Nat) (R:Res) (m:Bool),(PM.resL C.pm a)[r]?=some (R,m)→∃A,args[r]?=some A∧R=A.R:=fun r R m hr=>by
     have h1:((PM.resL C.pm a).map (·.1))[r]?=some R:=by rw [List.getElem?_map,hr];rfl
     rw [f2,List.getElem?_map] at h1
     cases hA:args[r]? with
     | none=>rw [hA] at h1;cases h1
     | some A=>rw [hA] at h1;cases h1;exact ⟨A,rfl,rfl⟩
    have hargs:ArgsOk C.pm a θc vs w K:=by
     refine ⟨?_,?_,?_⟩
     ·exact PM.fitL_val h hfit hvs htell (by omega)
     ·intro r R m hr
      obtain ⟨A,hA,rfl⟩:=hresA r R m hr
      obtain ⟨t1,t2,t3⟩:=htell r A hA
      rw [Nat.zero_add] at t1 t2 t3
      exact Arg.sat_of h (hok A (List.mem_of_getElem? hA)) t1 t2 t3
     ·intro r r' hr hr' hne g hg hg'
      rw [hlen] at hr hr'
      have e1:args[r]?=some args[r]:=List.getElem?_eq_getElem hr
      have e2:args[r']?=some args[r']:=List.getElem?_eq_getElem hr'
      have t1:=(htell r _ e1).2.1
      have t2:=(htell r' _ e2).2.1
      rw [Nat.zero_add] at t1 t2
      rw [t1] at hg
      rw [t2] at hg'
      have o1:=hok _ (List.mem_of_getElem? e1)
      have o2:=hok _ (List.mem_of_getElem? e2)
      have gen: ∀ {A B:Arg},args[r]?=some A→args[r']?=some B→A.ok s→B.ok s→A.fp θ g→B.fp θ g→False:=fun {A B} e1 e2 o1 o2 hg hg'=>by
       have hr1: ∀ {A:Arg},A.ok s→A.fp θ g→∃q e,A.rid=some q∧s.res q=some e∧θ.fp q g:=fun {A} o hg=>by
        cases A with
        | no e=>exact hg.elim
        | bx q T t p X u=>obtain ⟨_,org,lk,hr,_⟩:=o;exact ⟨q,_,rfl,hr,hg⟩
        | ob q R u=>obtain ⟨_,org,lk,hr,_⟩:=o;exact ⟨q,_,rfl,hr,hg⟩
       obtain ⟨q1,ea,i1,i2,i3⟩:=hr1 o1 hg
       obtain ⟨q2,eb,j1,j2,j3⟩:=hr1 o2 hg'
       by_cases hq:q1=q2
       ·subst hq
        exact hne (qeQ hdis e1 e2 i1 j1)
       ·exact h.sep q1 q2 ea eb i2 j2 hq g i3 j3
      exact gen e1 e2 o1 o2 hg hg'
    refine (hC a hpre θc vs w K h.mod hargs).mono ?_
    rintro e w' ⟨v,K',θd,rfl,hO⟩
    have hT: ∀r,(∃(j:Nat) (A:Arg),args[j]?=some A∧A.mu=some r)→r<s.nx∧∃e,s.res r=some e∧e.free:=fun r ⟨j,A,hj,hm⟩=>by
     have o:=hok A (List.mem_of_getElem? hj)
     cases A with
     | no e=>cases hm
     | bx q T t p X u=>
       obtain ⟨_,org,lk,hr,hu⟩:=o
       cases u with
       | false=>cases hm
       | true=>cases hm;exact ⟨(h.res _ _ hr).1,_,hr,qaQ (hu rfl)⟩
     | ob q R u=>
       obtain ⟨_,org,lk,hr,hu⟩:=o
       cases u with
       | false=>cases hm
       | true=>cases hm;exact ⟨(h.res _ _ hr).1,_,hr,qaQ (hu rfl)⟩
    let T:Nat→Prop:=fun r=> ∃(j:Nat) (A:Arg),args[j]?=some A∧A.mu=some r
    let θ':Th:=⟨fun r=>if r<s.nx then θ.key r else θd.key ((PM.resL C.pm a).length+(r - s.nx)),fun r=>if hr:T r then θd.fp (Classical.choose hr) else if r<s.nx then θ.fp r else θd.fp ((PM.resL C.pm a).length+(r - s.nx)),
     fun r=>if r<s.nx then θ.sur r else θd.sur ((PM.resL C.pm a).length+(r - s.nx))⟩
    have kfp: ∀ {j:Nat} {A:Arg} {r:Nat},args[j]?=some A→A.mu=some r→θ'.fp r=θd.fp j:=fun {j A r} hj hm=>by
     have hr:T r:=⟨j,A,hj,hm⟩
     show (if hr:T r then _ else _)=_
     rw [dif_pos hr]
     obtain ⟨A',hj',hm'⟩:=Classical.choose_spec hr
     rw [qeQ hdis hj' hj (Arg.mu_rid hm') (Arg.mu_rid hm)]
    have kold: ∀ {r:Nat},r<s.nx→¬T r→θ'.fp r=θ.fp r:=fun {r} hr hn=>by
     show (if hr:T r then _ else _)=_
     rw [dif_neg hn,if_pos hr]
    have knew: ∀ {r:Nat},s.nx≤r→θ'.fp r=θd.fp ((PM.resL C.pm a).length+(r - s.nx))∧θ'.key r=θd.key ((PM.resL C.pm a).length+(r - s.nx))∧θ'.sur r=θd.sur ((PM.resL C.pm a).length+(r - s.nx)):=fun {r} hr=>by
     have h1: ¬T r:=fun ht=>absurd (hT r ht).1 (by omega)
     have h2: ¬r<s.nx:=by omega
     refine ⟨?_,?_,?_⟩
     ·show (if hr:T r then _ else _)=_
      rw [dif_neg h1,if_neg h2]
     ·exact if_neg h2
     ·exact if_neg h2
    have kkey: ∀ {r:Nat},r<s.nx→θ'.key r=θ.key r∧θ'.sur r=θ.sur r:=fun {r} hr=>⟨if_pos hr,if_pos hr⟩
    have haft:(PM.aft C.pm a (C.out a).2).length=args.length:=by rw [PM.aft_len,hlen]
    have hends:(C.ends a).length=args.length+(RM.resL C.rm (C.out a).1).length:=by
     unfold Ctr.ends
     rw [List.length_append,haft]
    let s':=s.behind args (PM.aft C.pm a (C.out a).2) (RM.resL C.rm (C.out a).1)
    have hnx':s'.nx=s.nx+(RM.resL C.rm (C.out a).1).length:=rfl
    have hExt:Ext (fun g=> ∃r,T r∧θ.fp r g) w K w' K':=hO.ext.weak fun g _ ⟨j,R,hj,hg⟩=>by
     obtain ⟨A,hA,rfl⟩:=hresA j R true hj
     have hmu:=f3 j A hA _ hj
     have t2:=(htell j A hA).2.1
     rw [Nat.zero_add] at t2
     rw [t2] at hg
     cases A with
     | no e=>exact hg.elim
     | bx q T' t p X u=>exact ⟨q,⟨j,_,hA,hmu⟩,hg⟩
     | ob q R u=>exact ⟨q,⟨j,_,hA,hmu⟩,hg⟩
    have hbeh: ∀(r:Nat) (e:RE),s'.res r=some e→(∃(j:Nat) (A:Arg) (B:Res) (R:Res) (e0:RE),args[j]?=some A∧(PM.aft C.pm a (C.out a).2)[j]?=some B∧A.mu=some r∧A.up B=some R∧s.res r=some e0∧e={ e0 with r:=R })∨
     (¬T r∧r<s.nx∧s.res r=some e)∨(¬T r∧s.nx≤r∧∃R,(RM.resL C.rm (C.out a).1)[r - s.nx]?=some R∧e=⟨R,.new,false⟩):=fun r e hr=>by
     have hr':qeO s args (PM.aft C.pm a (C.out a).2) (RM.resL C.rm (C.out a).1) r=some e:=hr
     unfold qeO at hr'
     split at hr'
     ·rename_i R hfb
      obtain ⟨j,A,B,b1,b2,b3,b4⟩:=qbC hfb
      split at hr'
      ·rename_i e0 he0
       cases hr'
       exact .inl ⟨j,A,B,R,e0,b1,b2,b3,b4,he0,rfl⟩
      ·cases hr'
     ·rename_i hfb
      have hnT: ¬T r:=fun ⟨j,A,hj,hm⟩=>qcj hups hfb j A hj hm
      cases hle:Nat.ble s.nx r with
      | true=>
        rw [hle] at hr'
        simp only [cond_true] at hr'
        split at hr'
        ·rename_i R hR
         cases hr'
         exact .inr (.inr ⟨hnT,Nat.le_of_ble_eq_true hle,R,hR,rfl⟩)
        ·cases hr'
      | false=>
        rw [hle] at hr'
        have hlt:r<s.nx:=Nat.lt_of_not_le fun hh=>by
         rw [Nat.ble_eq_true_of_le hh] at hle
         cases hle
        exact .inr (.inl ⟨hnT,hlt,hr'⟩)
    have hfpT: ∀ {j:Nat} {A:Arg},args[j]?=some A→∀g,θd.fp j g→(∃q,A.rid=some q∧θ.fp q g)∨w.heap.size≤g:=fun {j A} hj g hg=>by
     have hlt:=(List.getElem?_eq_some_iff.1 hj).1
     rcases hO.old j (by omega) g hg with h1 | h1
     ·have t2:=(htell j A hj).2.1
      rw [Nat.zero_add] at t2
      rw [t2] at h1
      cases A with
      | no e=>exact h1.elim
      | bx q T' t p X u=>exact .inl ⟨q,rfl,h1⟩
      | ob q R u=>exact .inl ⟨q,rfl,h1⟩
     ·exact .inr h1
    have hrel:Rel G s' θ' ρ w' K':=by
     refine h.step hG (T:=T) (fun r hr=>(hT r hr).2) hExt hO.mod (Nat.le_add_right _ _) (fun r hr=>kkey hr) rfl ?_ ?_ ?_ ?_
     ·intro r e hr hlt' hnT'
      rcases hbeh r e hr with ⟨j,A,B,R,e0,b1,_,b3,_⟩ | ⟨b1,b2,b3⟩ | ⟨b1,b2,_⟩
      ·exact absurd ⟨j,A,b1,b3⟩ hnT'
      ·exact ⟨b3,kold b2 b1⟩
      ·exact absurd hlt' (by omega)
     ·intro r e hr hl
      have hnT: ¬T r:=fun ht=>by
       obtain ⟨_,e',he',hf⟩:=hT r ht
       rw [hr] at he'
       cases he'
       rw [hf.1] at hl
       cases hl
      have hlt:=(h.res r e hr).1
      show qeO s args (PM.aft C.pm a (C.out a).2) (RM.resL C.rm (C.out a).1) r=some e
      unfold qeO
      split
      ·rename_i R hfb
       obtain ⟨j,A,B,b1,_,b3,_⟩:=qbC hfb
       exact absurd ⟨j,A,b1,b3⟩ hnT
      ·have:Nat.ble s.nx r=false:=by
        cases hh:Nat.ble s.nx r with
        | true=>exact absurd (Nat.le_of_ble_eq_true hh) (by omega)
        | false=>rfl
       rw [this]
       exact hr
     ·intro r e hr hC'
      rcases hbeh r e hr with ⟨j,A,B,R,e0,b1,b2,b3,b4,b5,rfl⟩ | ⟨b1,b2,b3⟩ | ⟨b1,b2,R,b3,rfl⟩
      ·have hjlt:=(List.getElem?_eq_some_iff.1 b1).1
       have hBs:B.sat θd j (C.ends a).length w' K':=hO.sat j B (by
        unfold Ctr.ends
        rw [List.getElem?_append_left (by omega)]
        exact b2)
       have hrlt:=(h.res r e0 b5).1
       have ekey:=(htell j A b1).1
       have esur:=(htell j A b1).2.2
       rw [Nat.zero_add] at ekey esur
       have hupj:=hO.upto j (by omega)
       have hfpr:=kfp b1 b3
       have hkr:=kkey hrlt
       have o:=hok A (List.mem_of_getElem? b1)
       refine ⟨by omega,?_,?_,?_⟩
       ·show R.sat θ' r s'.nx w' K'
        cases A with
        | no e=>cases b3
        | ob q R0 u=>
          obtain rfl:q=r:=by
           have:=Arg.mu_rid b3
           cases this
           rfl
          cases hob:B.objB with
          | false=>simp [Arg.up,hob] at b4
          | true=>
            simp only [Arg.up,hob,cond_true,Option.some.injEq] at b4
            subst b4
            exact hBs.mvO hob (hkr.1.trans (hupj.1.trans ekey).symm) hfpr
        | bx q T' t p X u=>
          obtain rfl:q=r:=by
           have:=Arg.mu_rid b3
           cases this
           rfl
          cases B with
          | bx t' y ps=>
            cases ps with
            | cons _ _=>simp [Arg.up] at b4
            | nil=>
              simp only [Arg.up] at b4
              split at b4
              ·rename_i ht
               subst ht
               simp only [Option.some.injEq] at b4
               subst b4
               obtain ⟨b',k1,k2,k3,_⟩:=hBs
               obtain ⟨b,s1,s2,s3,s4⟩:=esur
               have h1:θd.key j= .pointer (some ⟨b,(θ.sur q).1.length+p.off,none⟩):=by
                rw [hupj.1,ekey]
                show shift p.off (θ.key q)=_
                rw [s1]
                rfl
               rw [k1] at h1
               simp only [Value.pointer.injEq,Option.some.injEq,Addr.mk.injEq] at h1
               obtain rfl:=h1.1
               rw [hupj.2] at k3
               refine ⟨b',?_,?_,?_,by simp⟩
               ·rw [hkr.1,hkr.2];exact s1
               ·rw [hfpr];exact k2
               ·rw [hkr.2];exact s4 w' K' y hO.ext.le k3
              ·cases b4
          | _=>simp [Arg.up] at b4
       ·show e0.org.ok G (θ'.fp r)
        have ho:=(h.res _ _ b5).2.2
        rw [hfpr]
        have sub: ∀g,θd.fp j g→θ.fp r g∨w.heap.size≤g:=fun g hg=>(hfpT b1 g hg).imp (fun ⟨q,hq,hh⟩=>by
         rw [Arg.mu_rid b3] at hq
         cases hq
         exact hh) (fun h=>h)
        cases hoo:e0.org with
        | new=>
          rw [hoo] at ho
          exact fun g hg=>(sub g hg).elim (ho g) (Nat.le_trans h.ext.size)
        | par j=>
          rw [hoo] at ho
          exact fun g hg=>(sub g hg).elim (ho g) (fun hx=> .inr (Nat.le_trans h.ext.size hx))
        | ro=>trivial
       ·rw [hfpr]
        exact fun g hg=>(hfpT b1 g hg).imp (fun ⟨q,hq,hh⟩=>by
         rw [Arg.mu_rid b3] at hq
         cases hq
         exact ⟨_,⟨j,A,b1,b3⟩,hh⟩) (fun h=>h)
      ·exact absurd hC' (by rintro (hh | hh);exact b1 hh;omega)
      ·have hi:=(List.getElem?_eq_some_iff.1 b3).1
       obtain ⟨k1,k2,k3⟩:=knew b2
       have hRs:=hO.sat ((PM.resL C.pm a).length+(r - s.nx)) R (by
        unfold Ctr.ends
        rw [List.getElem?_append_right (by omega),haft,hlen]
        rw [Nat.add_sub_cancel_left]
        exact b3)
       have hnew:=hO.new ((PM.resL C.pm a).length+(r - s.nx)) (by omega) (by omega)
       refine ⟨by omega,hRs.move k2 k1 k3 (RM.plain R (List.mem_of_getElem? b3)),?_,?_⟩
       ·show ∀g,θ'.fp r g→_
        rw [k1]
        exact fun g hg=>Nat.le_trans h.ext.size (hnew g hg)
       ·rw [k1]
        exact fun g hg=> .inr (hnew g hg)
     ·intro r r' e e' hr hr' hC1 hC2 hne g hg hg'
      have pos: ∀r e,s'.res r=some e→(T r∨s.nx≤r)→∃i,i<(C.ends a).length∧θ'.fp r=θd.fp i∧((∃A,args[i]?=some A∧A.mu=some r)∨i=(PM.resL C.pm a).length+(r - s.nx)∧s.nx≤r):=fun r e hr hCr=>by
       rcases hbeh r e hr with ⟨j,A,B,R,e0,b1,b2,b3,b4,b5,rfl⟩ | ⟨b1,b2,b3⟩ | ⟨b1,b2,R,b3,rfl⟩
       ·have hjlt:=(List.getElem?_eq_some_iff.1 b1).1
        exact ⟨j,by omega,kfp b1 b3,.inl ⟨A,b1,b3⟩⟩
       ·exact absurd hCr (by rintro (hh | hh);exact b1 hh;omega)
       ·have hi:=(List.getElem?_eq_some_iff.1 b3).1
        exact ⟨_,by omega,(knew b2).1,.inr ⟨rfl,b2⟩⟩
      obtain ⟨i,i1,i2,i3⟩:=pos r e hr hC1
      obtain ⟨j,j1,j2,j3⟩:=pos r' e' hr' hC2
      rw [i2] at hg
      rw [j2] at hg'
      refine hO.apart i j i1 j1 ?_ g hg hg'
      rintro rfl
      rcases i3 with ⟨A,a1,a2⟩ | ⟨a1,a2⟩<;>rcases j3 with ⟨A',c1,c2⟩ | ⟨c1,c2⟩
      ·rw [a1] at c1
       cases c1
       rw [a2] at c2
       cases c2
       exact hne rfl
      ·have:=(List.getElem?_eq_some_iff.1 a1).1
       omega
      ·have:=(List.getElem?_eq_some_iff.1 c1).1
       omega
      ·omega
    obtain ⟨us,hv,hus⟩:=hO.val
    have hk':=RM.wfI_of (w:=w') hus (fun j R hj=>hO.sat _ R (by
     unfold Ctr.ends
     rw [List.getElem?_append_right (by omega),haft,hlen,Nat.add_sub_cancel_left]
     exact hj)) hk
    refine ⟨v,K',θ',s',tupS (RM.svL C.rm (C.out a).1 s.nx),args.filterMap Arg.mu,rfl,hk',hrel,?_,rfl,?_,?_,?_⟩
    ·rw [hv]
     refine qlk (RM.sv_move (fun i hi=>?_) (Nat.le_refl _) hus)
     have:=(knew (r:=s.nx+i) (by omega)).2.1
     rw [this]
     congr 2
     omega
    ·intro r hr
     obtain ⟨A,hA,hm⟩:=List.mem_filterMap.1 hr
     obtain ⟨j,hj⟩:=List.getElem?_of_mem hA
     obtain ⟨_,e,he,_⟩:=hT r ⟨j,A,hj,hm⟩
     exact ⟨e,he⟩
    ·refine hExt.weak fun g _ ⟨r,⟨j,A,hj,hm⟩,hg⟩=>⟨r,List.mem_filterMap.2 ⟨A,List.mem_of_getElem? hj,hm⟩,hg⟩
    ·refine ⟨Nat.le_add_right _ _,fun r e hr=>?_⟩
     rcases hbeh r e hr with ⟨j,A,B,R,e0,b1,b2,b3,b4,b5,rfl⟩ | ⟨b1,b2,b3⟩ | ⟨b1,b2,R,b3,rfl⟩
     ·have hmem:r∈args.filterMap Arg.mu:=List.mem_filterMap.2 ⟨A,List.mem_of_getElem? b1,b3⟩
      refine .inr ⟨.inl hmem,?_⟩
      rw [kfp b1 b3]
      exact fun g hg=>(hfpT b1 g hg).imp (fun ⟨q,hq,hh⟩=>by
       rw [Arg.mu_rid b3] at hq
       cases hq
       exact ⟨_,hmem,hh⟩) (fun h=>h)
     ·exact .inl ⟨kold b2 b1,e,b3⟩
     ·have hi:=(List.getElem?_eq_some_iff.1 b3).1
      refine .inr ⟨.inr b2,?_⟩
      rw [(knew b2).1]
      exact fun g hg=> .inr (hO.new _ (by omega) (by omega) g hg)
 ·cases hc
end
end Go.Inc

set_option linter.unusedVariables false
namespace Go.Inc
open Go Go.RowKit
abbrev EK:=List Nat→St→Option SVal→Prop
def EPost (G:Glob) (s:St) (θ:Th) (ρ:Env) (w:World) (K:Ghost) (k:EK):Value→World→Prop:=fun v w'=>
 ∃K' θ' s' sv tn,k tn s' sv∧Rel G s' θ' ρ w' K'∧(∀x,sv=some x→x.rel θ' s'.nx K' v)∧s'.env=s.env∧(∀r∈tn,∃e,s.res r=some e)∧Ext (fun g=> ∃r∈tn,θ.fp r g) w K w' K'∧Moved s s' θ θ' w tn
def Ty.hids:Ty→Nat→List (Nat×Res)
 | .hsl e t,o=> [(o,.ow e t [])]
 | .hmp kk kv,o=> [(o,.mp kk kv [] false)]
 | .pr a b,o=>a.hids o++b.hids (o+a.kd.sz)
 | .st a,o=>a.hids o
 | _,_=> []
def qe1:Res→Value
 | .mp _ _ _ _=> .map none
 | _=> .slice none 0 0
def rwP (c:Seat) (p:Nat×Res):Nat×Res:=match p.2 with
 | .ow e t []=>bif c.rwB e then (p.1,.rw e t []) else p
 | _=>p
def qdI (t:Nat):List (Nat×Bool×Ty×Nat)→Option (Ty×Nat)
 | []=>none
 | (t',_,k,b)::l=>bif Nat.beq t t' then (match k with
   | .hsl e k=>some (.hsl e k,b)
   | _=>qdI t l) else qdI t l
def Seat.tyA (c:Seat) (t:Nat):Option (Ty×Nat):=match qdI t c.tab with
 | some x=>some x
 | none=>c.ty false t
def qi2 (t:Nat):List (Nat×Bool×Ty×Nat)→Option (Ty×Nat)
 | []=>none
 | (t',_,k,b)::l=>bif Nat.beq t t' && k.hslB then some (k,b) else qi2 t l
def Seat.tyD (c:Seat) (d:Option Tmp) (t:Nat):Option (Ty×Nat):=bif c.atB 3000000 d then qi2 t c.tab else c.tyA t
def qa9:List (Nat×Res)→St→St×List (Nat×Nat)
 | [],s=>(s,[])
 | (o,R)::l,s=>((qa9 l (s.add ⟨R,.new,false⟩)).1,(o,s.nx)::(qa9 l (s.add ⟨R,.new,false⟩)).2)
theorem Ty.hids_zc: ∀ {T:Ty} {o o':Nat} {R:Res},(o',R)∈T.hids o→∃j,o'=o+j∧T.kd.zc[j]?=some (qe1 R)∧(∀θ r n w K,θ.key r=qe1 R→θ.fp r=NX→R.sat θ r n w K)
 | .hsl e t,o,o',R,h=>by
   obtain ⟨rfl,rfl⟩:=Prod.mk.inj (List.mem_singleton.1 h)
   refine ⟨0,rfl,rfl,fun θ r n w K hk hf=>?_⟩
   show Own _ _ _ _ _ _∧_
   rw [hk,hf]
   exact ⟨Own.nil,fun g=>⟨fun h=>h.elim,fun h=>nilS h⟩⟩
 | .hmp kk kv,o,o',R,h=>by
   obtain ⟨rfl,rfl⟩:=Prod.mk.inj (List.mem_singleton.1 h)
   refine ⟨0,rfl,rfl,fun θ r n w K hk hf=>?_⟩
   show Mp _ _ _ _ _ _∧_
   rw [hk,hf]
   exact ⟨.inl ⟨rfl,rfl⟩,fun g=>⟨fun h=>h.elim,fun h=>nilM h⟩,fun h=>by cases h⟩
 | .pr a b,o,o',R,h=>by
   rcases List.mem_append.1 (show (o',R)∈a.hids o++b.hids (o+a.kd.sz) from h) with h | h
   ·obtain ⟨j,e,hz,hs⟩:=Ty.hids_zc h
    refine ⟨j,e,?_,hs⟩
    show (a.kd.zc++b.kd.zc)[j]?=_
    rw [List.getElem?_append_left (List.getElem?_eq_some_iff.1 hz).1]
    exact hz
   ·obtain ⟨j,e,hz,hs⟩:=Ty.hids_zc h
    refine ⟨a.kd.sz+j,by rw [e,Nat.add_assoc],?_,hs⟩
    show (a.kd.zc++b.kd.zc)[a.kd.sz+j]?=_
    have hl:a.kd.zc.length=a.kd.sz:=a.kd.len (a.kd.hz (fun _=>none))
    rw [List.getElem?_append_right (by omega),hl,Nat.add_sub_cancel_left]
    exact hz
 | .st a,o,o',R,h=>Ty.hids_zc (T:=a) h
 | .int _,o,o',R,h=>by simp [Ty.hids] at h
 | .byte,o,o',R,h=>by simp [Ty.hids] at h
 | .bool,o,o',R,h=>by simp [Ty.hids] at h
 | .str,o,o',R,h=>by simp [Ty.hids] at h
 | .arr _ _,o,o',R,h=>by simp [Ty.hids] at h
 | .sl _,o,o',R,h=>by simp [Ty.hids] at h
 | .un,o,o',R,h=>by simp [Ty.hids] at h
 | .ptr _,o,o',R,h=>by simp [Ty.hids] at h
 | .hpt,o,o',R,h=>by simp [Ty.hids] at h
 | .hfn,o,o',R,h=>by simp [Ty.hids] at h
 | .anm,o,o',R,h=>by simp [Ty.hids] at h
theorem qlh {c:Seat} {T:Ty} {o o':Nat} {R:Res} (h:(o',R)∈(T.hids o).map (rwP c)): ∃j,o'=o+j∧T.kd.zc[j]?=some (qe1 R)∧(∀θ r n w K,θ.key r=qe1 R→θ.fp r=NX→R.sat θ r n w K):=by
 obtain ⟨⟨o1,R1⟩,hm,he⟩:=List.mem_map.1 h
 obtain ⟨j,h1,h2,h3⟩:=Ty.hids_zc hm
 unfold rwP at he
 split at he
 ·rename_i e t hR
  have hR:R1= .ow e t []:=hR
  subst hR
  cases hb:c.rwB e with
  | false=>rw [hb] at he;cases he;exact ⟨j,h1,h2,h3⟩
  | true=>
    rw [hb] at he
    cases he
    refine ⟨j,h1,h2,fun θ r n w K hk hf=>?_⟩
    show Rw _ _ _ _ _ _∧_
    rw [hk,hf]
    exact ⟨⟨fun g hg=>nilS hg,[],Own.nil⟩,fun g=>⟨fun h=>h.elim,fun h=>nilS h⟩⟩
 ·cases he;exact ⟨j,h1,h2,h3⟩
theorem qc3 {t:Nat} {x:Ty×Nat}: ∀ {l:List (Nat×Bool×Ty×Nat)},qdI t l=some x→∃e,(t,e,x.1,x.2)∈l
 | [],h=>by cases h
 | (t',e,k',b')::l,h=>by
   simp only [qdI] at h
   cases hb:Nat.beq t t' with
   | true=>
     rw [hb] at h
     obtain rfl:=Nat.eq_of_beq_eq_true hb
     simp only [cond_true] at h
     split at h
     ·cases h;exact ⟨e,List.mem_cons_self⟩
     ·obtain ⟨e,h⟩:=qc3 h
      exact ⟨e,List.mem_cons_of_mem _ h⟩
   | false=>
     rw [hb] at h
     obtain ⟨e,h⟩:=qc3 h
     exact ⟨e,List.mem_cons_of_mem _ h⟩
theorem Seat.ok.tyA_ok {c:Seat} (hc:c.ok) {t:Nat} {k:Ty} {b:Nat} (h:c.tyA t=some (k,b)):TyOk c.P t k.kd b:=by
 unfold Seat.tyA at h
 split at h
 ·rename_i x hx
  cases h
  obtain ⟨e,h⟩:=qc3 hx
  exact hc.tab _ h
 ·exact hc.ty_ok h
theorem qfP {t:Nat} {x:Ty×Nat}: ∀ {l:List (Nat×Bool×Ty×Nat)},qi2 t l=some x→∃e,(t,e,x.1,x.2)∈l
 | [],h=>by cases h
 | (t',e,k',b')::l,h=>by
   simp only [qi2] at h
   cases hb:(Nat.beq t t' && k'.hslB) with
   | true=>
     rw [hb] at h
     cases h
     simp only [Bool.and_eq_true] at hb
     obtain rfl:=Nat.eq_of_beq_eq_true hb.1
     exact ⟨e,List.mem_cons_self⟩
   | false=>
     rw [hb] at h
     obtain ⟨e,h⟩:=qfP h
     exact ⟨e,List.mem_cons_of_mem _ h⟩
theorem Seat.ok.tyD_ok {c:Seat} (hc:c.ok) {d:Option Tmp} {t:Nat} {k:Ty} {b:Nat} (h:c.tyD d t=some (k,b)):TyOk c.P t k.kd b:=by
 unfold Seat.tyD at h
 cases hd:c.atB 3000000 d with
 | false=>rw [hd] at h;exact hc.tyA_ok h
 | true=>
   rw [hd] at h
   obtain ⟨e,h⟩:=qfP h
   exact hc.tab _ h
theorem qd4 {t:Nat} {x:Ty×Nat}: ∀ {l:List (Nat×Bool×Ty×Nat)},qdI t l=some x→∃e k,x.1= .hsl e k
 | [],h=>by cases h
 | (t',e,k',b')::l,h=>by
   simp only [qdI] at h
   cases hb:Nat.beq t t' with
   | true=>
     rw [hb] at h
     simp only [cond_true] at h
     split at h
     ·cases h;exact ⟨_,_,rfl⟩
     ·exact qd4 h
   | false=>rw [hb] at h;exact qd4 h
section
variable {G:Glob} {s:St} {θ:Th} {ρ:Env} {w:World} {K:Ghost}
theorem qdP (hG:G.fine): ∀ {l:List (Nat×Res)} {s:St} {θ:Th},Rel G s θ ρ w K→(∀p∈l,∀θ r n w K,θ.key r=qe1 p.2→θ.fp r=NX→p.2.sat θ r n w K)→
 ∃θ',Rel G (qa9 l s).1 θ' ρ w K∧θ.upto θ' s.nx∧(∀r,r<s.nx→θ'.fp r=θ.fp r)∧s.nx≤(qa9 l s).1.nx∧(qa9 l s).1.env=s.env∧Moved s (qa9 l s).1 θ θ' w []∧∀p∈(qa9 l s).2,p.2<(qa9 l s).1.nx∧∃R,(p.1,R)∈l∧θ'.key p.2=qe1 R
 | [],s,θ,h,_=>⟨θ,h,Th.upto.refl _ _,fun _ _=>rfl,Nat.le_refl _,rfl,Moved.refl,by simp [qa9]⟩
 | (o,R)::l,s,θ,h,hl=>by
   have h1:=h.add hG (R:=R) (v:=qe1 R) (F:=NX) (u:=([],[])) (Ext.refl _ _ _) h.mod (hl (o,R) List.mem_cons_self _ _ _ _ _ Th.set_key Th.set_fp) (fun g hg=>hg.elim)
   obtain ⟨θ',h2,h3,h4,h5,h6,hmv,h7⟩:=qdP hG h1 (fun p hp=>hl p (List.mem_cons_of_mem _ hp))
   refine ⟨θ',h2,(Th.set_upto (Nat.le_refl _)).trans h3 (Nat.le_succ _),fun r hr=>(h4 r (Nat.lt_succ_of_lt hr)).trans (Th.set_fp_ne (Nat.ne_of_lt hr)),Nat.le_trans (Nat.le_succ _) h5,h6,?_,?_⟩
   ·refine ⟨Nat.le_trans (Nat.le_succ _) h5,fun r e hr=>?_⟩
    rcases hmv.from_ r e hr with ⟨m1,e',m2⟩ | ⟨m1,m2⟩
    ·by_cases he:r=s.nx
     ·subst he
      refine .inr ⟨.inr (Nat.le_refl _),fun g hg=>?_⟩
      rw [m1,Th.set_fp] at hg
      exact hg.elim
     ·rw [St.add_ne he] at m2
      exact .inl ⟨m1.trans (Th.set_fp_ne he),e',m2⟩
    ·refine .inr ⟨.inr ?_,fun g hg=>(m2 g hg).imp (fun ⟨q,hq,_⟩=>by cases hq) (fun h=>h)⟩
     rcases m1 with m1 | m1
     ·cases m1
     ·exact Nat.le_trans (Nat.le_succ _) m1
   intro p hp
   rcases List.mem_cons.1 hp with rfl | hp
   ·exact ⟨Nat.lt_of_lt_of_le (Nat.lt_succ_self _) h5,R,List.mem_cons_self,(h3 s.nx (Nat.lt_succ_self _)).1.trans Th.set_key⟩
   ·obtain ⟨h8,R',h9,h10⟩:=h7 p hp
    exact ⟨h8,R',List.mem_cons_of_mem _ h9,h10⟩
end
structure Bk where
 t:TypeId
 e:TypeId
 bytes:Nat
def qgS (c:Seat) (bk:Option Bk) (d:Option Tmp) (s:St) (t:TypeId) (k:EK):Prop:=
 match bk with
 | some b=>bif Nat.beq t b.t then k [] (s.add ⟨.bk b.e (some ([],0)),.new,false⟩) (some (.obj s.nx)) else False
 | none=>match c.tyD d t with
   | some (T,_)=>k [] ((qa9 ((T.hids 0).map (rwP c)) s).1.add ⟨.bx T T.kd.z (qa9 ((T.hids 0).map (rwP c)) s).2,.new,false⟩) (some (.box (qa9 ((T.hids 0).map (rwP c)) s).1.nx T T (Pth.id T)))
   | none=>False
def SVal.isSnil:SVal→Bool
 | .snil=>true
 | _=>false
def hptB:Ty→Bool
 | .hpt=>true
 | _=>false
def qnX (s:St) (v:SVal) (k:EK):Prop:=match v with
 | .nil=>k [] ((s.add ⟨.bk 0 none,.new,false⟩).add ⟨.bx .hpt () [(0,s.nx)],.new,false⟩) (some (.box (s.nx+1) .hpt .hpt (Pth.id .hpt)))
 | .obj q=>(match s.res q with
   | some ⟨.bk _ _,_,_⟩=>k [] (s.add ⟨.bx .hpt () [(0,q)],.new,false⟩) (some (.box s.nx .hpt .hpt (Pth.id .hpt)))
   | _=>False)
 | _=>False
def eBox (c:Seat) (bk:Option Bk) (s:St) (t:TypeId) (x:Operand) (k:EK):Prop:=
 match s.opd x,c.ty false t with
 | some (.zer T'),some (T,_)=>if T'=T then qgS c bk none s t k else False
 | some v,some (T,_)=>bif v.isSnil && (qdI t c.tab).isSome then qgS c none none s t k else bif hptB T then qnX s v k else (match v.to T with
   | some X=>k [] (s.add ⟨.bx T X [],.new,false⟩) (some (.box s.nx T T (Pth.id T)))
   | none=>False)
 | _,_=>False
def qm6 (ps:List (Nat×Nat)) (a n:Nat):Bool:=ps.all fun p=>Nat.blt p.1 a || Nat.ble (a+n) p.1
def SVal.partRid:SVal→Option Nat
 | .own q _ _=>some q
 | .rw q=>some q
 | .mp q=>some q
 | _=>none
def qeM:(T:Ty)→List SVal→Option (T.den×List SVal)
 | .pr a b,l=>(match qeM a l with
   | some (x,r)=>(match qeM b r with
     | some (y,r')=>some ((x,y),r')
     | none=>none)
   | none=>none)
 | .st a,l=>(match qeM a l with
   | some (x,r)=>some (x,r)
   | none=>none)
 | .hsl _ _,.snil::r=>some ((),r)
 | .int ik,sv::r=>(match sv.to (.int ik) with
   | some x=>some (x,r)
   | none=>none)
 | .bool,sv::r=>(match sv.to .bool with
   | some x=>some (x,r)
   | none=>none)
 | .str,sv::r=>(match sv.to .str with
   | some x=>some (x,r)
   | none=>none)
 | .sl t,sv::r=>(match sv.to (.sl t) with
   | some x=>some (x,r)
   | none=>none)
 | _,_=>none
def Ty.aggB:Ty→Bool
 | .pr _ _=>true
 | .st _=>true
 | _=>false
def qke (k:Ty) (v:SVal):Option k.den:=match v with
 | .agg l=>bif k.aggB then (match qeM k l with
   | some (y,[])=>some y
   | _=>none) else none
 | _=>none
def qkC (c:Seat) (s:St) (t:TypeId) (x y:Operand) (k:EK):Prop:=
 match s.opd x,s.opd y with
 | some (.box r T k0 p),some v=>match s.res r,c.is t k0 with
   | some ⟨.bx T' X ps,org,lk⟩,some _=>if h:T'=T then (bif qaS org lk then
      (bif k0.hid then (match v.partRid with
        | some q=>match s.res q with
          | some ⟨.ow _ _ _,_,_⟩=>k [r] (s.put r ⟨.bx T (p.put (Ty.cast h X) (p.get (Ty.cast h X))) ((p.off,q)::ps.filter fun z=> !(Nat.beq z.1 p.off)),org,lk⟩) none
          | some ⟨.mp _ _ _ _,_,_⟩=>k [r] (s.put r ⟨.bx T (p.put (Ty.cast h X) (p.get (Ty.cast h X))) ((p.off,q)::ps.filter fun z=> !(Nat.beq z.1 p.off)),org,lk⟩) none
          | some ⟨.rw _ _ _,_,_⟩=>k [r] (s.put r ⟨.bx T (p.put (Ty.cast h X) (p.get (Ty.cast h X))) ((p.off,q)::ps.filter fun z=> !(Nat.beq z.1 p.off)),org,lk⟩) none
          | _=>False
        | none=>False)
      else (match v.to k0 with
       | some y=>bif qm6 ps p.off k0.kd.sz then k [r] (s.put r ⟨.bx T (p.put (Ty.cast h X) y) ps,org,lk⟩) none else False
       | none=>(match qke k0 v with
         | some y=>k [r] ((qa9 ((k0.hids p.off).map (rwP c)) s).1.put r ⟨.bx T (p.put (Ty.cast h X) y) ((qa9 ((k0.hids p.off).map (rwP c)) s).2++ps.filter fun z=>Nat.blt z.1 p.off || Nat.ble (p.off+k0.kd.sz) z.1),org,lk⟩) none
         | none=>False))) else False) else False
   | _,_=>False
 | some (.rpt r k0 i),some v=>match s.res r,c.is t k0 with
   | some ⟨.rw e k' l,org,lk⟩,some _=>if h:k'=k0 then (bif qaS org lk && k0.flatB then (match v.to k0 with
      | some y=>k [r] (s.put r ⟨.rw e k0 ((qb4 h l).set i.toNat y),org,lk⟩) none
      | none=>False) else False) else False
   | _,_=>False
 | _,_=>False
section
variable {G:Glob} {s:St} {θ:Th} {ρ:Env} {w:World} {K:Ghost} {c:Seat} {k:EK} {x y:Operand} {t:TypeId}
variable {dst:Option Tmp} {ty:TypeId} {pos:String} {af:Array Edge} {g:Option (Nat×Bool)}
theorem qgf {T:Ty} {X:T.den} {b q n:Nat} {w':World} {K':Ghost} {ps:List (Nat×Nat)} {θ:Th} (hk:θ.key q= .pointer (some ⟨b,0,none⟩)) (hf:θ.fp q=fun g=>g=b) (hs:θ.sur q=([],[])) (hB:Bx T.kd w' K' b [] [] X) (hps: ∀p∈ps,p.2<n∧w'.cell? ⟨b,p.1,none⟩=some (θ.key p.2)):(Res.bx T X ps).sat θ q n w' K':=
 ⟨b,by rw [hs];exact hk,by rw [hf];exact fun g=>Iff.rfl,by rw [hs];exact hB,fun p hp=>by rw [hs];simpa using hps p hp⟩
theorem qm4 {θ:Th} {r n:Nat} {e:TypeId} {a:qav} (h:qaJ e w K (θ.key r) (θ.fp r) a):(Res.bk e a).sat θ r n w K:=h
theorem qpW {α:Type} {a m m' c:List α} (h:m'.length=m.length) {i:Nat} (hi:i<a.length∨a.length+m.length≤i):(a++m'++c)[i]?=(a++m++c)[i]?:=by
 rw [List.append_assoc,List.append_assoc]
 rcases hi with hi | hi
 ·rw [List.getElem?_append_left hi,List.getElem?_append_left hi]
 ·rw [List.getElem?_append_right (by omega),List.getElem?_append_right (by omega),List.getElem?_append_right (by omega),List.getElem?_append_right (by omega),h]
theorem qgg {b:Nat} {cs:List Value} {w:World} (hb:w.heap.size=b) (t:TypeId) {j:Nat} {v:Value} (hj:cs[j]?=some v):(w.alloc (.cells cs.toArray t)).cell? ⟨b,j,none⟩=some v:=by
 subst hb
 unfold World.cell?
 rw [qck]
 simpa using hj
theorem qdS (hG:G.fine) (hc:c.ok) (h:Rel G s θ ρ w K) {bk:Option Bk} {d:Option Tmp} (hbk: ∀b,bk=some b→TyOk c.P b.t qdB b.bytes) (hk:qgS c bk d s t k):Step c.P ⟨dst,.alloc t,ty,pos,af,g⟩ ρ w (EPost G s θ ρ w K k):=by
 unfold qgS at hk
 split at hk
 ·rename_i b
  cases hb:Nat.beq t b.t with
  | false=>rw [hb] at hk;exact hk.elim
  | true=>
    rw [hb] at hk
    obtain rfl:=Nat.eq_of_beq_eq_true hb
    obtain ⟨bl,w',hr,hB,hE,hM,hge⟩:=qcw (dst:=dst) (ty:=ty) (pos:=pos) (af:=af) (g:=g) (ρ:=ρ) h.mod (hbk b rfl)
    refine Step.value hr ⟨K,_,_,_,[],hk,h.add hG (v:= .pointer (some ⟨bl,0,none⟩)) (F:=fun g=>g=bl) (u:=([],[])) hE hM ?_ (fun g hg=>hg▸hge),?_,rfl,by simp,hE.weak fun _ _ h=>h.elim,Moved.add (fun g hg=>hg▸hge)⟩
    ·refine qm4 ?_
     rw [Th.set_key,Th.set_fp]
     exact qaJ.new hB
    ·rintro x hx
     cases hx
     exact ⟨Nat.lt_succ_self _,Th.set_key⟩
 ·split at hk
  ·rename_i T b hT
   obtain ⟨θ1,h1,h2,h2',h3,h4,hmv,h5⟩:=qdP (l:=(T.hids 0).map (rwP c)) hG h (fun p hp=>by
    obtain ⟨j,_,_,hs⟩:=qlh (o':=p.1) (R:=p.2) hp
    exact hs)
   have hTO:=hc.tyD_ok hT
   obtain ⟨i,z,hi,hsi,hz,hzc,hbi,hzv⟩:=hTO.info
   have hR:T.kd.R K T.kd.z T.kd.zc:=T.kd.hz K
   have hr:(execOp (ev ρ) ⟨dst,.alloc t,ty,pos,af,g⟩).run c.P w= .ok (.value (.pointer (some ⟨w.heap.size,0,none⟩))) (w.alloc (.cells T.kd.zc.toArray t)):=by
    have hz':(zeroValue t).run c.P w= .ok z w:=by simp [zeroValue,typeInfo,hi,hz]
    unfold execOp
    simp [Instr.alloc,hz',newVar,newRow,←hzc]
   have hE:Ext NX w K (w.alloc (.cells T.kd.zc.toArray t)) K:=Ext.alloc _ _ _
   refine Step.value hr ⟨K,_,_,_,[],hk,h1.add hG (v:= .pointer (some ⟨w.heap.size,0,none⟩)) (F:=fun g=>g=w.heap.size) (u:=([],[])) hE (h.mod.alloc _) ?_ (fun g hg=>Nat.le_of_eq hg.symm),?_,h4,by simp,hE.weak fun _ _ h=>h.elim,hmv.thenAdd h3 (fun g hg=>Nat.le_of_eq hg.symm)⟩
   ·refine qgf Th.set_key Th.set_fp Th.set_sur (Bx.new h.mod t hR) ?_
    intro p hp
    obtain ⟨p1,R,p2,p3⟩:=h5 p hp
    obtain ⟨j,e,hzj,_⟩:=qlh p2
    refine ⟨Nat.lt_succ_of_lt p1,?_⟩
    rw [Th.set_key_ne (Nat.ne_of_lt p1),p3,e,Nat.zero_add]
    exact qgg rfl t hzj
   ·rintro x hx
    cases hx
    exact ⟨Nat.lt_succ_self _,trivial,w.heap.size,0,Th.set_key,rfl⟩
  ·exact hk.elim
theorem Step.same {P:Program} {o o':Oper} {N:Value→World→Prop} (he: ∀w,(execOp (ev ρ) o).run P w=(execOp (ev ρ) o').run P w) (h:Step P o' ρ w N):Step P o ρ w N:=by
 unfold Step at *
 rw [he]
 exact h
theorem qnU {P:Program} {T:Ty} {b:Nat} (hT:TyOk P t T.kd b) (hv:ev ρ x= .agg T.kd.zc.toArray) (w:World):(execOp (ev ρ) ⟨dst,.box t x,ty,pos,af,g⟩).run P w=(execOp (ev ρ) ⟨dst,.alloc t,ty,pos,af,g⟩).run P w:=by
 obtain ⟨i,z,hi,hsi,hz,hzc,hbi,hzv⟩:=hT.info
 have hzr:(zeroValue t).run P w= .ok z w:=by simp [zeroValue,typeInfo,hi,hz]
 unfold execOp
 simp only [hv]
 simp [Instr.alloc,Instr.box,hzr,newVar,newRow,←hzc,Value.cells]
theorem qmb {P:Program} {e:Nat} {k:Ty} {b:Nat} (hT:TyOk P t (Ty.hsl e k).kd b) (hv:ev ρ x= .slice none 0 0) (w:World):(execOp (ev ρ) ⟨dst,.box t x,ty,pos,af,g⟩).run P w=(execOp (ev ρ) ⟨dst,.alloc t,ty,pos,af,g⟩).run P w:=by
 obtain ⟨i,z,hi,hsi,hz,hzc,hbi,hzv⟩:=hT.info
 have hzr:(zeroValue t).run P w= .ok z w:=by simp [zeroValue,typeInfo,hi,hz]
 have hz2:z= .slice none 0 0:=by
  rw [hzv]
  rfl
 unfold execOp
 simp only [hv]
 simp [Instr.alloc,Instr.box,hzr,newVar,newRow,hz2,Value.cells]
theorem qkw (hG:G.fine) (h:Rel G s θ ρ w K) {v:SVal} (hv:s.opd x=some v) (hk:qnX s v k):Step c.P ⟨dst,.box t x,ty,pos,af,g⟩ ρ w (EPost G s θ ρ w K k):=by
 unfold qnX at hk
 split at hk
 ·have hx:ev ρ x= .pointer none:=h.opd hv
  have h1:=h.add hG (R:= .bk 0 none) (v:= .pointer none) (F:=NX) (u:=([],[])) (Ext.refl _ _ _) h.mod (qm4 (by rw [Th.set_key,Th.set_fp];exact ⟨rfl,rfl⟩)) (fun g hg=>hg.elim)
  obtain ⟨bl,w',hr,hB,hE,hM,hge⟩:=qei (P:=c.P) (t:=t) (dst:=dst) (ty:=ty) (pos:=pos) (af:=af) (g:=g) (k:=Ty.hpt.kd) (X:=()) h.mod hx ⟨[.pointer none],⟨_,rfl,rfl⟩,rfl⟩
  obtain ⟨e1,e2,e3⟩:w'=w.alloc (.cells #[.pointer none] t)∧bl=w.heap.size∧True:=by
   have hr':(execOp (ev ρ) ⟨dst,.box t x,ty,pos,af,g⟩).run c.P w= .ok (.value (.pointer (some ⟨w.heap.size,0,none⟩))) (w.alloc (.cells #[.pointer none] t)):=by
    unfold execOp
    simp only [hx]
    simp [Instr.box,newVar,newRow,Value.cells]
   rw [hr] at hr'
   cases hr'
   exact ⟨rfl,rfl,trivial⟩
  subst e1;subst e2
  refine Step.value hr ⟨K,_,_,_,[],hk,h1.add hG (v:= .pointer (some ⟨w.heap.size,0,none⟩)) (F:=fun g=>g=w.heap.size) (u:=([],[])) hE hM (qgf Th.set_key Th.set_fp Th.set_sur hB ?_) (fun g hg=>hg▸hge),?_,rfl,by simp,hE.weak fun _ _ h=>h.elim,(Moved.add (fun g hg=>hg.elim)).thenAdd (Nat.le_succ _) (fun g hg=>hg▸hge)⟩
  ·intro p hp
   rcases List.mem_singleton.1 hp with rfl
   refine ⟨Nat.lt_succ_of_lt (Nat.lt_succ_self _),?_⟩
   have e4:((θ.set s.nx (.pointer none) NX ([],[])).set (s.add ⟨.bk 0 none,.new,false⟩).nx (.pointer (some ⟨w.heap.size,0,none⟩)) (fun g=>g=w.heap.size) ([],[])).key s.nx= .pointer none:=by
    rw [Th.set_key_ne (show s.nx≠(s.add ⟨.bk 0 none,.new,false⟩).nx from Nat.ne_of_lt (Nat.lt_succ_self _)),Th.set_key]
   exact (qgg (cs:=[.pointer none]) rfl t rfl).trans (congrArg some e4.symm)
  ·rintro y hy
   cases hy
   exact ⟨Nat.lt_succ_self _,trivial,w.heap.size,0,Th.set_key,rfl⟩
 ·rename_i q
  split at hk
  ·rename_i e xb o lk hq
   obtain ⟨hql,hqv⟩:=h.opd hv
   have hO:qaJ e w K (θ.key q) (θ.fp q) xb:=(h.res _ _ hq).2.1
   have h1:(θ.key q).oneCell'=true:=by
    cases xb with
    | none=>rw [hO.1];rfl
    | some y=>obtain ⟨b,_,_,_,_,_,hv,_⟩:=hO;rw [hv];rfl
   obtain ⟨bl,w',hr,hB,hE,hM,hge⟩:=qei (P:=c.P) (t:=t) (dst:=dst) (ty:=ty) (pos:=pos) (af:=af) (g:=g) (k:=Ty.hpt.kd) (X:=()) h.mod hqv.symm ⟨[θ.key q],⟨_,rfl,h1⟩,rfl⟩
   obtain ⟨e1,e2,e3⟩:w'=w.alloc (.cells #[θ.key q] t)∧bl=w.heap.size∧True:=by
    have hr':(execOp (ev ρ) ⟨dst,.box t x,ty,pos,af,g⟩).run c.P w= .ok (.value (.pointer (some ⟨w.heap.size,0,none⟩))) (w.alloc (.cells #[θ.key q] t)):=by
     unfold execOp
     simp only [←hqv]
     simp [Instr.box,newVar,newRow,qb9 h1]
    rw [hr] at hr'
    cases hr'
    exact ⟨rfl,rfl,trivial⟩
   subst e1;subst e2
   refine Step.value hr ⟨K,_,_,_,[],hk,h.add hG (v:= .pointer (some ⟨w.heap.size,0,none⟩)) (F:=fun g=>g=w.heap.size) (u:=([],[])) hE hM (qgf Th.set_key Th.set_fp Th.set_sur hB ?_) (fun g hg=>hg▸hge),?_,rfl,by simp,hE.weak fun _ _ h=>h.elim,Moved.add (fun g hg=>hg▸hge)⟩
   ·intro p hp
    rcases List.mem_singleton.1 hp with rfl
    refine ⟨Nat.lt_succ_of_lt hql,?_⟩
    rw [Th.set_key_ne (Nat.ne_of_lt hql)]
    exact qgg (cs:=[θ.key q]) rfl t rfl
   ·rintro y hy
    cases hy
    exact ⟨Nat.lt_succ_self _,trivial,w.heap.size,0,Th.set_key,rfl⟩
  ·exact hk.elim
 ·exact hk.elim
theorem qme (hG:G.fine) (hc:c.ok) (h:Rel G s θ ρ w K) {bk:Option Bk} (hbk: ∀b,bk=some b→TyOk c.P b.t qdB b.bytes) (hk:eBox c bk s t x k):Step c.P ⟨dst,.box t x,ty,pos,af,g⟩ ρ w (EPost G s θ ρ w K k):=by
 unfold eBox at hk
 split at hk
 ·rename_i T' T b hv hT
  split at hk
  ·rename_i he
   subst he
   have hz:ev ρ x= .agg T'.kd.zc.toArray∧T'.kd.agg=true:=h.opd hv
   have hs:=qdS (dst:=dst) (ty:=ty) (pos:=pos) (af:=af) (g:=g) hG hc h hbk hk
   exact Step.same (fun w'=>qnU (hc.ty_ok hT) hz.1 w') hs
  ·exact hk.elim
 ·rename_i v T b _ hv hT
  cases hsn:(v.isSnil && (qdI t c.tab).isSome) with
  | true=>
    rw [hsn] at hk
    simp only [cond_true] at hk
    simp only [Bool.and_eq_true] at hsn
    have hz:ev ρ x= .slice none 0 0:=by
     cases v with
     | snil=>exact h.opd hv
     | _=>cases hsn.1
    obtain ⟨y,hy⟩:=Option.isSome_iff_exists.1 hsn.2
    obtain ⟨ye,yk,hye⟩:=qd4 hy
    obtain ⟨e0,hm⟩:=qc3 hy
    have hTy:=hc.tab _ hm
    rw [hye] at hTy
    exact Step.same (fun w'=>qmb hTy hz w') (qdS (bk:=none) (t:=t) (dst:=dst) (ty:=ty) (pos:=pos) (af:=af) (g:=g) hG hc h (fun b hb=>by cases hb) hk)
  | false=>
  rw [hsn] at hk
  simp only [cond_false] at hk
  cases hpt:hptB T with
  | true=>
    rw [hpt] at hk
    exact qkw hG h hv hk
  | false=>
  rw [hpt] at hk
  simp only [cond_false] at hk
  split at hk
  ·rename_i X hX
   obtain ⟨bl,w',hr,hB,hE,hM,hge⟩:=qei (P:=c.P) (t:=t) (dst:=dst) (ty:=ty) (pos:=pos) (af:=af) (g:=g) h.mod rfl (SVal.to_rel hX (h.opd hv))
   refine Step.value hr ⟨K,_,_,_,[],hk,h.add hG (v:= .pointer (some ⟨bl,0,none⟩)) (F:=fun g=>g=bl) (u:=([],[])) hE hM (qgf Th.set_key Th.set_fp Th.set_sur hB (by simp)) (fun g hg=>hg▸hge),?_,rfl,by simp,hE.weak fun _ _ h=>h.elim,Moved.add (fun g hg=>hg▸hge)⟩
   rintro x hx
   cases hx
   exact ⟨Nat.lt_succ_self _,trivial,bl,0,Th.set_key,rfl⟩
  ·exact hk.elim
 ·exact hk.elim
theorem Bx.storeC {P:Program} {α β:Type} {k:Kd α} {k':Kd β} {by_:Nat} (hT:TyOk P t k' by_) (hM:Models w K) {off:Nat} {g:α→β} {s:α→β→α} (F:Foc k k' off g s) {b:Nat} {pre post:List Value} {x:α} (h:Bx k w K b pre post x) {y:β} {v:Value} (hv:k'.V K y v):
 ∃w',(storeVar t ⟨b,pre.length+off,none⟩ v).run P w= .ok () w'∧Bx k w' K b pre post (s x y)∧Ext (· =b) w K w' K∧Models w' K∧(∀o,(o<off∨off+k'.sz≤o)→w'.cell? ⟨b,pre.length+o,none⟩=w.cell? ⟨b,pre.length+o,none⟩)∧(∀j u,v.cells.toList[j]?=some u→w'.cell? ⟨b,pre.length+off+j,none⟩=some u):=by
 obtain ⟨hK,cs,T,hh,hR⟩:=h
 obtain ⟨p,m,q,rfl,hl,hR',hS⟩:=F.foc hR
 have hc:=hv.cells
 have hlm:=k'.len hR'
 have hlv:=k'.len hc
 have hrun:=run_storeCells_at P b (pre.length+off) T v.cells.toList 0 _ w hh (by simp at hlv⊢;omega) (k'.one hc)
 have e1:(pre++(p++m++q)++post).take (pre.length+off)=pre++p:=by
  rw [show pre.length+off=(pre++p).length from by rw [List.length_append,hl]]
  rw [show pre++(p++m++q)++post=(pre++p)++(m++q++post) from by simp]
  exact List.take_left
 have e2:(pre++(p++m++q)++post).drop (pre.length+off+v.cells.toList.length)=q++post:=by
  rw [show pre.length+off+v.cells.toList.length=(pre++p++m).length from by rw [List.length_append,List.length_append,hl,hlm,hlv]]
  rw [show pre++(p++m++q)++post=(pre++p++m)++(q++post) from by simp]
  exact List.drop_left
 simp only [Nat.add_zero,e1,e2] at hrun
 have hheap:(w.setRow b (pre++p++v.cells.toList++(q++post)).toArray).heap[b]?=some (.cells (pre++p++v.cells.toList++(q++post)).toArray T (0,0)):=setRow_heap w b _ _ T _ hh
 refine ⟨w.setRow b (pre++p++v.cells.toList++(q++post)).toArray,?_,⟨hK,p++v.cells.toList++q,T,?_,hS y _ hc⟩,Ext.setRow w K b _ rfl,hM.setRow hK _,?_,?_⟩
 ·have hsz:v.cells.size=k'.sz:=hv.size
  simp [storeVar,Sem.run_bind,hT.size,hsz]
  simpa using hrun
 ·rw [hheap]
  simp
 ·intro o ho
  unfold World.cell?
  rw [hheap,hh]
  simp only [Option.isSome_none,Bool.false_eq_true,if_false,List.getElem?_toArray]
  rw [show pre++(p++m++q)++post=(pre++p)++m++(q++post) from by simp]
  refine qpW (by omega) ?_
  rw [List.length_append]
  omega
 ·intro j u hj
  unfold World.cell?
  rw [hheap]
  simp only [Option.isSome_none,Bool.false_eq_true,if_false,List.getElem?_toArray]
  have hjl:=(List.getElem?_eq_some_iff.1 hj).1
  have hpl:(pre++p).length=pre.length+off:=by rw [List.length_append,hl]
  rw [List.append_assoc (pre++p),List.getElem?_append_right (by omega),List.getElem?_append_left (by omega),hpl]
  rw [show pre.length+off+j - (pre.length+off)=j from by omega]
  exact hj
theorem qdH {ad:Addr} {v:Value} {w w':World} {P:Program} (hx:ev ρ x= .pointer (some ad)) (hy:ev ρ y=v) (hr:(storeVar t ad v).run P w= .ok () w'):(execOp (ev ρ) ⟨dst,.store t x y,ty,pos,af,g⟩).run P w= .ok .skip w':=by
 unfold execOp
 simp only [hx,hy]
 simp [Instr.storeAt,Instr.sureAddr,hr]
theorem qqU {k:Ty} (hk:k.hid=true) {v:Value} (h1:v.oneCell'=true): ∃y:k.den,k.kd.V K y v∧k.kd.sz=1∧(∀y':k.den,y'=y):=by
 cases k with
 | hsl _ _=>exact ⟨(),⟨[v],⟨v,rfl,h1⟩,rfl⟩,rfl,fun _=>rfl⟩
 | hmp _ _=>exact ⟨(),⟨[v],⟨v,rfl,h1⟩,rfl⟩,rfl,fun _=>rfl⟩
 | hpt=>exact ⟨(),⟨[v],⟨v,rfl,h1⟩,rfl⟩,rfl,fun _=>rfl⟩
 | hfn=>exact ⟨(),⟨[v],⟨v,rfl,h1⟩,rfl⟩,rfl,fun _=>rfl⟩
 | _=>cases hk
theorem St.add_old {e:RE} {r:Nat} (h:r<s.nx):(s.add e).res r=s.res r:=St.add_ne (Nat.ne_of_lt h)
theorem qeK: ∀ {l:List (Nat×Res)} {s:St} {r:Nat},r<s.nx→(qa9 l s).1.res r=s.res r
 | [],s,r,h=>rfl
 | (o,R)::l,s,r,h=>by
   simp only [qa9]
   rw [qeK (Nat.lt_succ_of_lt h),St.add_old h]
theorem Moved.thenPut {s1:St} {θ1:Th} {q:Nat} (h:Moved s s1 θ θ1 w []) (hf:θ1.fp q=θ.fp q) {e:RE} {v:Value} {u:List Value×List Value}:Moved s (s1.put q e) θ (θ1.set q v (θ1.fp q) u) w [q]:=by
 refine ⟨h.nx,fun r e' hr=>?_⟩
 by_cases he:r=q
 ·subst he
  refine .inr ⟨.inl (List.mem_singleton.2 rfl),?_⟩
  rw [Th.set_fp]
  exact fun g hg=> .inl ⟨r,List.mem_singleton.2 rfl,hf▸hg⟩
 ·rw [St.put_ne he] at hr
  rw [Th.set_fp_ne he]
  rcases h.from_ r e' hr with m | ⟨m1,m2⟩
  ·exact .inl m
  ·refine .inr ⟨m1.imp (fun h=>by cases h) (fun h=>h),fun g hg=>(m2 g hg).imp (fun ⟨q,hq,_⟩=>by cases hq) (fun h=>h)⟩
theorem qmA {α:Type} {k:Kd α} {K:Ghost} {x:α} {v:Value} (hV:k.V K x v) (ha:k.agg=false) (hs:k.sz=1):k.R K x [v]:=by
 obtain ⟨cs,hR,e⟩:=hV
 have hl:=k.len hR
 rw [hs] at hl
 obtain ⟨u,rfl⟩:=List.length_eq_one_iff.1 hl
 rw [ha] at e
 have e:v=u:=e
 rw [e]
 exact hR
theorem qeq {n:Nat}: ∀ {T:Ty} {l:List SVal} {x:T.den} {r:List SVal} {vs:List Value},qeM T l=some (x,r)→SVal.relL θ n K l vs→∃cs vs',vs=cs++vs'∧T.kd.R K x cs∧SVal.relL θ n K r vs'∧∀o o' R,(o',R)∈T.hids o→∃j,o'=o+j∧cs[j]?=some (qe1 R)
 | .pr a b,l,x,r,vs,h,hr=>by
   simp only [qeM] at h
   split at h
   ·rename_i x1 r1 h1
    split at h
    ·rename_i x2 r2 h2
     cases h
     obtain ⟨c1,v1,rfl,hR1,hr1,hh1⟩:=qeq h1 hr
     obtain ⟨c2,v2,rfl,hR2,hr2,hh2⟩:=qeq h2 hr1
     have l1:c1.length=a.kd.sz:=a.kd.len hR1
     refine ⟨c1++c2,v2,by simp,⟨c1,c2,rfl,hR1,hR2⟩,hr2,fun o o' R hm=>?_⟩
     rcases List.mem_append.1 (show (o',R)∈a.hids o++b.hids (o+a.kd.sz) from hm) with hm | hm
     ·obtain ⟨j,e,hj⟩:=hh1 o o' R hm
      refine ⟨j,e,?_⟩
      rw [List.getElem?_append_left (List.getElem?_eq_some_iff.1 hj).1]
      exact hj
     ·obtain ⟨j,e,hj⟩:=hh2 _ o' R hm
      refine ⟨a.kd.sz+j,by rw [e,Nat.add_assoc],?_⟩
      rw [List.getElem?_append_right (by omega),l1,Nat.add_sub_cancel_left]
      exact hj
    ·cases h
   ·cases h
 | .st a,l,x,r,vs,h,hr=>by
   simp only [qeM] at h
   split at h
   ·rename_i x1 r1 h1
    cases h
    exact qeq (T:=a) h1 hr
   ·cases h
 | .hsl e t,l,x,r,vs,h,hr=>by
   cases l with
   | nil=>cases h
   | cons sv l=>
     cases sv with
     | snil=>
       cases h
       obtain ⟨v,vs',rfl,h1,h2⟩:=hr
       have h1:v= .slice none 0 0:=h1
       subst h1
       refine ⟨[_],vs',rfl,⟨_,rfl,rfl⟩,h2,fun o o' R hm=>?_⟩
       obtain ⟨rfl,rfl⟩:=Prod.mk.inj (List.mem_singleton.1 hm)
       exact ⟨0,rfl,rfl⟩
     | _=>cases h
 | .int ik,l,x,r,vs,h,hr=>by
   cases l with
   | nil=>cases h
   | cons sv l=>
     simp only [qeM] at h
     split at h
     ·rename_i y hy
      cases h
      obtain ⟨v,vs',rfl,h1,h2⟩:=hr
      exact ⟨[v],vs',rfl,qmA (SVal.to_rel hy h1) rfl rfl,h2,fun o o' R hm=>by simp [Ty.hids] at hm⟩
     ·cases h
 | .bool,l,x,r,vs,h,hr=>by
   cases l with
   | nil=>cases h
   | cons sv l=>
     simp only [qeM] at h
     split at h
     ·rename_i y hy
      cases h
      obtain ⟨v,vs',rfl,h1,h2⟩:=hr
      exact ⟨[v],vs',rfl,qmA (SVal.to_rel hy h1) rfl rfl,h2,fun o o' R hm=>by simp [Ty.hids] at hm⟩
     ·cases h
 | .str,l,x,r,vs,h,hr=>by
   cases l with
   | nil=>cases h
   | cons sv l=>
     simp only [qeM] at h
     split at h
     ·rename_i y hy
      cases h
      obtain ⟨v,vs',rfl,h1,h2⟩:=hr
      exact ⟨[v],vs',rfl,qmA (SVal.to_rel hy h1) rfl rfl,h2,fun o o' R hm=>by simp [Ty.hids] at hm⟩
     ·cases h
 | .sl t,l,x,r,vs,h,hr=>by
   cases l with
   | nil=>cases h
   | cons sv l=>
     simp only [qeM] at h
     split at h
     ·rename_i y hy
      cases h
      obtain ⟨v,vs',rfl,h1,h2⟩:=hr
      exact ⟨[v],vs',rfl,qmA (SVal.to_rel hy h1) rfl rfl,h2,fun o o' R hm=>by simp [Ty.hids] at hm⟩
     ·cases h
 | .byte,l,x,r,vs,h,hr=>by cases l<;>cases h
 | .arr _ _,l,x,r,vs,h,hr=>by cases l<;>cases h
 | .un,l,x,r,vs,h,hr=>by cases l<;>cases h
 | .ptr _,l,x,r,vs,h,hr=>by cases l<;>cases h
 | .hmp _ _,l,x,r,vs,h,hr=>by cases l<;>cases h
 | .hpt,l,x,r,vs,h,hr=>by cases l<;>cases h
 | .hfn,l,x,r,vs,h,hr=>by cases l<;>cases h
 | .anm,l,x,r,vs,h,hr=>by cases l<;>cases h
theorem Ty.aggB_ok {T:Ty} (h:T.aggB=true):T.kd.agg=true:=by cases T<;>first | rfl | cases h
theorem qkf {n:Nat} {T:Ty} {v:SVal} {y:T.den} {u:Value} (h:qke T v=some y) (hr:v.rel θ n K u):T.kd.V K y u∧∀o o' R,(o',R)∈T.hids o→∃j,o'=o+j∧u.cells.toList[j]?=some (qe1 R):=by
 unfold qke at h
 split at h
 ·rename_i l
  cases ha:T.aggB with
  | false=>rw [ha] at h;cases h
  | true=>
    rw [ha] at h
    simp only [cond_true] at h
    split at h
    ·rename_i y' hy
     cases h
     obtain ⟨vs,rfl,hL,_⟩:=hr
     obtain ⟨cs,vs',rfl,hR,hn,hh⟩:=qeq hy hL
     have hn:vs'=[]:=hn
     subst hn
     rw [List.append_nil]
     exact ⟨⟨cs,hR,by rw [Ty.aggB_ok ha];rfl⟩,hh⟩
    ·cases h
 ·cases h
theorem qjk (hG:G.fine) (hc:c.ok) (h:Rel G s θ ρ w K) (hk:qkC c s t x y k):Step c.P ⟨dst,.store t x y,ty,pos,af,g⟩ ρ w (EPost G s θ ρ w K k):=by
 unfold qkC at hk
 split at hk
 ·rename_i r T k0 p v hX hY
  obtain ⟨hr,hp,bl,o,hkey,hv⟩:=h.opd hX
  split at hk
  ·rename_i T' X ps org lk b hres hb
   split at hk
   ·rename_i hTT
    subst hTT
    cases hfree:qaS org lk with
    | false=>rw [hfree] at hk;exact hk.elim
    | true=>
      rw [hfree] at hk
      simp only [cond_true] at hk
      have hfr:RE.free ⟨.bx T' X ps,org,lk⟩:=qaQ hfree
      have hT:=hc.is_ok hb
      obtain ⟨bl',hk',hf,hB,hps⟩:=(h.res _ _ hres).2.1
      rw [hkey] at hk'
      simp only [Value.pointer.injEq,Option.some.injEq,Addr.mk.injEq,and_true] at hk'
      obtain ⟨rfl,rfl⟩:=hk'
      have hfpE:θ.fp r=fun g=>g=bl:=funext fun g=>propext (hf g)
      cases hh:k0.hid with
      | true=>
        rw [hh] at hk
        simp only [cond_true] at hk
        split at hk
        ·rename_i q hq
         have gen:(∃e,s.res q=some e)→(θ.key q).oneCell'=true→θ.key q=ev ρ y→k [r] (s.put r ⟨.bx T' (p.put X (p.get X)) ((p.off,q)::ps.filter fun z=> !(Nat.beq z.1 p.off)),org,lk⟩) none→Step c.P ⟨dst,.store t x y,ty,pos,af,g⟩ ρ w (EPost G s θ ρ w K k):=fun ⟨eq,hqr⟩ h1 he hk=>by
          have hqlt:=(h.res _ _ hqr).1
          obtain ⟨yv,hyV,hsz,huniq⟩:=qqU hh h1
          obtain ⟨w',hr',hB',hE',hM',hc1,hc2⟩:=Bx.storeC hT h.mod (p.ok hp) hB hyV
          refine Step.skip (qdH hv he.symm hr') ⟨K,_,_,_,[r],hk,h.put hG (F:=θ.fp r) hres hfr (by rw [hfpE];exact hE') hM' ?_ (fun g hg=> .inl hg),by simp,rfl,by simp [hres],?_,Moved.put (List.mem_singleton.2 rfl) (fun g hg=> .inl hg)⟩
          ·refine ⟨bl,by rw [Th.set_key,Th.set_sur];exact hkey,by rw [Th.set_fp];exact hf,by rw [Th.set_sur,huniq (p.get X)];exact hB',?_⟩
           have keyq: ∀z,(θ.set r (θ.key r) (θ.fp r) (θ.sur r)).key z=θ.key z:=fun z=>by
            by_cases hz:z=r
            ·subst hz;exact Th.set_key
            ·exact Th.set_key_ne hz
           intro z hz
           rw [Th.set_sur]
           rcases List.mem_cons.1 hz with rfl | hz
           ·refine ⟨hqlt,?_⟩
            rw [keyq]
            have:=hc2 0 (θ.key q) (by rw [qb9 h1];rfl)
            rw [Nat.add_zero] at this
            exact this
           ·obtain ⟨hz1,hz2⟩:=List.mem_filter.1 hz
            have hne: ¬(z.1=p.off):=fun e=>by rw [e] at hz2;simp at hz2
            refine ⟨(hps z hz1).1,?_⟩
            rw [keyq,hc1 _ (by rw [hsz];omega)]
            exact (hps z hz1).2
          ·exact hE'.weak fun g _ hg=>⟨r,List.mem_singleton.2 rfl,(hf g).2 hg⟩
         have hkeyq: ∀ {q'},v.partRid=some q'→θ.key q'=ev ρ y:=fun {q'} hq'=>by
          have hvr:=h.opd hY
          cases v with
          | own q0 _ _=>simp [SVal.partRid] at hq';subst hq';exact hvr.2.2
          | rw q0=>simp [SVal.partRid] at hq';subst hq';exact hvr.2
          | mp q0=>simp [SVal.partRid] at hq';subst hq';exact hvr.2
          | _=>simp [SVal.partRid] at hq'
         split at hk
         ·rename_i hqr
          exact gen ⟨_,hqr⟩ (h.res _ _ hqr).2.1.1.one (hkeyq hq) hk
         ·rename_i hqr
          exact gen ⟨_,hqr⟩ (h.res _ _ hqr).2.1.1.one (hkeyq hq) hk
         ·rename_i hqr
          exact gen ⟨_,hqr⟩ (h.res _ _ hqr).2.1.1.2.choose_spec.one (hkeyq hq) hk
         ·exact hk.elim
        ·exact hk.elim
      | false=>
        rw [hh] at hk
        simp only [cond_false] at hk
        split at hk
        ·rename_i yv hyv
         cases hcl:qm6 ps p.off k0.kd.sz with
         | false=>rw [hcl] at hk;exact hk.elim
         | true=>
           rw [hcl] at hk
           simp only [cond_true] at hk
           have hyV:=SVal.to_rel hyv (h.opd hY)
           obtain ⟨w',hr',hB',hE',hM',hc1,hc2⟩:=Bx.storeC hT h.mod (p.ok hp) hB hyV
           refine Step.skip (qdH hv rfl hr') ⟨K,_,_,_,[r],hk,h.put hG (F:=θ.fp r) hres hfr (by rw [hfpE];exact hE') hM' ?_ (fun g hg=> .inl hg),by simp,rfl,by simp [hres],?_,Moved.put (List.mem_singleton.2 rfl) (fun g hg=> .inl hg)⟩
           ·refine ⟨bl,by rw [Th.set_key,Th.set_sur];exact hkey,by rw [Th.set_fp];exact hf,by rw [Th.set_sur];exact hB',?_⟩
            intro z hz
            have keyq:(θ.set r (θ.key r) (θ.fp r) (θ.sur r)).key z.2=θ.key z.2:=by
             by_cases hzr:z.2=r
             ·rw [hzr];exact Th.set_key
             ·exact Th.set_key_ne hzr
            rw [Th.set_sur,keyq]
            refine ⟨(hps z hz).1,?_⟩
            have hcz:=List.all_eq_true.1 hcl z hz
            simp only [Bool.or_eq_true] at hcz
            rw [hc1 _ (hcz.imp (fun h=>Nat.le_of_ble_eq_true h) (fun h=>Nat.le_of_ble_eq_true h))]
            exact (hps z hz).2
           ·exact hE'.weak fun g _ hg=>⟨r,List.mem_singleton.2 rfl,(hf g).2 hg⟩
        ·split at hk
         ·rename_i yv hyv
          obtain ⟨hyV,hnil⟩:=qkf hyv (h.opd hY)
          have hrlt:=(h.res _ _ hres).1
          obtain ⟨θ1,h1,h2,h2',h3,h4,hmv,h5⟩:=qdP (l:=(k0.hids p.off).map (rwP c)) hG h (fun p' hp'=>by
           obtain ⟨j,_,_,hs⟩:=qlh (o':=p'.1) (R:=p'.2) hp'
           exact hs)
          have hres1:=(qeK (l:=(k0.hids p.off).map (rwP c)) hrlt).trans hres
          obtain ⟨w',hr',hB',hE',hM',hc1,hc2⟩:=Bx.storeC hT h.mod (p.ok hp) hB hyV
          have hf1:θ1.fp r=fun g=>g=bl:=(h2' r hrlt).trans hfpE
          refine Step.skip (qdH hv rfl hr') ⟨K,_,_,_,[r],hk,h1.put hG (F:=θ1.fp r) hres1 hfr (by rw [hf1];exact hE') hM' ?_ (fun g hg=> .inl hg),by simp,h4,by simp [hres],?_,hmv.thenPut (h2' r hrlt)⟩
          ·have keyq: ∀z,(θ1.set r (θ1.key r) (θ1.fp r) (θ1.sur r)).key z=θ1.key z:=fun z=>by
            by_cases hz:z=r
            ·subst hz;exact Th.set_key
            ·exact Th.set_key_ne hz
           refine ⟨bl,by rw [Th.set_key,Th.set_sur,(h2 r hrlt).1,(h2 r hrlt).2];exact hkey,by rw [Th.set_fp,h2' r hrlt];exact hf,by rw [Th.set_sur,(h2 r hrlt).2];exact hB',?_⟩
           intro z hz
           rw [Th.set_sur,keyq,(h2 r hrlt).2]
           rcases List.mem_append.1 hz with hz | hz
           ·obtain ⟨q1,R,q2,q3⟩:=h5 z hz
            obtain ⟨⟨o1,R1⟩,hm,he⟩:=List.mem_map.1 q2
            obtain ⟨j,e,hj⟩:=hnil p.off o1 R1 hm
            have hR1:z.1=o1∧qe1 R=qe1 R1:=by
             unfold rwP at he
             split at he
             ·rename_i e' t' hR'
              have hR':R1= .ow e' t' []:=hR'
              subst hR'
              cases hb':c.rwB e' with
              | false=>rw [hb'] at he;cases he;exact ⟨rfl,rfl⟩
              | true=>rw [hb'] at he;cases he;exact ⟨rfl,rfl⟩
             ·cases he;exact ⟨rfl,rfl⟩
            refine ⟨q1,?_⟩
            rw [q3,hR1.1,hR1.2,e,←Nat.add_assoc]
            exact hc2 j _ hj
           ·obtain ⟨hz1,hz2⟩:=List.mem_filter.1 hz
            simp only [Bool.or_eq_true] at hz2
            have hzn:=(hps z hz1).1
            refine ⟨Nat.lt_of_lt_of_le hzn h3,?_⟩
            rw [(h2 _ hzn).1,hc1 _ (hz2.imp (fun h=>Nat.le_of_ble_eq_true h) (fun h=>Nat.le_of_ble_eq_true h))]
            exact (hps z hz1).2
          ·exact hE'.weak fun g _ hg=>⟨r,List.mem_singleton.2 rfl,(hf g).2 hg⟩
         ·exact hk.elim
   ·exact hk.elim
  ·exact hk.elim
 ·rename_i r k0 i v hX hY
  obtain ⟨hr,bl,o,hA,hv⟩:=h.opd hX
  split at hk
  ·rename_i e k' l org lk b hres hb
   split at hk
   ·rename_i hT
    subst hT
    cases hfree:(qaS org lk && k'.flatB) with
    | false=>rw [hfree] at hk;exact hk.elim
    | true=>
      rw [hfree] at hk
      simp only [cond_true] at hk
      simp only [Bool.and_eq_true] at hfree
      split at hk
      ·rename_i yv hyv
       have hfr:RE.free ⟨.rw e k' l,org,lk⟩:=qaQ hfree.1
       obtain ⟨hR,hf⟩:=(h.res _ _ hres).2.1
       have hyV:=SVal.to_rel hyv (h.opd hY)
       obtain ⟨w',hrun,hR',hE,hM'⟩:=qqG (dst:=dst) (ty:=ty) (pos:=pos) (af:=af) (g:=g) (Ty.flat_ok hfree.2) h.mod hv rfl hyV (hc.is_ok hb) hR hA
       have hfe:θ.fp r=fun g=>ob (θ.key r)=some g:=funext fun g=>propext (hf g)
       refine Step.skip hrun ⟨K,_,_,_,[r],hk,h.put hG (F:=θ.fp r) hres hfr (by rw [hfe];exact hE) hM' ?_ (fun g hg=> .inl hg),by simp,rfl,by simp [hres],?_,Moved.put (List.mem_singleton.2 rfl) (fun g hg=> .inl hg)⟩
       ·refine ⟨?_,?_⟩
        ·rw [Th.set_key];exact hR'
        ·rw [Th.set_key,Th.set_fp];exact hf
       ·exact hE.weak fun g _ hg=>⟨r,List.mem_singleton.2 rfl,(hf g).2 hg⟩
      ·exact hk.elim
   ·exact hk.elim
  ·exact hk.elim
 ·exact hk.elim
end
end Go.Inc
