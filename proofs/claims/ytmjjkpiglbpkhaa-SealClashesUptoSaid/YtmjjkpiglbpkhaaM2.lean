/- E0, E1, E2, E3, E4, E5, E6, E7, E8, E9, E31. -/
import Derived.Test.YtmjjkpiglbpkhaaM1
set_option linter.unusedVariables false
namespace Go.Inc
open Go Go.RowKit
def Kd.hid (z:Value) (hz:z.oneCell'=true):Kd Unit where
 sz:=1
 agg:=false
 R:=fun _ _ cs=> ∃v,cs=[v]∧v.oneCell'=true
 wf:=fun _=>True
 z:=()
 zc:=[z]
 len:=fun ⟨_,h,_⟩=>by simp [h]
 mono:=fun _ h=>h
 one:=fun ⟨_,h,h2⟩=>by simp [h,h2]
 hwf:=fun _=>trivial
 hz:=fun _=>⟨_,rfl,hz⟩
 hs:=fun _=>rfl
def Kd.vptr:Kd Value where
 sz:=1
 agg:=false
 R:=fun _ v cs=>cs=[v]∧v.oneCell'=true
 wf:=fun _=>True
 z:= .pointer none
 zc:=[.pointer none]
 len:=fun h=>by simp [h.1]
 mono:=fun _ h=>h
 one:=fun h=>by simp [h.1,h.2]
 hwf:=fun _=>trivial
 hz:=fun _=>⟨rfl,rfl⟩
 hs:=fun _=>rfl
inductive Ty where
 | int (k:IntKind) | byte | bool | str | arr (n:Nat) (t:Ty) | sl (t:Ty) | pr (a b:Ty) | st (a:Ty) | un | ptr (t:Ty) | hsl (e:Nat) (t:Ty) | hmp (kk kv:Ty) | hpt | hfn | anm
 deriving DecidableEq
abbrev Ty.den:Ty→Type
 | .int _=>Int
 | .byte=>UInt8
 | .bool=>Bool
 | .str=>List UInt8
 | .arr _ t=>List t.den
 | .sl t=>List t.den
 | .pr a b=>a.den×b.den
 | .st a=>a.den
 | .un=>Unit
 | .ptr t=>Option t.den
 | .hsl _ _=>Unit
 | .hmp _ _=>Unit
 | .hpt=>Unit
 | .hfn=>Unit
 | .anm=>Unit
def Ty.kd:(t:Ty)→Kd t.den
 | .int k=>Kd.int k
 | .byte=>Kd.byte
 | .bool=>Kd.bool
 | .str=>Kd.str
 | .arr n t=>Kd.arr n t.kd
 | .sl t=>Kd.sl t.kd
 | .pr a b=>Kd.pr a.kd b.kd
 | .st a=>Kd.st a.kd
 | .un=>Kd.un
 | .ptr t=>Kd.ptr t.kd
 | .hsl _ _=>Kd.hid (.slice none 0 0) rfl
 | .hmp _ _=>Kd.hid (.map none) rfl
 | .hpt=>Kd.hid (.pointer none) rfl
 | .hfn=>Kd.hid .nilFunc rfl
 | .anm=>Kd.anm
def Ty.dft:(t:Ty)→t.den
 | .int _=>(default:Int)
 | .byte=>(default:UInt8)
 | .bool=>(default:Bool)
 | .str=>([]:List UInt8)
 | .arr _ t=>([]:List t.den)
 | .sl t=>([]:List t.den)
 | .pr a b=>(a.dft,b.dft)
 | .st a=>a.dft
 | .un=>()
 | .ptr t=>(none:Option t.den)
 | .hsl _ _=>()
 | .hmp _ _=>()
 | .hpt=>()
 | .hfn=>()
 | .anm=>()
instance instInhDen (t:Ty):Inhabited t.den:=⟨t.dft⟩
def Ty.cast {a b:Ty} (h:a=b) (x:a.den):b.den:=h▸x
def Ty.deq:(t:Ty)→DecidableEq t.den
 | .int _=>inferInstanceAs (DecidableEq Int)
 | .byte=>inferInstanceAs (DecidableEq UInt8)
 | .bool=>inferInstanceAs (DecidableEq Bool)
 | .str=>inferInstanceAs (DecidableEq (List UInt8))
 | .arr _ t=>have:=t.deq;inferInstanceAs (DecidableEq (List t.den))
 | .sl t=>have:=t.deq;inferInstanceAs (DecidableEq (List t.den))
 | .pr a b=>have:=a.deq;have:=b.deq;inferInstanceAs (DecidableEq (a.den×b.den))
 | .st a=>a.deq
 | .un=>inferInstanceAs (DecidableEq Unit)
 | .ptr t=>have:=t.deq;inferInstanceAs (DecidableEq (Option t.den))
 | .hsl _ _=>inferInstanceAs (DecidableEq Unit)
 | .hmp _ _=>inferInstanceAs (DecidableEq Unit)
 | .hpt=>inferInstanceAs (DecidableEq Unit)
 | .hfn=>inferInstanceAs (DecidableEq Unit)
 | .anm=>inferInstanceAs (DecidableEq Unit)
structure Pth (T t:Ty) where
 off:Nat
 get:T.den→t.den
 put:T.den→t.den→T.den
 cnd:Prop
 ok:cnd→Foc T.kd t.kd off get put
def Pth.id (T:Ty):Pth T T:=⟨0,fun x=>x,fun _ y=>y,True,fun _=>Foc.id _⟩
def Pth.then {A B C:Ty} (p:Pth A B) (q:Pth B C):Pth A C:=⟨p.off+q.off,fun x=>q.get (p.get x),fun x y=>p.put x (q.put (p.get x) y),p.cnd∧q.cnd,fun h=>(p.ok h.1).trans (q.ok h.2)⟩
def Kd.raws {α:Type} (k:Kd α):Kd (List Value) where
 sz:=k.sz
 agg:=k.agg
 R:=fun _ x cs=>cs=x∧x.length=k.sz∧∀v∈x,v.oneCell'=true
 wf:=fun x=>x.length=k.sz
 z:=k.zc
 zc:=k.zc
 len:=fun h=>by rw [h.1];exact h.2.1
 mono:=fun _ h=>h
 one:=fun h=>by rw [h.1];exact h.2.2
 hwf:=fun h=>h.2.1
 hz:=fun K=>⟨rfl,k.len (k.hz K),k.one (k.hz K)⟩
 hs:=k.hs
theorem Kd.raws_flat {α:Type} {k:Kd α}:(Kd.raws k).Flat:=fun _ _ _ _ h=>h
theorem TyOk.raws {α:Type} {P:Program} {t:TypeId} {k:Kd α} {b:Nat} (h:TyOk P t k b):TyOk P t (Kd.raws k) b:=
 ⟨by obtain ⟨i,z,h1,h2,h3,h4,h5,h6⟩:=h.info;exact ⟨i,z,h1,h2,h3,h4,h5,h6⟩,h.desc⟩
theorem qnH {α:Type} {k:Kd α} {K:Ghost}: ∀ {X:List (List Value)} {cs:List Value},RL ((Kd.raws k).R K) X cs→cs=X.flatten∧∀c∈X,c.length=k.sz∧∀v∈c,v.oneCell'=true
 | [],cs,h=>⟨h,by simp⟩
 | c::X,cs,⟨c1,c2,e,h1,h2⟩=>by
   obtain ⟨e2,h3⟩:=qnH h2
   subst e
   rw [h1.1,e2]
   exact ⟨rfl,fun d hd=>(List.mem_cons.1 hd).elim (fun h=>by rw [h];exact h1.2) (h3 d)⟩
section
variable {w w':World} {K K':Ghost} {X:Nat→Prop}
def DR (w:World) (K:Ghost):(t:Ty)→t.den→List Value→(Nat→Prop)→Prop
 | .sl t,x,cs,F=> ∃e v,cs=[v]∧Rw t.kd e w K x v∧∀g,F g↔ob v=some g
 | .pr a b,x,cs,F=> ∃c1 c2 F1 F2,cs=c1++c2∧DR w K a x.1 c1 F1∧DR w K b x.2 c2 F2∧(∀g,F1 g→¬F2 g)∧∀g,F g↔F1 g∨F2 g
 | .st a,x,cs,F=>DR w K a x cs F
 | t,x,cs,F=>t.kd.R K x cs∧∀g,¬F g
theorem Rw.one {α:Type} {k:Kd α} {e:TypeId} {x:List α} {v:Value} (h:Rw k e w K x v):v.oneCell'=true:=by
 obtain ⟨_,l,_,_,h⟩:=h
 rcases h with ⟨A,rfl,_⟩ | ⟨g,cap,c,pre,l2,rfl,_⟩<;>rfl
theorem DR.ext (hE:Ext X w K w' K'): ∀ {t:Ty} {x:t.den} {cs:List Value} {F:Nat→Prop},DR w K t x cs F→(∀g,F g→¬X g)→DR w' K' t x cs F:=by
 intro t
 induction t with
 | sl t _=>rintro x cs F ⟨e,v,h2,h3,h4⟩ hX;exact ⟨e,v,h2,h3.ext hE (fun g hg=>hX g ((h4 g).2 hg)),h4⟩
 | pr a b iha ihb=>rintro x cs F ⟨c1,c2,F1,F2,h1,h2,h3,h4,h5⟩ hX;exact ⟨c1,c2,F1,F2,h1,iha h2 (fun g hg=>hX g ((h5 g).2 (.inl hg))),ihb h3 (fun g hg=>hX g ((h5 g).2 (.inr hg))),h4,h5⟩
 | st a ih=>intro x cs F h hX;exact ih h hX
 | _=>rintro x cs F ⟨h1,h2⟩ _;exact ⟨Kd.mono _ hE.le h1,h2⟩
theorem DR.len: ∀ {t:Ty} {x:t.den} {cs:List Value} {F:Nat→Prop},DR w K t x cs F→cs.length=t.kd.sz∧∀v∈cs,v.oneCell'=true:=by
 intro t
 induction t with
 | sl t _=>rintro x cs F ⟨e,v,rfl,h3,_⟩;exact ⟨rfl,by simpa using h3.one⟩
 | pr a b iha ihb=>
   rintro x cs F ⟨c1,c2,F1,F2,rfl,h2,h3,_⟩
   refine ⟨by rw [List.length_append,(iha h2).1,(ihb h3).1];rfl,fun v hv=>?_⟩
   rcases List.mem_append.1 hv with hv | hv
   ·exact (iha h2).2 v hv
   ·exact (ihb h3).2 v hv
 | st a ih=>intro x cs F h;exact ih h
 | _=>rintro x cs F ⟨h1,_⟩;exact ⟨Kd.len _ h1,Kd.one _ h1⟩
theorem DR.lt: ∀ {t:Ty} {x:t.den} {cs:List Value} {F:Nat→Prop},DR w K t x cs F→∀g,F g→g<w.heap.size∧K g=none:=by
 intro t
 induction t with
 | sl t _=>rintro x cs F ⟨e,v,rfl,h3,h4⟩ g hg;exact ⟨h3.lt g ((h4 g).1 hg),h3.1 g ((h4 g).1 hg)⟩
 | pr a b iha ihb=>
   rintro x cs F ⟨c1,c2,F1,F2,rfl,h2,h3,_,h5⟩ g hg
   rcases (h5 g).1 hg with hg | hg
   ·exact iha h2 g hg
   ·exact ihb h3 g hg
 | st a ih=>intro x cs F h;exact ih h
 | _=>rintro x cs F ⟨_,h2⟩ g hg;exact absurd hg (h2 g)
theorem DR.wf: ∀ {t:Ty} {x:t.den} {cs:List Value} {F:Nat→Prop},DR w K t x cs F→t.kd.wf x:=by
 intro t
 induction t with
 | sl t _=>rintro x cs F ⟨e,v,rfl,h3,h4⟩;exact h3.wf
 | pr a b iha ihb=>rintro x cs F ⟨c1,c2,F1,F2,rfl,h2,h3,_,h5⟩;exact ⟨iha h2,ihb h3⟩
 | st a ih=>intro x cs F h;exact ih h
 | _=>rintro x cs F ⟨h1,_⟩;exact Kd.hwf _ h1
theorem DR.freeze: ∀ {t:Ty} {K:Ghost} {x:t.den} {cs:List Value} {F:Nat→Prop},DR w K t x cs F→Models w K→∃K',Ext F w K w K'∧Models w K'∧t.kd.R K' x cs:=by
 intro t
 induction t with
 | sl t _=>
   rintro K x cs F ⟨e,v,rfl,h3,h4⟩ hM
   obtain ⟨K',hO,hE,hM'⟩:=h3.freeze hM
   exact ⟨K',hE.weak fun g _ hg=>(h4 g).2 hg,hM',hO.V.un1 rfl⟩
 | pr a b iha ihb=>
   rintro K x cs F ⟨c1,c2,F1,F2,rfl,h2,h3,h4,h5⟩ hM
   obtain ⟨K1,hE1,hM1,hR1⟩:=iha h2 hM
   obtain ⟨K2,hE2,hM2,hR2⟩:=ihb (h3.ext hE1 fun g hg h=>h4 g h hg) hM1
   exact ⟨K2,(hE1.weak fun g _ hg=>(h5 g).2 (.inl hg)).trans (hE2.weak fun g _ hg=>(h5 g).2 (.inr hg)),hM2,c1,c2,rfl,Kd.mono _ hE2.le hR1,hR2⟩
 | st a ih=>intro K x cs F h hM;exact ih h hM
 | _=>rintro K x cs F ⟨h1,h2⟩ hM;exact ⟨K,Ext.refl _ _ _,hM,h1⟩
def Ty.inn:(t:Ty)→Nat→Option (Sigma fun s:Ty=>(t.den→List s.den)×(t.den→List s.den→t.den))
 | .sl s,0=>some ⟨s,fun x=>x,fun _ y=>y⟩
 | .pr a b,o=>bif Nat.blt o a.kd.sz then (match a.inn o with
    | some ⟨s,g,p⟩=>some ⟨s,fun x=>g x.1,fun x y=>(p x.1 y,x.2)⟩
    | none=>none) else (match b.inn (o - a.kd.sz) with
    | some ⟨s,g,p⟩=>some ⟨s,fun x=>g x.2,fun x y=>(x.1,p x.2 y)⟩
    | none=>none)
 | .st a,o=>a.inn o
 | _,_=>none
theorem DR.inn: ∀ {t:Ty} {o:Nat} {x:t.den} {cs:List Value} {F:Nat→Prop} {s:Ty} {gt:t.den→List s.den} {pt:t.den→List s.den→t.den},DR w K t x cs F→t.inn o=some ⟨s,gt,pt⟩→
 ∃e v,cs[o]?=some v∧Rw s.kd e w K (gt x) v∧(∀g,ob v=some g→F g)∧∀w' K' y,Ext (fun g=>ob v=some g) w K w' K'→Rw s.kd e w' K' y v→DR w' K' t (pt x y) cs F:=by
 intro t
 induction t with
 | sl t _=>
   rintro o x cs F s gt pt ⟨e,v,rfl,h3,h4⟩ hi
   cases o with
   | zero=>cases hi;exact ⟨e,v,rfl,h3,fun g hg=>(h4 g).2 hg,fun w' K' y _ hy=>⟨e,v,rfl,hy,h4⟩⟩
   | succ o=>cases hi
 | pr a b iha ihb=>
   rintro o x cs F s gt pt ⟨c1,c2,F1,F2,rfl,h2,h3,h4,h5⟩ hi
   have l1:=h2.len.1
   simp only [Ty.inn] at hi
   cases hb:Nat.blt o a.kd.sz with
   | true=>
     have ho:o<a.kd.sz:=Nat.le_of_ble_eq_true hb
     rw [hb] at hi
     simp only [cond_true] at hi
     split at hi
     ·rename_i s' g' p' hi'
      cases hi
      obtain ⟨e,v,a1,a2,a3,a4⟩:=iha h2 hi'
      refine ⟨e,v,by rw [List.getElem?_append_left (by omega)];exact a1,a2,fun g hg=>(h5 g).2 (.inl (a3 g hg)),fun w' K' y hE hy=>⟨c1,c2,F1,F2,rfl,a4 w' K' y hE hy,h3.ext hE (fun g hg hq=>h4 g (a3 g hq) hg),h4,h5⟩⟩
     ·cases hi
   | false=>
     have ho: ¬o<a.kd.sz:=fun h=>by
      have:Nat.blt o a.kd.sz=true:=Nat.ble_eq_true_of_le h
      rw [hb] at this
      cases this
     rw [hb] at hi
     simp only [cond_false] at hi
     split at hi
     ·rename_i s' g' p' hi'
      cases hi
      obtain ⟨e,v,a1,a2,a3,a4⟩:=ihb h3 hi'
      refine ⟨e,v,by rw [List.getElem?_append_right (by omega),l1];exact a1,a2,fun g hg=>(h5 g).2 (.inr (a3 g hg)),fun w' K' y hE hy=>⟨c1,c2,F1,F2,rfl,h2.ext hE (fun g hg hq=>h4 g hg (a3 g hq)),a4 w' K' y hE hy,h4,h5⟩⟩
     ·cases hi
 | st a ih=>intro o x cs F s gt pt h hi;exact @ih o x cs F s gt pt h hi
 | _=>intro o x cs F s gt pt h hi;cases hi
def DRL (w:World) (K:Ghost) (t:Ty):List t.den→List (List Value)→(Nat→Prop)→Prop
 | [],X,F=>X=[]∧∀g,¬F g
 | a::x,X,F=> ∃c X' F1 F2,X=c::X'∧DR w K t a c F1∧DRL w K t x X' F2∧(∀g,F1 g→¬F2 g)∧∀g,F g↔F1 g∨F2 g
variable {t:Ty}
theorem DRL.ext (hE:Ext X w K w' K'): ∀ {x:List t.den} {Y:List (List Value)} {F:Nat→Prop},DRL w K t x Y F→(∀g,F g→¬X g)→DRL w' K' t x Y F
 | [],Y,F,h,_=>h
 | a::x,Y,F,⟨c,X',F1,F2,h1,h2,h3,h4,h5⟩,hX=>⟨c,X',F1,F2,h1,h2.ext hE (fun g hg=>hX g ((h5 g).2 (.inl hg))),DRL.ext hE h3 (fun g hg=>hX g ((h5 g).2 (.inr hg))),h4,h5⟩
theorem DRL.len: ∀ {x:List t.den} {Y:List (List Value)} {F:Nat→Prop},DRL w K t x Y F→x.length=Y.length
 | [],Y,F,h=>by rw [h.1];rfl
 | a::x,Y,F,⟨c,X',F1,F2,h1,h2,h3,_⟩=>by rw [h1,List.length_cons,List.length_cons,DRL.len h3]
theorem DRL.lt: ∀ {x:List t.den} {Y:List (List Value)} {F:Nat→Prop},DRL w K t x Y F→∀g,F g→g<w.heap.size∧K g=none
 | [],Y,F,h,g,hg=>absurd hg (h.2 g)
 | a::x,Y,F,⟨c,X',F1,F2,h1,h2,h3,h4,h5⟩,g,hg=>((h5 g).1 hg).elim (h2.lt g) (DRL.lt h3 g)
theorem DRL.wf: ∀ {x:List t.den} {Y:List (List Value)} {F:Nat→Prop},DRL w K t x Y F→∀a∈x,t.kd.wf a
 | [],Y,F,h,a,ha=>by cases ha
 | b::x,Y,F,⟨c,X',F1,F2,h1,h2,h3,h4,h5⟩,a,ha=>(List.mem_cons.1 ha).elim (fun e=>by rw [e];exact h2.wf) (DRL.wf h3 a)
theorem DRL.freeze: ∀ {x:List t.den} {K:Ghost} {Y:List (List Value)} {F:Nat→Prop},DRL w K t x Y F→Models w K→∃K',Ext F w K w K'∧Models w K'∧RL (t.kd.R K') x Y.flatten
 | [],K,Y,F,h,hM=>⟨K,Ext.refl _ _ _,hM,by rw [h.1];rfl⟩
 | a::x,K,Y,F,⟨c,X',F1,F2,h1,h2,h3,h4,h5⟩,hM=>by
   obtain ⟨K1,hE1,hM1,hR1⟩:=h2.freeze hM
   obtain ⟨K2,hE2,hM2,hR2⟩:=DRL.freeze (h3.ext hE1 fun g hg h=>h4 g h hg) hM1
   rw [h1]
   exact ⟨K2,(hE1.weak fun g _ hg=>(h5 g).2 (.inl hg)).trans (hE2.weak fun g _ hg=>(h5 g).2 (.inr hg)),hM2,c,X'.flatten,rfl,Kd.mono _ hE2.le hR1,hR2⟩
theorem DRL.append: ∀ {x y:List t.den} {Y Z:List (List Value)} {F F':Nat→Prop},DRL w K t x Y F→DRL w K t y Z F'→(∀g,F g→¬F' g)→DRL w K t (x++y) (Y++Z) (fun g=>F g∨F' g)
 | [],y,Y,Z,F,F',h,h',hd=>by
   rw [h.1]
   have e:(fun g=>F g∨F' g)=F':=funext fun g=>propext ⟨fun hq=>hq.elim (fun hq=>absurd hq (h.2 g)) (fun hq=>hq),.inr⟩
   rw [e]
   exact h'
 | a::x,y,Y,Z,F,F',⟨c,X',F1,F2,h1,h2,h3,h4,h5⟩,h',hd=>by
   rw [h1]
   refine ⟨c,X'++Z,F1,fun g=>F2 g∨F' g,rfl,h2,DRL.append h3 h' (fun g hg=>hd g ((h5 g).2 (.inr hg))),fun g hg hq=>hq.elim (h4 g hg) (hd g ((h5 g).2 (.inl hg))),fun g=>?_⟩
   show F g∨F' g↔F1 g∨F2 g∨F' g
   rw [h5 g]
   exact or_assoc
theorem DRL.get: ∀ {x:List t.den} {Y:List (List Value)} {F:Nat→Prop} (i:Nat) (hi:i<x.length),DRL w K t x Y F→∃c F1,Y[i]?=some c∧DR w K t x[i] c F1∧(∀g,F1 g→F g)∧∀w' K' a',(∃Xs,Ext Xs w K w' K'∧∀g,Xs g→F1 g)→DR w' K' t a' c F1→DRL w' K' t (x.set i a') Y F
 | [],Y,F,i,hi,h=>absurd hi (Nat.not_lt_zero _)
 | a::x,Y,F,0,hi,⟨c,X',F1,F2,h1,h2,h3,h4,h5⟩=>by
   rw [h1]
   exact ⟨c,F1,rfl,h2,fun g hg=>(h5 g).2 (.inl hg),fun w' K' a' ⟨Xs,hE,hX⟩ ha=>⟨c,X',F1,F2,rfl,ha,h3.ext hE (fun g hg hq=>h4 g (hX g hq) hg),h4,h5⟩⟩
 | a::x,Y,F,i+1,hi,⟨c,X',F1,F2,h1,h2,h3,h4,h5⟩=>by
   rw [h1]
   obtain ⟨c',F',a1,a2,a3,a4⟩:=DRL.get i (Nat.lt_of_succ_lt_succ hi) h3
   exact ⟨c',F',a1,a2,fun g hg=>(h5 g).2 (.inr (a3 g hg)),fun w' K' a' ⟨Xs,hE,hX⟩ ha=>⟨c,X',F1,F2,rfl,h2.ext hE (fun g hg hq=>h4 g hg (a3 g (hX g hq))),a4 w' K' a' ⟨Xs,hE,hX⟩ ha,h4,h5⟩⟩
end
def DPB:Nat:=1000000
structure DP (e:Nat) (t:Ty) (w:World) (K:Ghost) (x:List t.den) (cs:List Value) (v:Value) (F:Nat→Prop) (X:List (List Value)) (F':Nat→Prop):Prop where
 cs:cs=X.flatten
 hd:Rw (Kd.raws t.kd) e w K X v
 el:DRL w K t x X F'
 ap: ∀g,F' g→ob v≠some g
 fp: ∀g,F g↔ob v=some g∨F' g
def RwX (e:Nat) (t:Ty) (w:World) (K:Ghost) (x:List t.den) (u:List Value×List Value) (v:Value) (F:Nat→Prop):Prop:=
 match Nat.blt e DPB with
 | true=>Rw t.kd e w K x v∧∀g,F g↔ob v=some g
 | false=> ∃X F',DP (e - DPB) t w K x u.1 v F X F'
section
variable {e:Nat} {t:Ty} {w w':World} {K K':Ghost} {x:List t.den} {u:List Value×List Value} {v:Value} {F:Nat→Prop} {X:Nat→Prop}
theorem RwX.flat (hb:Nat.blt e DPB=true):RwX e t w K x u v F↔Rw t.kd e w K x v∧∀g,F g↔ob v=some g:=by unfold RwX;rw [hb]
theorem RwX.deep (hb:Nat.blt e DPB=false):RwX e t w K x u v F↔ ∃X F',DP (e - DPB) t w K x u.1 v F X F':=by unfold RwX;rw [hb]
theorem RwX.lt (h:RwX e t w K x u v F): ∀g,F g→g<w.heap.size:=by
 cases hb:Nat.blt e DPB with
 | true=>rw [RwX.flat hb] at h;exact fun g hg=>h.1.lt g ((h.2 g).1 hg)
 | false=>
   rw [RwX.deep hb] at h
   obtain ⟨Y,F',h⟩:=h
   exact fun g hg=>((h.fp g).1 hg).elim (h.hd.lt g) (fun hg=>(h.el.lt g hg).1)
theorem RwX.ext (h:RwX e t w K x u v F) (hE:Ext X w K w' K') (hX: ∀g,F g→¬X g):RwX e t w' K' x u v F:=by
 cases hb:Nat.blt e DPB with
 | true=>rw [RwX.flat hb] at h⊢;exact ⟨h.1.ext hE fun g hg=>hX g ((h.2 g).2 hg),h.2⟩
 | false=>
   rw [RwX.deep hb] at h⊢
   obtain ⟨Y,F',h⟩:=h
   exact ⟨Y,F',h.cs,h.hd.ext hE fun g hg=>hX g ((h.fp g).2 (.inl hg)),h.el.ext hE fun g hg=>hX g ((h.fp g).2 (.inr hg)),h.ap,h.fp⟩
theorem RwX.wf (h:RwX e t w K x u v F):(Kd.sl t.kd).wf x:=by
 cases hb:Nat.blt e DPB with
 | true=>rw [RwX.flat hb] at h;exact h.1.wf
 | false=>
   rw [RwX.deep hb] at h
   obtain ⟨Y,F',h⟩:=h
   exact ⟨by rw [h.el.len];exact h.hd.wf.1,h.el.wf⟩
theorem qmO {e e':Nat} (h:Nat.beq e' (e+DPB)=true):Nat.blt e' DPB=false∧e' - DPB=e:=by
 have h1:=Nat.eq_of_beq_eq_true h
 refine ⟨?_,by omega⟩
 cases hb:Nat.blt e' DPB with
 | false=>rfl
 | true=>exact absurd (Nat.le_of_ble_eq_true hb) (by omega)
theorem RwX.sl (h:RwX e t w K x u v F): ∃(α:Type) (k:Kd α) (e':TypeId) (Y:List α),Rw k e' w K Y v∧Y.length=x.length:=by
 cases hb:Nat.blt e DPB with
 | true=>rw [RwX.flat hb] at h;exact ⟨_,_,_,_,h.1,rfl⟩
 | false=>
   rw [RwX.deep hb] at h
   obtain ⟨Y,F',h⟩:=h
   exact ⟨_,_,_,_,h.hd,h.el.len.symm⟩
theorem qhn {F:Nat→Prop} (hE:Ext F w K w K') (hM:Models w K) (hF: ∀g,F g→K g=none): ∀b,K b≠none→K' b=K b:=fun b hb=>by
 cases hk:K b with
 | none=>exact absurd hk hb
 | some p=>rw [←hk];exact hE.ghost b (hM.lt (t:=p.1) (l:=p.2) hk) (fun h=>hb (hF b h))
theorem RwX.freeze (h:RwX e t w K x u v F) (hM:Models w K): ∃K',Ext F w K w K'∧Models w K'∧(Kd.sl t.kd).V K' x v∧∀b,K b≠none→K' b=K b:=by
 cases hb:Nat.blt e DPB with
 | true=>
   rw [RwX.flat hb] at h
   obtain ⟨K',hO,hE,hM'⟩:=h.1.freeze hM
   exact ⟨K',hE.weak fun g _ hg=>(h.2 g).2 hg,hM',hO.V,qhn hE hM h.1.1⟩
 | false=>
   rw [RwX.deep hb] at h
   obtain ⟨X,F',h⟩:=h
   obtain ⟨K1,hE1,hM1,hR1⟩:=h.el.freeze hM
   have hd:=h.hd.ext hE1 (fun g hg hq=>h.ap g hq hg)
   obtain ⟨K2,hO,hE2,hM2⟩:=hd.freeze hM1
   have x1:=qhn hE1 hM (fun g hg=>(h.el.lt g hg).2)
   have x2:=qhn hE2 hM1 hd.1
   refine ⟨K2,(hE1.weak fun g _ hg=>(h.fp g).2 (.inr hg)).trans (hE2.weak fun g _ hg=>(h.fp g).2 (.inl hg)),hM2,?_,fun b hk=>by rw [x2 b (by rw [x1 b hk];exact hk),x1 b hk]⟩
   obtain ⟨A,cap,e1,e2,e3,e4,e5⟩:=qbC hO.V
   have hl:=h.el.len
   rw [e1,←hl]
   refine ⟨_,⟨A,cap,rfl,by rw [hl];exact e2,by rw [hl];exact e3,h.el.wf,?_⟩,rfl⟩
   rcases e5 with e5 | ⟨b,e',pre,mid,post,rfl,hK,hR⟩
   ·refine .inl (List.eq_nil_of_length_eq_zero ?_)
    rw [hl,e5];rfl
   ·refine .inr ⟨b,e',pre,mid,post,rfl,hK,?_⟩
    rw [(qnH hR).1]
    exact RL.mono (fun _ _=>Kd.mono _ hE2.le) hR1
end
end Go.Inc

set_option linter.unusedVariables false
namespace Go.Inc
open Go Go.RowKit
inductive SVal where
 | lit (ik:IntKind) (n:Int)
 | int (ik:IntKind) (a:Int) (lv:Bool)
 | byt (c:UInt8)
 | bt (b:Bool)
 | bv (b:Bool)
 | boo (p:Prop) (d:Decidable p)
 | nbo (p:Prop) (d:Decidable p)
 | mnb (r:Nat)
 | str (l:List UInt8)
 | val (t:Ty) (x:t.den)
 | own (r:Nat) (t:Ty) (x:List t.den)
 | rw (r:Nat)
 | pt (t:Ty) (x:t.den)
 | box (r:Nat) (T t:Ty) (p:Pth T t)
 | bsl (r:Nat) (n:Nat) (t:Ty) (lo hi:Nat)
 | rpt (r:Nat) (t:Ty) (i:Int)
 | rcut (r:Nat) (t:Ty) (lo hi:Nat)
 | dpt (r:Nat) (t k:Ty) (i:Int) (o:Nat)
 | din (r:Nat) (t:Ty) (i:Int) (o:Nat)
 | mp (r:Nat)
 | obj (r:Nat)
 | nil | snil | und
 | snl (e:Nat) (t:Ty) (z:Bool)
 | mnil | yld (l:Nat) | any | zer (T:Ty)
 | tup (l:List SVal)
 | agg (l:List SVal)
 | psl (l:List SVal)
 | ppt (v:SVal)
 | fn (f:Nat) (cs:List SVal)
structure Th where
 key:Nat→Value
 fp:Nat→Nat→Prop
 sur:Nat→List Value×List Value
mutual
def SVal.rel (θ:Th) (n:Nat) (K:Ghost):SVal→Value→Prop
 | .lit ik a,v=>v= .int ik a∧(Kd.int ik).wf a
 | .int ik a _,v=>v= .int ik a∧(Kd.int ik).wf a
 | .byt c,v=>v= .int .u8 (bI c)
 | .bt b,v=>v= .bool b
 | .bv b,v=>v= .bool b
 | .boo p d,v=>v= .bool (@decide p d)
 | .nbo p d,v=>v= .bool (!@decide p d)
 | .mnb r,v=>r<n∧∃b,v= .bool b∧(b=true→θ.key r= .map none)∧(b=false→∃q,θ.key r= .map (some q))
 | .str l,v=>v= .string ⟨l.toArray⟩∧l.length≤LM
 | .val t x,v=>t.kd.V K x v
 | .own r t x,v=>r<n∧(Kd.sl t.kd).V K x v∧θ.key r=v
 | .rw r,v=>r<n∧θ.key r=v
 | .pt t x,v=>t.kd.Pt K x v
 | .box r T t p,v=>r<n∧p.cnd∧∃b o,θ.key r= .pointer (some ⟨b,o,none⟩)∧v= .pointer (some ⟨b,o+p.off,none⟩)
 | .bsl r m t lo hi,v=>r<n∧(lo≤hi∧hi≤m∧m≤LM)∧∃b o,θ.key r= .pointer (some ⟨b,o,none⟩)∧v= .slice (some ⟨b,o+lo *t.kd.sz,none⟩) (hi - lo) (m - lo)
 | .rpt r t i,v=>r<n∧∃bl o,At (θ.key r) i t.kd.sz bl o∧v= .pointer (some ⟨bl,o,none⟩)
 | .rcut r t lo hi,v=>r<n∧lo≤hi∧∃A len cap,θ.key r= .slice A len cap∧hi≤len∧v= .slice (if cap=lo then A else A.map (·.add (lo *t.kd.sz))) (hi - lo) (cap - lo)
 | .dpt r t k i o,v=>r<n∧∃bl f,At (θ.key r) i t.kd.sz bl f∧v= .pointer (some ⟨bl,f+o,none⟩)
 | .din r t i o,v=>r<n∧(θ.sur r).1[i.toNat *t.kd.sz+o]?=some v
 | .mp r,v=>r<n∧θ.key r=v
 | .obj r,v=>r<n∧θ.key r=v
 | .nil,v=>v= .pointer none
 | .snil,v=>v= .slice none 0 0
 | .und,v=>v=undef
 | .snl _ _ z,v=> ∃A,v= .slice A 0 0∧(z=true→A=none)
 | .mnil,v=>v= .map none
 | .yld l,v=>v= .func (.yield l) #[] #[]
 | .any,v=>True
 | .zer T,v=>v= .agg T.kd.zc.toArray∧T.kd.agg=true
 | .tup l,v=> ∃vs:List Value,v= .tuple vs.toArray∧SVal.relL θ n K l vs
 | .agg l,v=> ∃vs:List Value,v= .agg vs.toArray∧SVal.relL θ n K l vs∧∀u∈vs,u.oneCell'=true
 | .psl l,v=> ∃vs:List Value,(Kd.sl Kd.vptr).V K vs v∧SVal.relL θ n K l vs
 | .ppt s,v=> ∃u:Value,Kd.vptr.Pt K u v∧SVal.rel θ n K s u
 | .fn f cs,v=> ∃vs:List Value,v= .func (.func f) #[] vs.toArray∧SVal.relL θ n K cs vs
def SVal.relL (θ:Th) (n:Nat) (K:Ghost):List SVal→List Value→Prop
 | [],vs=>vs=[]
 | s::l,vs=> ∃v r,vs=v::r∧SVal.rel θ n K s v∧SVal.relL θ n K l r
end
def Th.upto (θ θ':Th) (n:Nat):Prop:=∀r,r<n→θ'.key r=θ.key r∧θ'.sur r=θ.sur r
theorem Th.upto.refl (θ:Th) (n:Nat):θ.upto θ n:=fun _ _=>⟨rfl,rfl⟩
theorem Th.upto.trans {θ θ' θ'':Th} {n m:Nat} (h:θ.upto θ' n) (h':θ'.upto θ'' m) (hn:n≤m):θ.upto θ'' n:=fun r hr=>⟨(h' r (Nat.lt_of_lt_of_le hr hn)).1.trans (h r hr).1,(h' r (Nat.lt_of_lt_of_le hr hn)).2.trans (h r hr).2⟩
mutual
theorem SVal.rel.mono {θ θ':Th} {n n':Nat} {K K':Ghost} (ht:θ.upto θ' n) (hn:n≤n') (hK:K.le K'): ∀ {s:SVal} {v:Value},SVal.rel θ n K s v→SVal.rel θ' n' K' s v
 | .lit ik a,v,h=>h
 | .int ik a _,v,h=>h
 | .byt c,v,h=>h
 | .bt b,v,h=>h
 | .bv b,v,h=>h
 | .boo p d,v,h=>h
 | .nbo p d,v,h=>h
 | .mnb r,v,h=>⟨Nat.lt_of_lt_of_le h.1 hn,by rw [(ht r h.1).1];exact h.2⟩
 | .str l,v,h=>h
 | .val t x,v,h=>Kd.V.mono h hK
 | .own r t x,v,h=>⟨Nat.lt_of_lt_of_le h.1 hn,h.2.1.mono hK,(ht r h.1).1.trans h.2.2⟩
 | .rw r,v,h=>⟨Nat.lt_of_lt_of_le h.1 hn,(ht r h.1).1.trans h.2⟩
 | .pt t x,v,h=>Kd.Pt.mono h hK
 | .box r T t p,v,h=>⟨Nat.lt_of_lt_of_le h.1 hn,by rw [(ht r h.1).1];exact h.2⟩
 | .bsl r m t lo hi,v,h=>⟨Nat.lt_of_lt_of_le h.1 hn,by rw [(ht r h.1).1];exact h.2⟩
 | .rpt r t i,v,h=>⟨Nat.lt_of_lt_of_le h.1 hn,by rw [(ht r h.1).1];exact h.2⟩
 | .rcut r t lo hi,v,h=>⟨Nat.lt_of_lt_of_le h.1 hn,by rw [(ht r h.1).1];exact h.2⟩
 | .dpt r t k i o,v,h=>⟨Nat.lt_of_lt_of_le h.1 hn,by rw [(ht r h.1).1];exact h.2⟩
 | .din r t i o,v,h=>⟨Nat.lt_of_lt_of_le h.1 hn,by rw [(ht r h.1).2];exact h.2⟩
 | .mp r,v,h=>⟨Nat.lt_of_lt_of_le h.1 hn,(ht r h.1).1.trans h.2⟩
 | .obj r,v,h=>⟨Nat.lt_of_lt_of_le h.1 hn,(ht r h.1).1.trans h.2⟩
 | .nil,v,h=>h
 | .snil,v,h=>h
 | .und,v,h=>h
 | .snl _ _ _,v,h=>h
 | .mnil,v,h=>h
 | .yld l,v,h=>h
 | .any,v,h=>h
 | .zer _,v,h=>h
 | .tup l,v,⟨vs,hv,h⟩=>⟨vs,hv,SVal.relL.mono ht hn hK h⟩
 | .agg l,v,⟨vs,hv,h,h2⟩=>⟨vs,hv,SVal.relL.mono ht hn hK h,h2⟩
 | .psl l,v,⟨vs,hv,h⟩=>⟨vs,Kd.V.mono hv hK,SVal.relL.mono ht hn hK h⟩
 | .ppt s,v,⟨u,hp,h⟩=>⟨u,Kd.Pt.mono hp hK,SVal.rel.mono ht hn hK h⟩
 | .fn f cs,v,⟨vs,hv,h⟩=>⟨vs,hv,SVal.relL.mono ht hn hK h⟩
theorem SVal.relL.mono {θ θ':Th} {n n':Nat} {K K':Ghost} (ht:θ.upto θ' n) (hn:n≤n') (hK:K.le K'): ∀ {l:List SVal} {vs:List Value},SVal.relL θ n K l vs→SVal.relL θ' n' K' l vs
 | [],vs,h=>h
 | s::l,vs,⟨v,r,e,h1,h2⟩=>⟨v,r,e,SVal.rel.mono ht hn hK h1,SVal.relL.mono ht hn hK h2⟩
end
mutual
def SVal.bd (n:Nat):SVal→Prop
 | .mnb r=>r<n
 | .own r _ _=>r<n
 | .rw r=>r<n
 | .box r _ _ _=>r<n
 | .bsl r _ _ _ _=>r<n
 | .rpt r _ _=>r<n
 | .rcut r _ _ _=>r<n
 | .dpt r _ _ _ _=>r<n
 | .din r _ _ _=>r<n
 | .mp r=>r<n
 | .obj r=>r<n
 | .tup l=>SVal.bdL n l
 | .agg l=>SVal.bdL n l
 | .psl l=>SVal.bdL n l
 | .ppt s=>SVal.bd n s
 | .fn _ l=>SVal.bdL n l
 | _=>True
def SVal.bdL (n:Nat):List SVal→Prop
 | []=>True
 | s::l=>SVal.bd n s∧SVal.bdL n l
end
mutual
theorem SVal.rel.bd {θ:Th} {n:Nat} {K:Ghost}: ∀ {s:SVal} {v:Value},SVal.rel θ n K s v→s.bd n
 | .mnb r,v,h=>h.1
 | .own r _ _,v,h=>h.1
 | .rw r,v,h=>h.1
 | .box r _ _ _,v,h=>h.1
 | .bsl r _ _ _ _,v,h=>h.1
 | .rpt r _ _,v,h=>h.1
 | .rcut r _ _ _,v,h=>h.1
 | .dpt r _ _ _ _,v,h=>h.1
 | .din r _ _ _,v,h=>h.1
 | .mp r,v,h=>h.1
 | .obj r,v,h=>h.1
 | .tup l,v,⟨vs,_,h⟩=>SVal.relL.bd h
 | .agg l,v,⟨vs,_,h,_⟩=>SVal.relL.bd h
 | .psl l,v,⟨vs,_,h⟩=>SVal.relL.bd h
 | .ppt s,v,⟨u,_,h⟩=>SVal.rel.bd (s:=s) h
 | .fn _ l,v,⟨vs,_,h⟩=>SVal.relL.bd h
 | .lit _ _,v,h=>trivial
 | .int _ _ _,v,h=>trivial
 | .byt _,v,h=>trivial
 | .bt _,v,h=>trivial
 | .bv _,v,h=>trivial
 | .boo _ _,v,h=>trivial
 | .nbo _ _,v,h=>trivial
 | .str _,v,h=>trivial
 | .val _ _,v,h=>trivial
 | .pt _ _,v,h=>trivial
 | .nil,v,h=>trivial
 | .snil,v,h=>trivial
 | .und,v,h=>trivial
 | .snl _ _ _,v,h=>trivial
 | .mnil,v,h=>trivial
 | .yld l,v,h=>trivial
 | .any,v,h=>trivial
 | .zer _,v,h=>trivial
theorem SVal.relL.bd {θ:Th} {n:Nat} {K:Ghost}: ∀ {l:List SVal} {vs:List Value},SVal.relL θ n K l vs→SVal.bdL n l
 | [],vs,h=>trivial
 | s::l,vs,⟨v,r,e,h1,h2⟩=>⟨SVal.rel.bd h1,SVal.relL.bd h2⟩
end
mutual
theorem SVal.rel.low {θ θ':Th} {n n':Nat} {K:Ghost} (ht: ∀r,r<n'→θ'.key r=θ.key r∧θ'.sur r=θ.sur r): ∀ {s:SVal} {v:Value},SVal.rel θ n K s v→s.bd n'→SVal.rel θ' n' K s v
 | .lit ik a,v,h,_=>h
 | .int ik a _,v,h,_=>h
 | .byt c,v,h,_=>h
 | .bt b,v,h,_=>h
 | .bv b,v,h,_=>h
 | .boo p d,v,h,_=>h
 | .nbo p d,v,h,_=>h
 | .mnb r,v,h,b=>⟨b,by rw [(ht r b).1];exact h.2⟩
 | .str l,v,h,_=>h
 | .val t x,v,h,_=>h
 | .own r t x,v,h,b=>⟨b,h.2.1,(ht r b).1.trans h.2.2⟩
 | .rw r,v,h,b=>⟨b,(ht r b).1.trans h.2⟩
 | .pt t x,v,h,_=>h
 | .box r T t p,v,h,b=>⟨b,by rw [(ht r b).1];exact h.2⟩
 | .bsl r m t lo hi,v,h,b=>⟨b,by rw [(ht r b).1];exact h.2⟩
 | .rpt r t i,v,h,b=>⟨b,by rw [(ht r b).1];exact h.2⟩
 | .rcut r t lo hi,v,h,b=>⟨b,by rw [(ht r b).1];exact h.2⟩
 | .dpt r t k i o,v,h,b=>⟨b,by rw [(ht r b).1];exact h.2⟩
 | .din r t i o,v,h,b=>⟨b,by rw [(ht r b).2];exact h.2⟩
 | .mp r,v,h,b=>⟨b,(ht r b).1.trans h.2⟩
 | .obj r,v,h,b=>⟨b,(ht r b).1.trans h.2⟩
 | .nil,v,h,_=>h
 | .snil,v,h,_=>h
 | .und,v,h,_=>h
 | .snl _ _ _,v,h,_=>h
 | .mnil,v,h,_=>h
 | .yld l,v,h,_=>h
 | .any,v,h,_=>h
 | .zer _,v,h,_=>h
 | .tup l,v,⟨vs,hv,h⟩,b=>⟨vs,hv,SVal.relL.low ht h b⟩
 | .agg l,v,⟨vs,hv,h,h2⟩,b=>⟨vs,hv,SVal.relL.low ht h b,h2⟩
 | .psl l,v,⟨vs,hv,h⟩,b=>⟨vs,hv,SVal.relL.low ht h b⟩
 | .ppt s,v,⟨u,hp,h⟩,b=>⟨u,hp,SVal.rel.low ht h b⟩
 | .fn f cs,v,⟨vs,hv,h⟩,b=>⟨vs,hv,SVal.relL.low ht h b⟩
theorem SVal.relL.low {θ θ':Th} {n n':Nat} {K:Ghost} (ht: ∀r,r<n'→θ'.key r=θ.key r∧θ'.sur r=θ.sur r): ∀ {l:List SVal} {vs:List Value},SVal.relL θ n K l vs→SVal.bdL n' l→SVal.relL θ' n' K l vs
 | [],vs,h,_=>h
 | s::l,vs,⟨v,r,e,h1,h2⟩,b=>⟨v,r,e,SVal.rel.low ht h1 b.1,SVal.relL.low ht h2 b.2⟩
end
inductive Res where
 | bx (t:Ty) (x:t.den) (ps:List (Nat×Nat))
 | ow (e:Nat) (t:Ty) (x:List t.den)
 | rw (e:Nat) (t:Ty) (x:List t.den)
 | mp (kk kv:Ty) (m:List (kk.den×kv.den)) (nn:Bool)
 | bk (e:Nat) (x:qav)
 | cl (N:Nat) (l:Option (List SVal))
def Res.sat (θ:Th) (r n:Nat) (w:World) (K:Ghost):Res→Prop
 | .bx t x ps=> ∃b:Nat,θ.key r= .pointer (some ⟨b,(θ.sur r).1.length,none⟩)∧(∀g,θ.fp r g↔g=b)∧Bx t.kd w K b (θ.sur r).1 (θ.sur r).2 x∧∀p∈ps,p.2<n∧w.cell? ⟨b,(θ.sur r).1.length+p.1,none⟩=some (θ.key p.2)
 | .ow e t x=>Own t.kd e w K x (θ.key r)∧∀g,θ.fp r g↔ob (θ.key r)=some g
 | .rw e t x=>RwX e t w K x (θ.sur r) (θ.key r) (θ.fp r)
 | .mp kk kv m nn=>Mp kk.kd kv.kd w K m (θ.key r)∧(∀g,θ.fp r g↔mb (θ.key r)=some g)∧(nn=true→∃b,θ.key r= .map (some b))
 | .bk e x=>qaE e w K (θ.key r) (θ.fp r) x
 | .cl N l=> ∃(b:Nat) (vs:List Value),θ.key r= .pointer (some ⟨b,0,none⟩)∧(∀g,θ.fp r g↔g=b)∧Bx (Kd.arr N Kd.vptr) w K b [] [] vs∧∀l',l=some l'→SVal.relL θ n K l' vs
theorem qhf {X:Nat→Prop} {w w':World} {K K':Ghost} (hE:Ext X w K w' K') {b o:Nat} (hb:b<w.heap.size) (hX: ¬X b):w'.cell? ⟨b,o,none⟩=w.cell? ⟨b,o,none⟩:=by
 unfold World.cell?
 rw [hE.heap b hb hX]
theorem Res.sat.lt {θ:Th} {r n:Nat} {w:World} {K:Ghost}: ∀ {R:Res},R.sat θ r n w K→∀g,θ.fp r g→g<w.heap.size
 | .bx t x ps,⟨b,hk,hf,hB,hp⟩,g,hg=>by rw [(hf g).1 hg];exact hB.lt
 | .ow e t x,h,g,hg=>h.1.lt g ((h.2 g).1 hg)
 | .rw e t x,h,g,hg=>RwX.lt h g hg
 | .mp kk kv m nn,h,g,hg=>h.1.lt g ((h.2.1 g).1 hg)
 | .bk e x,h,g,hg=>qaE.lt h g hg
 | .cl N l,⟨b,vs,hk,hf,hB,_⟩,g,hg=>by rw [(hf g).1 hg];exact hB.lt
theorem Res.sat.ext {θ θ':Th} {r n n':Nat} {w w':World} {K K':Ghost} {X:Nat→Prop} (ht:θ.upto θ' n) (hr:r<n) (hf:θ'.fp r=θ.fp r) (hn:n≤n') (hE:Ext X w K w' K') (hX: ∀g,θ.fp r g→¬X g): ∀ {R:Res},R.sat θ r n w K→R.sat θ' r n' w' K'
 | .bx t x ps,⟨b,hk,hfb,hB,hp⟩=>by
   have hXb: ¬X b:=hX b ((hfb b).2 rfl)
   refine ⟨b,by rw [(ht r hr).1,(ht r hr).2];exact hk,by rw [hf];exact hfb,by rw [(ht r hr).2];exact hB.ext hE hXb,fun p hpm=>⟨Nat.lt_of_lt_of_le (hp p hpm).1 hn,?_⟩⟩
   rw [(ht r hr).2,qhf hE hB.lt hXb,(ht _ (hp p hpm).1).1]
   exact (hp p hpm).2
 | .ow e t x,h=>by
   refine ⟨?_,?_⟩
   ·rw [(ht r hr).1];exact h.1.ext hE (fun g hg=>hX g ((h.2 g).2 hg))
   ·rw [hf,(ht r hr).1];exact h.2
 | .rw e t x,h=>by
   show RwX e t w' K' x (θ'.sur r) (θ'.key r) (θ'.fp r)
   rw [hf,(ht r hr).1,(ht r hr).2]
   exact RwX.ext h hE hX
 | .mp kk kv m nn,h=>by
   refine ⟨?_,?_,?_⟩
   ·rw [(ht r hr).1];exact h.1.ext hE (fun g hg=>hX g ((h.2.1 g).2 hg))
   ·rw [hf,(ht r hr).1];exact h.2.1
   ·rw [(ht r hr).1];exact h.2.2
 | .bk e x,h=>by
   show qaE e w' K' (θ'.key r) (θ'.fp r) x
   rw [hf,(ht r hr).1]
   exact qaE.ext h hE hX
 | .cl N l,⟨b,vs,hk,hfb,hB,hl⟩=>by
   have hXb: ¬X b:=hX b ((hfb b).2 rfl)
   exact ⟨b,vs,by rw [(ht r hr).1];exact hk,by rw [hf];exact hfb,hB.ext hE hXb,fun l' e=>SVal.relL.mono ht hn hE.le (hl l' e)⟩
inductive Org where
 | new | par (j:Nat) | ro
 deriving DecidableEq
structure RE where
 r:Res
 org:Org
 lk:Bool
structure St where
 env:Nat→Option SVal
 res:Nat→Option RE
 nx:Nat
structure Glob where
 w0:World
 K0:Ghost
 X:Nat→Prop
 F0:Nat→Nat→Prop
 hX: ∀j g,F0 j g→X g
 Kb:Ghost
 θb:Th
 nb:Nat
 frz:Nat→Option RE
def Org.ok (G:Glob) (f:Nat→Prop):Org→Prop
 | .new=> ∀g,f g→G.w0.heap.size≤g
 | .par j=> ∀g,f g→G.F0 j g∨G.w0.heap.size≤g
 | .ro=>True
structure Rel (G:Glob) (s:St) (θ:Th) (ρ:Env) (w:World) (K:Ghost):Prop where
 mod:Models w K
 ext:Ext G.X G.w0 G.K0 w K
 kle:G.Kb.le K
 old:G.θb.upto θ G.nb
 nbx:G.nb≤s.nx
 frz: ∀r e,G.frz r=some e→s.res r=some e∧θ.fp r=G.θb.fp r
 env: ∀t v,s.env t=some v→v.rel θ s.nx K (ρ t)
 res: ∀r e,s.res r=some e→r<s.nx∧e.r.sat θ r s.nx w K∧e.org.ok G (θ.fp r)
 sep: ∀r r' e e',s.res r=some e→s.res r'=some e'→r≠r'→∀g,θ.fp r g→¬θ.fp r' g
end Go.Inc

set_option linter.unusedVariables false
namespace Go.Inc
open Go Go.RowKit
def St.put (s:St) (q:Nat) (e:RE):St:={ s with res:=fun r=>bif Nat.beq r q then some e else s.res r }
def St.del (s:St) (q:Nat):St:={ s with res:=fun r=>bif Nat.beq r q then none else s.res r }
def St.add (s:St) (e:RE):St:={ s with res:=fun r=>bif Nat.beq r s.nx then some e else s.res r,nx:=s.nx+1 }
def St.set (s:St) (d:Nat) (v:SVal):St:={ s with env:=fun t=>bif Nat.beq t d then some v else s.env t }
def St.setO (s:St):Option Nat→SVal→St
 | some d,v=>s.set d v
 | none,_=>s
def St.unset (s:St) (d:Nat):St:={ s with env:=fun t=>bif Nat.beq t d then none else s.env t }
def St.unsetO (s:St):Option Nat→St
 | some d=>s.unset d
 | none=>s
def Th.set (θ:Th) (q:Nat) (v:Value) (F:Nat→Prop) (u:List Value×List Value):Th:=⟨fun r=>bif Nat.beq r q then v else θ.key r,fun r=>bif Nat.beq r q then F else θ.fp r,fun r=>bif Nat.beq r q then u else θ.sur r⟩
theorem qbU {a b:Nat} (h:a≠b):Nat.beq a b=false:=by
 cases hb:Nat.beq a b with
 | true=>exact absurd (Nat.eq_of_beq_eq_true hb) h
 | false=>rfl
section
variable {θ:Th} {q r n:Nat} {v:Value} {F:Nat→Prop} {s:St} {e:RE} {u:List Value×List Value}
theorem Th.set_key:(θ.set q v F u).key q=v:=by simp [Th.set]
theorem Th.set_fp:(θ.set q v F u).fp q=F:=by simp [Th.set]
theorem Th.set_key_ne (h:r≠q):(θ.set q v F u).key r=θ.key r:=by simp [Th.set,qbU h]
theorem Th.set_fp_ne (h:r≠q):(θ.set q v F u).fp r=θ.fp r:=by simp [Th.set,qbU h]
theorem Th.set_sur:(θ.set q v F u).sur q=u:=by simp [Th.set]
theorem Th.set_sur_ne (h:r≠q):(θ.set q v F u).sur r=θ.sur r:=by simp [Th.set,qbU h]
theorem Th.set_upto (h:n≤q):θ.upto (θ.set q v F u) n:=fun r hr=>⟨Th.set_key_ne (by omega),Th.set_sur_ne (by omega)⟩
theorem Th.set_upto' (h:v=θ.key q) (h':u=θ.sur q):θ.upto (θ.set q v F u) n:=fun r hr=>by
 by_cases he:r=q
 ·subst he;rw [Th.set_key,Th.set_sur];exact ⟨h,h'⟩
 ·exact ⟨Th.set_key_ne he,Th.set_sur_ne he⟩
theorem St.put_same:(s.put q e).res q=some e:=by simp [St.put]
theorem St.put_ne (h:r≠q):(s.put q e).res r=s.res r:=by simp [St.put,qbU h]
theorem St.del_same:(s.del q).res q=none:=by simp [St.del]
theorem St.del_ne (h:r≠q):(s.del q).res r=s.res r:=by simp [St.del,qbU h]
theorem St.add_same:(s.add e).res s.nx=some e:=by simp [St.add]
theorem St.add_ne (h:r≠s.nx):(s.add e).res r=s.res r:=by simp [St.add,qbU h]
end
def RE.free (e:RE):Prop:=e.lk=false∧e.org≠ .ro
structure Glob.fine (G:Glob):Prop where
 lk: ∀r e,G.frz r=some e→e.lk=true
section
variable {G:Glob} {s s':St} {θ θ':Th} {ρ:Env} {w w':World} {K K':Ghost}
theorem Org.turn {o:Org} {f:Nat→Prop} (h:o.ok G f) (ho:o≠ .ro) {g:Nat} (hg:f g) (hlt:g<G.w0.heap.size):G.X g:=by
 cases o with
 | new=>exact absurd hlt (Nat.not_lt.2 (h g hg))
 | par j=>rcases h g hg with h | h
          ·exact G.hX j g h
          ·exact absurd hlt (Nat.not_lt.2 h)
 | ro=>exact absurd rfl ho
theorem Rel.step (h:Rel G s θ ρ w K) (hG:G.fine) {T:Nat→Prop}
 (hT: ∀r,T r→∃e,s.res r=some e∧e.free) (hE:Ext (fun g=> ∃r,T r∧θ.fp r g) w K w' K') (hM:Models w' K')
 (hn:s.nx≤s'.nx) (ht:θ.upto θ' s.nx) (henv:s'.env=s.env)
 (hkeep: ∀r e,s'.res r=some e→r<s.nx→¬T r→s.res r=some e∧θ'.fp r=θ.fp r)
 (hlk: ∀r e,s.res r=some e→e.lk=true→s'.res r=some e)
 (hnew: ∀r e,s'.res r=some e→(T r∨s.nx≤r)→r<s'.nx∧e.r.sat θ' r s'.nx w' K'∧e.org.ok G (θ'.fp r)∧∀g,θ'.fp r g→(∃q,T q∧θ.fp q g)∨w.heap.size≤g)
 (hsep: ∀r r' e e',s'.res r=some e→s'.res r'=some e'→(T r∨s.nx≤r)→(T r'∨s.nx≤r')→r≠r'→∀g,θ'.fp r g→¬θ'.fp r' g):Rel G s' θ' ρ w' K':=by
 classical
 have notC: ∀ {r},¬(T r∨s.nx≤r)→r<s.nx∧¬T r:=fun {r} h=>⟨Nat.lt_of_not_le fun hh=>h (.inr hh),fun hh=>h (.inl hh)⟩
 have hcross: ∀r r' e e',s'.res r=some e→s'.res r'=some e'→¬(T r∨s.nx≤r)→(T r'∨s.nx≤r')→∀g,θ'.fp r g→¬θ'.fp r' g:=fun r r' e e' h1 h2 hc hc' g hg hg'=>by
  obtain ⟨c1,c2⟩:=notC hc
  obtain ⟨k1,k3⟩:=hkeep r e h1 c1 c2
  rw [k3] at hg
  rcases (hnew r' e' h2 hc').2.2.2 g hg' with ⟨q,hq,hqg⟩ | hge
  ·obtain ⟨eq,hqr,_⟩:=hT q hq
   exact h.sep r q e eq k1 hqr (fun he=>c2 (he▸hq)) g hg hqg
  ·exact absurd ((h.res r e k1).2.1.lt g hg) (Nat.not_lt.2 hge)
 refine ⟨hM,h.ext.comp hE ?_,h.kle.trans hE.le,h.old.trans ht h.nbx,Nat.le_trans h.nbx hn,?_,?_,?_,?_⟩
 ·rintro g ⟨r,hr,hg⟩ hlt
  obtain ⟨e,he,hf⟩:=hT r hr
  exact Org.turn (h.res r e he).2.2 hf.2 hg hlt
 ·intro r e hr
  obtain ⟨f1,f2⟩:=h.frz r e hr
  have hl:=hG.lk r e hr
  have hs:=hlk r e f1 hl
  have hnT: ¬T r:=fun ht=>by
   obtain ⟨e',he',hf⟩:=hT r ht
   rw [f1] at he'
   cases he'
   rw [hf.1] at hl
   cases hl
  exact ⟨hs,(hkeep r e hs (h.res r e f1).1 hnT).2.trans f2⟩
 ·intro t v hv
  rw [henv] at hv
  exact (h.env t v hv).mono ht hn hE.le
 ·intro r e hr
  by_cases hc:T r∨s.nx≤r
  ·obtain ⟨h1,h2,h3,h4⟩:=hnew r e hr hc
   exact ⟨h1,h2,h3⟩
  ·obtain ⟨c1,c2⟩:=notC hc
   obtain ⟨k1,k3⟩:=hkeep r e hr c1 c2
   obtain ⟨r1,r2,r3⟩:=h.res r e k1
   refine ⟨Nat.lt_of_lt_of_le r1 hn,r2.ext ht r1 k3 hn hE ?_,by rw [k3];exact r3⟩
   rintro g hg ⟨q,hq,hqg⟩
   obtain ⟨eq,hqr,_⟩:=hT q hq
   exact h.sep r q e eq k1 hqr (fun he=>c2 (he▸hq)) g hg hqg
 ·intro r r' e e' h1 h2 hne g hg hg'
  by_cases hc:T r∨s.nx≤r<;>by_cases hc':T r'∨s.nx≤r'
  ·exact hsep r r' e e' h1 h2 hc hc' hne g hg hg'
  ·exact hcross r' r e' e h2 h1 hc' hc g hg' hg
  ·exact hcross r r' e e' h1 h2 hc hc' g hg hg'
  ·obtain ⟨c1,c2⟩:=notC hc
   obtain ⟨c3,c4⟩:=notC hc'
   obtain ⟨k1,k3⟩:=hkeep r e h1 c1 c2
   obtain ⟨k4,k6⟩:=hkeep r' e' h2 c3 c4
   rw [k3] at hg
   rw [k6] at hg'
   exact h.sep r r' e e' k1 k4 hne g hg hg'
theorem Rel.stay (h:Rel G s θ ρ w K) (hG:G.fine) (hE:Ext NX w K w' K') (hM:Models w' K'):Rel G s θ ρ w' K':=by
 have no: ∀r e,s.res r=some e→¬(False∨s.nx≤r):=fun r e hr hh=>hh.elim (fun h=>h) (fun hh=>absurd (h.res r e hr).1 (by omega))
 exact h.step hG (T:=fun _=>False) (fun _ h=>h.elim) (hE.weak fun _ _ h=>h.elim) hM (Nat.le_refl _) (Th.upto.refl _ _) rfl (fun r e hr _ _=>⟨hr,rfl⟩) (fun r e hr _=>hr) (fun r e hr hc=>absurd hc (no r e hr)) (fun r r' e e' hr _ hc _=>absurd hc (no r e hr))
theorem Rel.add (h:Rel G s θ ρ w K) (hG:G.fine) (hE:Ext NX w K w' K') (hM:Models w' K') {R:Res} {v:Value} {F:Nat→Prop} {u:List Value×List Value} (hs:R.sat (θ.set s.nx v F u) s.nx (s.nx+1) w' K') (hF: ∀g,F g→w.heap.size≤g):
 Rel G (s.add ⟨R,.new,false⟩) (θ.set s.nx v F u) ρ w' K':=by
 have pos: ∀r e,(s.add ⟨R,.new,false⟩).res r=some e→(False∨s.nx≤r)→r=s.nx:=fun r e hr hc=>by
  by_cases he:r=s.nx
  ·exact he
  ·rw [St.add_ne he] at hr
   exact absurd (h.res r e hr).1 (by rcases hc with hc | hc;exact hc.elim;omega)
 refine h.step hG (T:=fun _=>False) (fun _ h=>h.elim) (hE.weak fun _ _ h=>h.elim) hM (Nat.le_succ _) (Th.set_upto (Nat.le_refl _)) rfl ?_ ?_ ?_ ?_
 ·intro r e hr hc _
  rw [St.add_ne (Nat.ne_of_lt hc)] at hr
  exact ⟨hr,Th.set_fp_ne (Nat.ne_of_lt hc)⟩
 ·intro r e hr _
  rw [St.add_ne (Nat.ne_of_lt (h.res r e hr).1)]
  exact hr
 ·intro r e hr hc
  obtain rfl:=pos r e hr hc
  rw [St.add_same] at hr
  cases hr
  refine ⟨Nat.lt_succ_self _,hs,?_,?_⟩
  ·show ∀g,(θ.set s.nx v F u).fp s.nx g→_
   rw [Th.set_fp]
   exact fun g hg=>Nat.le_trans h.ext.size (hF g hg)
  ·rw [Th.set_fp]
   exact fun g hg=> .inr (hF g hg)
 ·intro r r' e e' hr hr' hc hc' hne
  exact absurd ((pos r e hr hc).trans (pos r' e' hr' hc').symm) hne
theorem qfe {o:Org} {f f':Nat→Prop} (h:o.ok G f) (hw:G.w0.heap.size≤w.heap.size) (hs: ∀g,f' g→f g∨w.heap.size≤g):o.ok G f':=by
 cases o with
 | new=>exact fun g hg=>(hs g hg).elim (h g) (Nat.le_trans hw)
 | par j=>exact fun g hg=>(hs g hg).elim (h g) (fun hx=> .inr (Nat.le_trans hw hx))
 | ro=>trivial
theorem Rel.put (h:Rel G s θ ρ w K) (hG:G.fine) {q:Nat} {e:RE} (hq:s.res q=some e) (hf:e.free) (hE:Ext (θ.fp q) w K w' K') (hM:Models w' K') {R:Res} {F:Nat→Prop} (hs:R.sat (θ.set q (θ.key q) F (θ.sur q)) q s.nx w' K') (hF: ∀g,F g→θ.fp q g∨w.heap.size≤g):
 Rel G (s.put q { e with r:=R }) (θ.set q (θ.key q) F (θ.sur q)) ρ w' K':=by
 have pos: ∀r e',(s.put q { e with r:=R }).res r=some e'→(r=q∨s.nx≤r)→r=q:=fun r e' hr hc=>by
  by_cases he:r=q
  ·exact he
  ·rw [St.put_ne he] at hr
   exact absurd (h.res r e' hr).1 (by rcases hc with hc | hc;exact absurd hc he;omega)
 refine h.step hG (T:=fun r=>r=q) (fun r hr=>⟨e,hr▸hq,hf⟩) (hE.weak fun g _ hg=>⟨q,rfl,hg⟩) hM (Nat.le_refl _) (Th.set_upto' rfl rfl) rfl ?_ ?_ ?_ ?_
 ·intro r e hr _ hc
  rw [St.put_ne hc] at hr
  exact ⟨hr,Th.set_fp_ne hc⟩
 ·intro r e' hr hl
  by_cases hc:r=q
  ·subst hc
   rw [hq] at hr
   cases hr
   rw [hf.1] at hl
   cases hl
  ·rw [St.put_ne hc];exact hr
 ·intro r e' hr hc
  obtain rfl:=pos r e' hr hc
  rw [St.put_same] at hr
  cases hr
  refine ⟨(h.res _ _ hq).1,hs,?_,?_⟩
  ·rw [Th.set_fp]
   exact qfe (h.res _ _ hq).2.2 h.ext.size hF
  ·rw [Th.set_fp]
   exact fun g hg=>(hF g hg).elim (fun hx=> .inl ⟨_,rfl,hx⟩) .inr
 ·intro r r' e e' hr hr' hc hc' hne
  exact absurd ((pos r e hr hc).trans (pos r' e' hr' hc').symm) hne
theorem Rel.del (h:Rel G s θ ρ w K) (hG:G.fine) {q:Nat} {e:RE} (hq:s.res q=some e) (hf:e.free) (hE:Ext (θ.fp q) w K w' K') (hM:Models w' K'):Rel G (s.del q) θ ρ w' K':=by
 have no: ∀r e',(s.del q).res r=some e'→¬(r=q∨s.nx≤r):=fun r e' hr hc=>by
  by_cases he:r=q
  ·subst he
   rw [St.del_same] at hr
   cases hr
  ·rw [St.del_ne he] at hr
   exact absurd (h.res r e' hr).1 (by rcases hc with hc | hc;exact absurd hc he;omega)
 refine h.step hG (T:=fun r=>r=q) (fun r hr=>⟨e,hr▸hq,hf⟩) (hE.weak fun g _ hg=>⟨q,rfl,hg⟩) hM (Nat.le_refl _) (Th.upto.refl _ _) rfl ?_ ?_ (fun r e hr hc=>absurd hc (no r e hr)) (fun r r' e e' hr _ hc _=>absurd hc (no r e hr))
 ·intro r e hr _ hc
  rw [St.del_ne hc] at hr
  exact ⟨hr,rfl⟩
 ·intro r e' hr hl
  by_cases hc:r=q
  ·subst hc
   rw [hq] at hr
   cases hr
   rw [hf.1] at hl
   cases hl
  ·rw [St.del_ne hc];exact hr
theorem Rel.mv (h:Rel G s θ ρ w K) (hG:G.fine) {q:Nat} {e:RE} (hq:s.res q=some e) (hf:e.free) (hE:Ext (θ.fp q) w K w' K') (hM:Models w' K') {R:Res} {v:Value} {F:Nat→Prop} {u:List Value×List Value} (hs:R.sat (θ.set s.nx v F u) s.nx (s.nx+1) w' K') (hF: ∀g,F g→θ.fp q g∨w.heap.size≤g):
 Rel G ((s.del q).add { e with r:=R }) (θ.set s.nx v F u) ρ w' K':=by
 have hlt:=(h.res _ _ hq).1
 have same:((s.del q).add { e with r:=R }).res s.nx=some { e with r:=R }:=St.add_same (s:=s.del q)
 have pos: ∀r e',((s.del q).add { e with r:=R }).res r=some e'→(r=q∨s.nx≤r)→r=s.nx:=fun r e' hr hc=>by
  by_cases he:r=s.nx
  ·exact he
  ·have he':r≠(s.del q).nx:=he
   rw [St.add_ne he'] at hr
   by_cases hrq:r=q
   ·subst hrq
    rw [St.del_same] at hr
    cases hr
   ·rw [St.del_ne hrq] at hr
    exact absurd (h.res r e' hr).1 (by rcases hc with hc | hc;exact absurd hc hrq;omega)
 refine h.step hG (T:=fun r=>r=q) (fun r hr=>⟨e,hr▸hq,hf⟩) (hE.weak fun g _ hg=>⟨q,rfl,hg⟩) hM (Nat.le_succ _) (Th.set_upto (Nat.le_refl _)) rfl ?_ ?_ ?_ ?_
 ·intro r e hr hc hq'
  have hc':r≠(s.del q).nx:=Nat.ne_of_lt hc
  rw [St.add_ne hc',St.del_ne hq'] at hr
  exact ⟨hr,Th.set_fp_ne hc'⟩
 ·intro r e' hr hl
  have h1:r≠(s.del q).nx:=Nat.ne_of_lt (h.res r e' hr).1
  rw [St.add_ne h1]
  by_cases hc:r=q
  ·subst hc
   rw [hq] at hr
   cases hr
   rw [hf.1] at hl
   cases hl
  ·rw [St.del_ne hc];exact hr
 ·intro r e' hr hc
  obtain rfl:=pos r e' hr hc
  rw [same] at hr
  cases hr
  refine ⟨Nat.lt_succ_self _,hs,?_,?_⟩
  ·rw [Th.set_fp]
   exact qfe (h.res _ _ hq).2.2 h.ext.size hF
  ·rw [Th.set_fp]
   exact fun g hg=>(hF g hg).elim (fun hx=> .inl ⟨_,rfl,hx⟩) .inr
 ·intro r r' e e' hr hr' hc hc' hne
  exact absurd ((pos r e hr hc).trans (pos r' e' hr' hc').symm) hne
structure Moved (s s':St) (θ θ':Th) (w:World) (tn:List Nat):Prop where
 nx:s.nx≤s'.nx
 from_: ∀r e',s'.res r=some e'→(θ'.fp r=θ.fp r∧∃e,s.res r=some e)∨((r∈tn∨s.nx≤r)∧∀g,θ'.fp r g→(∃q∈tn,θ.fp q g)∨w.heap.size≤g)
theorem Moved.refl {tn:List Nat}:Moved s s θ θ w tn:=⟨Nat.le_refl _,fun r e hr=> .inl ⟨rfl,e,hr⟩⟩
theorem Moved.add {tn:List Nat} {e:RE} {v:Value} {F:Nat→Prop} {u:List Value×List Value} (hF: ∀g,F g→w.heap.size≤g):Moved s (s.add e) θ (θ.set s.nx v F u) w tn:=by
 refine ⟨Nat.le_succ _,fun r e' hr=>?_⟩
 by_cases he:r=s.nx
 ·subst he
  refine .inr ⟨.inr (Nat.le_refl _),?_⟩
  rw [Th.set_fp]
  exact fun g hg=> .inr (hF g hg)
 ·rw [St.add_ne he] at hr
  exact .inl ⟨Th.set_fp_ne he,e',hr⟩
theorem Moved.put {q:Nat} {tn:List Nat} (hq:q∈tn) {e:RE} {v:Value} {F:Nat→Prop} {u:List Value×List Value} (hF: ∀g,F g→θ.fp q g∨w.heap.size≤g):Moved s (s.put q e) θ (θ.set q v F u) w tn:=by
 refine ⟨Nat.le_refl _,fun r e' hr=>?_⟩
 by_cases he:r=q
 ·subst he
  refine .inr ⟨.inl hq,?_⟩
  rw [Th.set_fp]
  exact fun g hg=>(hF g hg).imp (fun h=>⟨r,hq,h⟩) (fun h=>h)
 ·rw [St.put_ne he] at hr
  exact .inl ⟨Th.set_fp_ne he,e',hr⟩
theorem Moved.del {q:Nat} {tn:List Nat}:Moved s (s.del q) θ θ w tn:=by
 refine ⟨Nat.le_refl _,fun r e' hr=>?_⟩
 by_cases he:r=q
 ·subst he
  rw [St.del_same] at hr
  cases hr
 ·rw [St.del_ne he] at hr
  exact .inl ⟨rfl,e',hr⟩
theorem Moved.mv {q:Nat} {tn:List Nat} (hq:q∈tn) {e:RE} {v:Value} {F:Nat→Prop} {u:List Value×List Value} (hF: ∀g,F g→θ.fp q g∨w.heap.size≤g):Moved s ((s.del q).add e) θ (θ.set s.nx v F u) w tn:=by
 refine ⟨Nat.le_succ _,fun r e' hr=>?_⟩
 by_cases he:r=s.nx
 ·subst he
  refine .inr ⟨.inr (Nat.le_refl _),?_⟩
  rw [Th.set_fp]
  exact fun g hg=>(hF g hg).imp (fun h=>⟨q,hq,h⟩) (fun h=>h)
 ·have he':r≠(s.del q).nx:=he
  rw [St.add_ne he'] at hr
  by_cases hrq:r=q
  ·subst hrq
   rw [St.del_same] at hr
   cases hr
  ·rw [St.del_ne hrq] at hr
   exact .inl ⟨Th.set_fp_ne he,e',hr⟩
theorem Moved.thenAdd {s1:St} {θ1:Th} {tn:List Nat} (h:Moved s s1 θ θ1 w tn) (hn:s.nx≤s1.nx) {e:RE} {v:Value} {F:Nat→Prop} {u:List Value×List Value} (hF: ∀g,F g→w.heap.size≤g):Moved s (s1.add e) θ (θ1.set s1.nx v F u) w tn:=by
 refine ⟨Nat.le_trans hn (Nat.le_succ _),fun r e' hr=>?_⟩
 by_cases he:r=s1.nx
 ·subst he
  refine .inr ⟨.inr hn,?_⟩
  rw [Th.set_fp]
  exact fun g hg=> .inr (hF g hg)
 ·rw [St.add_ne he] at hr
  rw [Th.set_fp_ne he]
  exact h.from_ r e' hr
theorem Rel.set (h:Rel G s θ ρ w K) {d:Nat} {v:SVal} {u:Value} (hv:v.rel θ s.nx K u):Rel G (s.set d v) θ (upd ρ d u) w K:=
 ⟨h.mod,h.ext,h.kle,h.old,h.nbx,h.frz,fun t x hx=>by
   by_cases he:t=d
   ·subst he
    simp only [St.set,Nat.beq_refl,cond_true] at hx
    cases hx
    rw [qfh];exact hv
   ·simp only [St.set,qbU he,cond_false] at hx
    rw [qgO _ _ he];exact h.env t x hx,h.res,h.sep⟩
theorem Rel.setO (h:Rel G s θ ρ w K) {d:Option Nat} {v:SVal} {u:Value} (hv:v.rel θ s.nx K u):Rel G (s.setO d v) θ (updO ρ d u) w K:=by
 cases d with
 | none=>exact h
 | some d=>exact h.set hv
theorem Rel.unset (h:Rel G s θ ρ w K) {d:Nat} {u:Value}:Rel G (s.unset d) θ (upd ρ d u) w K:=
 ⟨h.mod,h.ext,h.kle,h.old,h.nbx,h.frz,fun t x hx=>by
   by_cases he:t=d
   ·subst he
    simp only [St.unset,Nat.beq_refl,cond_true] at hx
    cases hx
   ·simp only [St.unset,qbU he,cond_false] at hx
    rw [qgO _ _ he];exact h.env t x hx,h.res,h.sep⟩
theorem Rel.unsetO (h:Rel G s θ ρ w K) {d:Option Nat} {u:Value}:Rel G (s.unsetO d) θ (updO ρ d u) w K:=by
 cases d with
 | none=>exact h
 | some d=>exact h.unset
theorem St.setO_res {d:Option Nat} {v:SVal}:(s.setO d v).res=s.res:=by cases d<;>rfl
end
end Go.Inc

set_option linter.unusedVariables false
namespace Go.Inc
open Go Go.RowKit
structure Seat where
 P:Program
 tab:List (Nat×Bool×Ty×Nat)
 eqs:List (Nat×Ty×Nat)
 rws:List Nat
def inN (n:Nat):List Nat→Bool
 | []=>false
 | m::l=>Nat.beq m n || inN n l
def Seat.rwB (c:Seat) (e:Nat):Bool:=inN e c.rws
def qdU (t:Nat) (el:Bool):List (Nat×Bool×Ty×Nat)→Option (Ty×Nat)
 | []=>none
 | (t',e,k,b)::l=>bif Nat.beq t t' && (bif el then e else !e) then some (k,b) else qdU t el l
def qpI (t:Nat) (k:Ty):List (Nat×Bool×Ty×Nat)→Option Nat
 | []=>none
 | (t',e,k',b)::l=>bif Nat.beq t t' && decide (k'=k) then some b else qpI t k l
def qkg (t:Nat) (k:Ty):List (Nat×Ty×Nat)→Option Nat
 | []=>none
 | (t',k',m)::l=>bif Nat.beq t t' && decide (k'=k) then some m else qkg t k l
structure Seat.ok (c:Seat):Prop where
 tab: ∀e∈c.tab,TyOk c.P e.1 e.2.2.1.kd e.2.2.2
 eqs: ∀e∈c.eqs,@EqK _ c.P e.1 e.2.1.kd e.2.1.deq e.2.2
theorem Seat.ok.rows {c:Seat} (h:c.ok) (l:List Nat):Seat.ok { c with rws:=l }:=⟨h.tab,h.eqs⟩
def Seat.ty (c:Seat) (el:Bool) (t:Nat):Option (Ty×Nat):=match qdU t el c.tab with
 | some x=>some x
 | none=>bif el then qdU t false c.tab else none
def Seat.is (c:Seat) (t:Nat) (k:Ty):Option Nat:=qpI t k c.tab
section
variable {c:Seat}
theorem qdV {t:Nat} {el:Bool}: ∀ {l:List (Nat×Bool×Ty×Nat)} {k:Ty} {b:Nat},qdU t el l=some (k,b)→∃e,(t,e,k,b)∈l
 | [],k,b,h=>by cases h
 | (t',e,k',b')::l,k,b,h=>by
   simp only [qdU] at h
   cases hb:(Nat.beq t t' && (bif el then e else !e)) with
   | true=>
     rw [hb] at h
     cases h
     simp only [Bool.and_eq_true] at hb
     obtain rfl:=Nat.eq_of_beq_eq_true hb.1
     exact ⟨e,List.mem_cons_self⟩
   | false=>
     rw [hb] at h
     obtain ⟨e,h⟩:=qdV h
     exact ⟨e,List.mem_cons_of_mem _ h⟩
theorem Seat.ok.ty_ok (hc:c.ok) {el:Bool} {t:Nat} {k:Ty} {b:Nat} (h:c.ty el t=some (k,b)):TyOk c.P t k.kd b:=by
 unfold Seat.ty at h
 cases h1:qdU t el c.tab with
 | some x=>
   rw [h1] at h
   cases h
   obtain ⟨e,h⟩:=qdV h1
   exact hc.tab _ h
 | none=>
   rw [h1] at h
   cases el with
   | false=>cases h
   | true=>
     obtain ⟨e,h⟩:=qdV (show qdU t false c.tab=some (k,b) from h)
     exact hc.tab _ h
theorem qiy {t:Nat} {k:Ty}: ∀ {l:List (Nat×Bool×Ty×Nat)} {b:Nat},qpI t k l=some b→∃e,(t,e,k,b)∈l
 | [],b,h=>by cases h
 | (t',e,k',b')::l,b,h=>by
   simp only [qpI] at h
   cases hb:(Nat.beq t t' && decide (k'=k)) with
   | true=>
     rw [hb] at h
     cases h
     simp only [Bool.and_eq_true,decide_eq_true_eq] at hb
     obtain rfl:=Nat.eq_of_beq_eq_true hb.1
     obtain rfl:=hb.2
     exact ⟨e,List.mem_cons_self⟩
   | false=>
     rw [hb] at h
     obtain ⟨e,h⟩:=qiy h
     exact ⟨e,List.mem_cons_of_mem _ h⟩
theorem Seat.ok.is_ok (hc:c.ok) {t:Nat} {k:Ty} {b:Nat} (h:c.is t k=some b):TyOk c.P t k.kd b:=by
 obtain ⟨e,h⟩:=qiy h
 exact hc.tab _ h
theorem qgu {t:Nat} {k:Ty}: ∀ {l:List (Nat×Ty×Nat)} {m:Nat},qkg t k l=some m→(t,k,m)∈l
 | [],b,h=>by cases h
 | (t',k',m')::l,b,h=>by
   simp only [qkg] at h
   cases hb:(Nat.beq t t' && decide (k'=k)) with
   | true=>
     rw [hb] at h
     cases h
     simp only [Bool.and_eq_true,decide_eq_true_eq] at hb
     obtain rfl:=Nat.eq_of_beq_eq_true hb.1
     obtain rfl:=hb.2
     exact List.mem_cons_self
   | false=>
     rw [hb] at h
     exact List.mem_cons_of_mem _ (qgu h)
end
def wfB (ik:IntKind) (n:Int):Bool:=decide (ik.min≤n) && decide (n≤ik.max)
def qkb:Value→Option SVal
 | .int ik n=>bif wfB ik n then some (.lit ik n) else none
 | .bool b=>some (.bt b)
 | .string d=>bif Nat.ble d.data.toList.length LM then some (.str d.data.toList) else none
 | .pointer none=>some .nil
 | .slice none 0 0=>some .snil
 | .map none=>some .mnil
 | .nilFunc=>some .any
 | _=>none
def St.opd (s:St):Operand→Option SVal
 | .tmp t=>s.env t
 | .const v=>qkb v
 | .func f=>some (.fn f [])
 | .global _=>none
section
variable {G:Glob} {s:St} {θ:Th} {ρ:Env} {w:World} {K:Ghost} {n:Nat}
theorem qgt {v:Value} {sv:SVal} (h:qkb v=some sv):sv.rel θ n K v:=by
 unfold qkb at h
 split at h
 ·rename_i ik a
  cases hb:wfB ik a with
  | true=>
    rw [hb] at h
    cases h
    simp only [wfB,Bool.and_eq_true,decide_eq_true_eq] at hb
    exact ⟨rfl,hb⟩
  | false=>rw [hb] at h;cases h
 ·cases h;rfl
 ·rename_i d
  cases hb:Nat.ble d.data.toList.length LM with
  | true=>rw [hb] at h;cases h;exact ⟨rfl,Nat.le_of_ble_eq_true hb⟩
  | false=>rw [hb] at h;cases h
 ·cases h;rfl
 ·cases h;rfl
 ·cases h;rfl
 ·cases h;trivial
 ·cases h
theorem Rel.opd (h:Rel G s θ ρ w K) {x:Operand} {sv:SVal} (hx:s.opd x=some sv):sv.rel θ s.nx K (ev ρ x):=by
 cases x with
 | tmp t=>exact h.env t sv hx
 | const v=>exact qgt hx
 | func f=>cases hx;exact ⟨[],rfl,rfl⟩
 | global g=>cases hx
end
def SVal.asI:SVal→Option (IntKind×Int×Bool×Bool)
 | .lit ik n=>some (ik,n,true,false)
 | .int ik a lv=>some (ik,a,false,lv)
 | .byt c=>some (.u8,bI c,false,false)
 | _=>none
def SVal.asB:SVal→Option Bool
 | .bt b=>some b
 | .bv b=>some b
 | .boo p d=>some (@decide p d)
 | .nbo p d=>some (!@decide p d)
 | _=>none
def SVal.asS:SVal→Option (List UInt8)
 | .str l=>some l
 | _=>none
def SVal.to (sv:SVal) (t:Ty):Option t.den:=
 match t with
 | .int ik=>match sv.asI with
   | some (ik',a,_,_)=>if ik'=ik then some a else none
   | none=>none
 | .byte=>match sv with
   | .byt c=>some c
   | sv=>match sv.asI with
     | some (ik',a,_,_)=>if ik'= .u8 then some (toB a) else none
     | none=>none
 | .bool=>sv.asB
 | .str=>sv.asS
 | t=>match sv with
   | .val t' x=>if h:t'=t then some (Ty.cast h x) else none
   | .own _ t' x=>if h:Ty.sl t'=t then some (Ty.cast h x) else none
   | .pt t' x=>if h:Ty.ptr t'=t then some (Ty.cast h (some x)) else none
   | .nil=>match t with
     | .ptr t=>some none
     | _=>none
   | .snil=>match t with
     | .sl t=>some []
     | _=>none
   | .snl _ _ _=>match t with
     | .sl t=>some []
     | _=>none
   | _=>none
def SVal.of:(t:Ty)→t.den→SVal
 | .int ik,x=> .int ik x false
 | .byte,x=> .byt x
 | .bool,x=> .bv x
 | .str,x=> .str x
 | t,x=> .val t x
section
variable {θ:Th} {n:Nat} {K:Ghost} {v:Value}
theorem SVal.asI_rel {sv:SVal} {ik:IntKind} {a:Int} {l lv:Bool} (h:sv.asI=some (ik,a,l,lv)) (hr:sv.rel θ n K v):v= .int ik a∧(Kd.int ik).wf a:=by
 cases sv<;>simp only [SVal.asI,Option.some.injEq,Prod.mk.injEq,reduceCtorEq] at h
 ·obtain ⟨rfl,rfl,_⟩:=h;exact hr
 ·obtain ⟨rfl,rfl,_⟩:=h;exact hr
 ·obtain ⟨rfl,rfl,_⟩:=h;exact ⟨hr,qul _⟩
theorem SVal.asB_rel {sv:SVal} {b:Bool} (h:sv.asB=some b) (hr:sv.rel θ n K v):v= .bool b:=by
 cases sv<;>simp only [SVal.asB,Option.some.injEq,reduceCtorEq] at h<;>subst h<;>exact hr
theorem SVal.asS_rel {sv:SVal} {b:List UInt8} (h:sv.asS=some b) (hr:sv.rel θ n K v):v= .string ⟨b.toArray⟩∧b.length≤LM:=by
 cases sv<;>simp only [SVal.asS,Option.some.injEq,reduceCtorEq] at h
 subst h;exact hr
theorem qty {α:Type} {k:Kd α}:(Kd.sl k).V K [] (.slice none 0 0):=⟨_,(Kd.sl k).hz K,rfl⟩
theorem qhK {α:Type} {k:Kd α} {A:Option Addr}:(Kd.sl k).V K [] (.slice A 0 0):=⟨_,⟨A,0,rfl,by simp,by simp [LM],by simp,.inl rfl⟩,rfl⟩
theorem SVal.to_gen {sv:SVal} {t:Ty} {x:t.den} (h:(match sv with
 | .val t' x=>if h:t'=t then some (Ty.cast h x) else none
 | .own _ t' x=>if h:Ty.sl t'=t then some (Ty.cast h x) else none
 | .pt t' x=>if h:Ty.ptr t'=t then some (Ty.cast h (some x)) else none
 | .nil=>match t with
   | .ptr t=>some none
   | _=>none
 | .snil=>match t with
   | .sl t=>some []
   | _=>none
 | .snl _ _ _=>match t with
   | .sl t=>some []
   | _=>none
 | _=>none:Option t.den)=some x) (hr:sv.rel θ n K v):t.kd.V K x v:=by
 split at h
 ·split at h
  ·rename_i he;subst he;cases h;exact hr
  ·cases h
 ·split at h
  ·rename_i he;subst he;cases h;exact hr.2.1
  ·cases h
 ·split at h
  ·rename_i he;subst he;cases h;exact qtw hr
  ·cases h
 ·have hr':v= .pointer none:=hr
  split at h
  ·cases h;subst hr';exact qqk
  ·cases h
 ·have hr':v= .slice none 0 0:=hr
  split at h
  ·cases h;subst hr';exact qty
  ·cases h
 ·obtain ⟨A,hr',_⟩:=(show ∃A,v= .slice A 0 0∧_ from hr)
  split at h
  ·cases h;subst hr';exact qhK
  ·cases h
 ·cases h
theorem SVal.to_rel {sv:SVal}: ∀ {t:Ty} {x:t.den},sv.to t=some x→sv.rel θ n K v→t.kd.V K x v
 | .int ik,x,h,hr=>by
   simp only [SVal.to] at h
   split at h
   ·rename_i ik' a l lv he
    split at h
    ·rename_i hk
     subst hk
     cases h
     obtain ⟨rfl,hw⟩:=SVal.asI_rel he hr
     exact qe0 hw
    ·cases h
   ·cases h
 | .byte,x,h,hr=>by
   simp only [SVal.to] at h
   split at h
   ·cases h
    have hr':v= .int .u8 (bI _):=hr
    subst hr'
    exact bI_V
   ·split at h
    ·rename_i ik' a l lv he
     split at h
     ·rename_i hk
      subst hk
      cases h
      obtain ⟨rfl,hw⟩:=SVal.asI_rel he hr
      exact qtj hw
     ·cases h
    ·cases h
 | .bool,x,h,hr=>by
   have:=SVal.asB_rel (show sv.asB=some x from h) hr
   subst this
   exact qcp
 | .str,x,h,hr=>by
   obtain ⟨rfl,hw⟩:=SVal.asS_rel (show sv.asS=some x from h) hr
   exact qrP hw
 | .arr _ _,x,h,hr=>SVal.to_gen h hr
 | .sl _,x,h,hr=>SVal.to_gen h hr
 | .pr _ _,x,h,hr=>SVal.to_gen h hr
 | .st _,x,h,hr=>SVal.to_gen h hr
 | .un,x,h,hr=>SVal.to_gen h hr
 | .ptr _,x,h,hr=>SVal.to_gen h hr
 | .hsl _ _,x,h,hr=>SVal.to_gen h hr
 | .hmp _ _,x,h,hr=>SVal.to_gen h hr
 | .hpt,x,h,hr=>SVal.to_gen h hr
 | .hfn,x,h,hr=>SVal.to_gen h hr
 | .anm,x,h,hr=>SVal.to_gen h hr
theorem SVal.of_rel: ∀ {t:Ty} {x:t.den},t.kd.V K x v→(SVal.of t x).rel θ n K v
 | .int ik,x,h=>⟨qbk h,h.wf⟩
 | .byte,x,h=>qmM h
 | .bool,x,h=>qbP h
 | .str,x,h=>⟨qpG h,h.wf⟩
 | .arr _ _,x,h=>h
 | .sl _,x,h=>h
 | .pr _ _,x,h=>h
 | .st _,x,h=>h
 | .un,x,h=>h
 | .ptr _,x,h=>h
 | .hsl _ _,x,h=>h
 | .hmp _ _,x,h=>h
 | .hpt,x,h=>h
 | .hfn,x,h=>h
 | .anm,x,h=>h
end
inductive MV where
 | no
 | need (p:Prop) (k:MV)
 | all (α:Type) (k:α→MV)
 | imp (p:Prop) (k:MV)
 | alt (a b:MV)
 | pur (v:SVal)
 | hld (r:Option Nat) (v:SVal)
section
variable (P:Program) (o:Oper) (ρ:Env) (θ:Th) (n:Nat) (w:World) (K:Ghost)
def MV.snd:MV→Prop
 | .no=>True
 | .need p k=>p→k.snd
 | .all α k=> ∃x,(k x).snd
 | .imp p k=>p∧k.snd
 | .alt a b=>a.snd∨b.snd
 | .pur v=> ∃val,v.rel θ n K val∧∀w':World,(execOp (ev ρ) o).run P w'= .ok (.value val) w'
 | .hld r v=> ∃val,v.rel θ n K val∧∀Z:Nat→Prop,(∀q,r=some q→∀g,θ.fp q g→¬Z g)→∀w' K',Ext Z w K w' K'→Models w' K'→(execOp (ev ρ) o).run P w'= .ok (.value val) w'
end
def cmpV (l:Bool) (p:Prop) (d:Decidable p):SVal:=bif l then .bt (@decide p d) else .boo p d
theorem qdm {θ:Th} {n:Nat} {K:Ghost} {l:Bool} {p:Prop} {d:Decidable p}:(cmpV l p d).rel θ n K (.bool (@decide p d)):=by
 cases l<;>exact rfl
def ari (l:Bool) (ik:IntKind) (a:Int):SVal:=bif l then .lit ik (ik.wrap a) else .int ik (ik.wrap a) false
theorem qdH {θ:Th} {n:Nat} {K:Ghost} {l:Bool} {ik:IntKind} {a:Int}:(ari l ik a).rel θ n K (.int ik (ik.wrap a)):=by
 cases l<;>exact ⟨rfl,qcm _ _⟩
def qtP (b:BinOp) (ik:IntKind) (x y:Int) (lx ly vx:Bool):MV:=
 match b with
 | .lss=> .pur (cmpV (lx && ly) (x<y) inferInstance)
 | .leq=> .pur (cmpV (lx && ly) (x≤y) inferInstance)
 | .gtr=> .pur (cmpV (lx && ly) (y<x) inferInstance)
 | .geq=> .pur (cmpV (lx && ly) (y≤x) inferInstance)
 | .eql=> .pur (cmpV (lx && ly) (x=y) inferInstance)
 | .neq=> .pur (cmpV (lx && ly) (x≠y) inferInstance)
 | .add=>bif vx && ly && decide (ik= .i64) && decide (y=1) then .need (x<9223372036854775807) (.pur (.int ik (x+1) false)) else .pur (ari (lx && ly) ik (x+y))
 | .sub=> .pur (ari (lx && ly) ik (x - y))
 | .mul=> .pur (ari (lx && ly) ik (x *y))
 | .quo=>bif ly && decide (y≠0) then .pur (ari (lx && ly) ik (Int.tdiv x y)) else .need (y≠0) (.pur (ari false ik (Int.tdiv x y)))
 | .rem=>bif ly && decide (y≠0) then .pur (.int ik (Int.tmod x y) false) else .need (y≠0) (.pur (.int ik (Int.tmod x y) false))
 | .and=> .pur (.int ik (band ik x y) false)
 | .or=> .pur (.int ik (bor ik x y) false)
 | .xor=> .pur (.int ik (bxor ik x y) false)
 | _=> .no
def qkL (b:BinOp) (ik ik':IntKind) (x y:Int) (ly:Bool):MV:=
 match b with
 | .shl=>bif (ly && decide (0≤y)) || decide (0≤ik'.min) then .pur (.int ik (shl ik x y) false) else .need (0≤y) (.pur (.int ik (shl ik x y) false))
 | .shr=>bif (ly && decide (0≤y)) || decide (0≤ik'.min) then .pur (.int ik (shr ik x y) false) else .need (0≤y) (.pur (.int ik (shr ik x y) false))
 | _=> .no
section
variable {P:Program} {ρ:Env} {θ:Th} {n:Nat} {w:World} {K:Ghost} {ik ik':IntKind} {a b:Int} {x y:Operand}
variable {dst:Option Tmp} {ty:TypeId} {pos:String} {af:Array Edge} {g:Option (Nat×Bool)} {t1 t2:TypeId}
theorem qad {o:Oper} {v:SVal} {val:Value} (hv:v.rel θ n K val) (hr: ∀w':World,(execOp (ev ρ) o).run P w'= .ok (.value val) w'):(MV.pur v).snd P o ρ θ n w K:=⟨val,hv,hr⟩
theorem qn1 {bo:BinOp} {lx ly vx:Bool} (hx:ev ρ x= .int ik a) (hy:ev ρ y= .int ik b) (hw:(Kd.int ik).wf a):(qtP bo ik a b lx ly vx).snd P ⟨dst,.binOp bo t1 x y t2,ty,pos,af,g⟩ ρ θ n w K:=by
 cases bo with
 | lss=>exact qad qdm fun w'=>qg2 hx hy
 | leq=>exact qad qdm fun w'=>qt2 hx hy
 | gtr=>exact qad qdm fun w'=>qsE hx hy
 | geq=>exact qad qdm fun w'=>qsB hx hy
 | eql=>exact qad qdm fun w'=>qt0 hx hy
 | neq=>exact qad qdm fun w'=>qt6 hx hy
 | add=>
   show MV.snd _ _ _ _ _ _ _ (bif _ then _ else _)
   cases hc:(vx && ly && decide (ik= .i64) && decide (b=1)) with
   | true=>
     simp only [Bool.and_eq_true,decide_eq_true_eq] at hc
     obtain ⟨⟨_,rfl⟩,rfl⟩:=hc
     intro hlt
     have hw':(Kd.int .i64).wf (a+1):=⟨Int.le_trans hw.1 (by omega),by show a+1≤9223372036854775807;omega⟩
     refine qad (val:= .int .i64 (a+1)) ⟨rfl,hw'⟩ fun w'=>?_
     rw [qk1 hx hy,qaw hw']
   | false=>exact qad qdH fun w'=>qk1 hx hy
 | sub=>exact qad qdH fun w'=>qq5 hx hy
 | mul=>exact qad qdH fun w'=>qt3 hx hy
 | quo=>
   show MV.snd _ _ _ _ _ _ _ (bif _ then _ else _)
   cases hc:(ly && decide (b≠0)) with
   | true=>
     simp only [Bool.and_eq_true,decide_eq_true_eq] at hc
     exact qad qdH fun w'=>qsJ hx hy hc.2
   | false=>exact fun hb=>qad qdH fun w'=>qsJ hx hy hb
 | rem=>
   show MV.snd _ _ _ _ _ _ _ (bif _ then _ else _)
   cases hc:(ly && decide (b≠0)) with
   | true=>
     simp only [Bool.and_eq_true,decide_eq_true_eq] at hc
     exact qad ⟨rfl,qnX hw⟩ fun w'=>qsK hx hy hc.2
   | false=>exact fun hb=>qad ⟨rfl,qnX hw⟩ fun w'=>qsK hx hy hb
 | and=>exact qad ⟨rfl,qcm _ _⟩ fun w'=>qtW hx hy
 | or=>exact qad ⟨rfl,qcm _ _⟩ fun w'=>R_or hx hy
 | xor=>exact qad ⟨rfl,qcm _ _⟩ fun w'=>qt8 hx hy
 | shl=>trivial
 | shr=>trivial
 | andNot=>trivial
theorem qeL {bo:BinOp} {ly:Bool} (hx:ev ρ x= .int ik a) (hy:ev ρ y= .int ik' b) (hw:(Kd.int ik).wf a) (hw':(Kd.int ik').wf b):(qkL bo ik ik' a b ly).snd P ⟨dst,.binOp bo t1 x y t2,ty,pos,af,g⟩ ρ θ n w K:=by
 cases bo with
 | shl=>
   show MV.snd _ _ _ _ _ _ _ (bif _ then _ else _)
   cases hc:(ly && decide (0≤b) || decide (0≤ik'.min)) with
   | true=>
     simp only [Bool.or_eq_true,Bool.and_eq_true,decide_eq_true_eq] at hc
     exact qad ⟨rfl,qcm _ _⟩ fun w'=>qsP hx hy (hc.elim (·.2) (fun h=>Int.le_trans h hw'.1))
   | false=>exact fun hb=>qad ⟨rfl,qcm _ _⟩ fun w'=>qsP hx hy hb
 | shr=>
   show MV.snd _ _ _ _ _ _ _ (bif _ then _ else _)
   cases hc:(ly && decide (0≤b) || decide (0≤ik'.min)) with
   | true=>
     simp only [Bool.or_eq_true,Bool.and_eq_true,decide_eq_true_eq] at hc
     exact qad ⟨rfl,qqo hw⟩ fun w'=>qsQ hx hy (hc.elim (·.2) (fun h=>Int.le_trans h hw'.1))
   | false=>exact fun hb=>qad ⟨rfl,qqo hw⟩ fun w'=>qsQ hx hy hb
 | _=>trivial
end
def qbI {a b:Ty} (h:a=b) (l:List a.den):List b.den:=h▸l
def qmP (s:St) (r:Nat) (t:Ty) (i:Int) (o:Nat):Option (Sigma fun q:Ty=>List q.den):=match s.res r with
 | some ⟨.rw e t' x,_,_⟩=>if h:t'=t then (bif Nat.blt e DPB then none else (match t.inn o with
   | some ⟨q,gt,_⟩=>some ⟨q,gt (ix (qbI h x) i)⟩
   | none=>none)) else none
 | _=>none
theorem qhr: ∀ {X:List (List Value)} {n:Nat} (_: ∀c∈X,c.length=n) (i o:Nat),o<n→X.flatten[i *n+o]?=(X[i]?).bind fun c=>c[o]?
 | [],n,h,i,o,ho=>by simp
 | c::X,n,h,0,o,ho=>by
   have hc:=h c (by simp)
   simp only [List.flatten_cons,Nat.zero_mul,Nat.zero_add,List.getElem?_cons_zero,Option.bind_some]
   rw [List.getElem?_append_left (by omega)]
 | c::X,n,h,i+1,o,ho=>by
   have hc:=h c (by simp)
   rw [List.flatten_cons,List.getElem?_append_right (by rw [hc,Nat.add_mul];omega),List.getElem?_cons_succ]
   have e:(i+1) *n+o - c.length=i *n+o:=by rw [hc,Nat.add_mul];omega
   rw [e]
   exact qhr (fun d hd=>h d (by simp [hd])) i o ho
theorem qqg: ∀ {t:Ty} {o:Nat} {z},t.inn o=some z→o<t.kd.sz:=by
 intro t
 induction t with
 | sl t _=>
   intro o z hi
   cases o with
   | zero=>exact Nat.lt_succ_self 0
   | succ o=>cases hi
 | pr a b iha ihb=>
   intro o z hi
   show o<a.kd.sz+b.kd.sz
   simp only [Ty.inn] at hi
   cases hb:Nat.blt o a.kd.sz with
   | true=>have:o<a.kd.sz:=Nat.le_of_ble_eq_true hb;omega
   | false=>
     rw [hb] at hi
     simp only [cond_false] at hi
     split at hi
     ·rename_i hi'
      have:=ihb hi'
      omega
     ·cases hi
 | st a ih=>intro o z hi;exact @ih o z hi
 | _=>intro o z hi;cases hi
section
variable {G:Glob} {s:St} {θ:Th} {ρ:Env} {w:World} {K:Ghost}
theorem qmQ (h:Rel G s θ ρ w K) {r:Nat} {t:Ty} {i:Int} {o:Nat} {v:Value} (hr:(SVal.din r t i o).rel θ s.nx K v) {e:Nat} {x:List t.den} {org:Org} {lk:Bool} (hres:s.res r=some ⟨.rw e t x,org,lk⟩) (he:Nat.blt e DPB=false) {q:Ty} {gt:t.den→List q.den} {pt:t.den→List q.den→t.den} (hi:t.inn o=some ⟨q,gt,pt⟩):
 i.toNat<x.length∧∃X F' e',DP (e - DPB) t w K x (θ.sur r).1 (θ.key r) (θ.fp r) X F'∧Rw q.kd e' w K (gt (ix x i)) v∧(∀g,ob v=some g→F' g)∧∀w' K' y,Ext (fun g=>ob v=some g) w K w' K'→Rw q.kd e' w' K' y v→DP (e - DPB) t w' K' (x.set i.toNat (pt (ix x i) y)) (θ.sur r).1 (θ.key r) (θ.fp r) X F':=by
 have hs:=(h.res _ _ hres).2.1
 have hs':RwX e t w K x (θ.sur r) (θ.key r) (θ.fp r):=hs
 rw [RwX.deep he] at hs'
 obtain ⟨X,F',hD⟩:=hs'
 obtain ⟨_,hv⟩:=hr
 have hX: ∀c∈X,c.length=t.kd.sz:=hD.hd.wf.2
 rw [hD.cs,qhr hX _ _ (qqg hi)] at hv
 have hlt:i.toNat<x.length:=by
  rw [hD.el.len]
  cases hc:X[i.toNat]? with
  | none=>rw [hc] at hv;cases hv
  | some c=>exact (List.getElem?_eq_some_iff.1 hc).1
 obtain ⟨c,F1,a1,a2,a3,a4⟩:=DRL.get i.toNat hlt hD.el
 obtain ⟨e',v',b1,b2,b3,b4⟩:=a2.inn hi
 rw [a1,Option.bind_some,b1] at hv
 cases hv
 refine ⟨hlt,X,F',e',hD,by rw [qaR hlt];exact b2,fun g hg=>a3 g (b3 g hg),fun w' K' y hE hy=>⟨hD.cs,hD.hd.ext hE (fun g hg hq=>hD.ap g (a3 g (b3 g hq)) hg),?_,hD.ap,hD.fp⟩⟩
 rw [qaR hlt]
 exact a4 w' K' _ ⟨_,hE,b3⟩ (b4 w' K' y hE hy)
theorem qi8 (h:Rel G s θ ρ w K) {r:Nat} {t:Ty} {i:Int} {o:Nat} {v:Value} (hr:(SVal.din r t i o).rel θ s.nx K v) {q:Ty} {l:List q.den} (hd:qmP s r t i o=some ⟨q,l⟩): ∃e',Rw q.kd e' w K l v∧∀g,ob v=some g→θ.fp r g:=by
 unfold qmP at hd
 split at hd
 ·rename_i e t' x org lk hres
  split at hd
  ·rename_i ht
   subst ht
   cases he:Nat.blt e DPB with
   | true=>rw [he] at hd;cases hd
   | false=>
     rw [he] at hd
     simp only [cond_false] at hd
     split at hd
     ·rename_i q' gt pt hi
      cases hd
      obtain ⟨_,X,F',e',hD,h1,h2,_⟩:=qmQ h hr hres he hi
      exact ⟨e',h1,fun g hg=>(hD.fp g).2 (.inr (h2 g hg))⟩
     ·cases hd
  ·cases hd
 ·cases hd
end
end Go.Inc

set_option linter.unusedVariables false
namespace Go.Inc
open Go Go.RowKit
def vStr (c:Seat) (b:BinOp) (t:TypeId) (x y:List UInt8):MV:=
 match c.P.underlying t with
 | some .string=>match b with
   | .eql=> .pur (.boo (x=y) inferInstance)
   | .neq=> .pur (.boo (x≠y) inferInstance)
   | .lss=> .pur (.bv (sless x y))
   | .gtr=> .pur (.bv (!(sless x y || decide (x=y))))
   | .leq=> .pur (.bv (sless x y || decide (x=y)))
   | .geq=> .pur (.bv (!sless x y))
   | .add=> .need (x.length+y.length≤LM) (.pur (.str (x++y)))
   | _=> .no
 | _=> .no
def qrW (c:Seat) (b:BinOp) (t:TypeId) (x y:Bool):MV:=
 match c.P.underlying t with
 | some .bool=>match b with
   | .eql=> .pur (.boo (x=y) inferInstance)
   | .neq=> .pur (.boo (x≠y) inferInstance)
   | _=> .no
 | _=> .no
def vEq (c:Seat) (b:BinOp) (t:TypeId) (k:Ty) (x:k.den) (Y:SVal):MV:=
 match qkg t k c.eqs,Y.to k with
 | some m,some y=>bif Nat.ble m 10000 && k.kd.agg && !(c.P.eqGuardType c.P.depth t) then (match b with
   | .eql=> .pur (.boo (x=y) (k.deq x y))
   | .neq=> .pur (.boo (x≠y) (@instDecidableNot _ (k.deq x y)))
   | _=> .no) else .no
 | _,_=> .no
def qpp (c:Seat) (t:TypeId):Bool:=match c.P.underlying t with
 | some (.pointer _)=>true
 | _=>false
def isSl (c:Seat) (t:TypeId):Bool:=match c.P.underlying t with
 | some (.slice _)=>true
 | _=>false
def qpn (c:Seat) (t:TypeId):Bool:=match c.P.underlying t with
 | some (.map _ _)=>true
 | _=>false
def qik (b:BinOp) (x:Bool):MV:=match b with
 | .eql=> .pur (.bt x)
 | .neq=> .pur (.bt (!x))
 | _=> .no
def vNil (c:Seat) (s:St) (b:BinOp) (t:TypeId) (X Y:SVal):MV:=
 match Y with
 | .nil=>bif qpp c t then (match X with
   | .nil=>qik b true
   | .pt _ _=>qik b false
   | .box _ _ _ _=>qik b false
   | .val (.ptr _) x=>(match b with
     | .eql=> .pur (.bv x.isNone)
     | .neq=> .pur (.bv x.isSome)
     | _=> .no)
   | .obj r=>(match s.res r with
     | some ⟨.bk _ x,_,_⟩=>(match b with
       | .eql=> .pur (.bv x.isNone)
       | .neq=> .pur (.bv x.isSome)
       | _=> .no)
     | _=> .no)
   | _=> .no) else .no
 | .snil=>bif isSl c t then (match b with
   | .eql=>(match X with
     | .val (.sl _) x=> .all Bool fun r=> .imp (r=true→x=[]) (.pur (.bv r))
     | .own _ _ x=> .all Bool fun r=> .imp (r=true→x=[]) (.pur (.bv r))
     | .snl _ _ z=>bif z then .pur (.bt true) else .all Bool fun r=> .pur (.bv r)
     | .snil=> .pur (.bt true)
     | _=> .no)
   | _=> .no) else .no
 | .mnil=>bif qpn c t then (match b with
   | .eql=>(match X with
     | .mp r=>(match s.res r with
       | some ⟨.mp _ _ _ _,_,_⟩=> .pur (.mnb r)
       | _=> .no)
     | _=> .no)
   | _=> .no) else .no
 | _=> .no
def vBin (c:Seat) (s:St) (b:BinOp) (t:TypeId) (x y:Operand):MV:=
 match s.opd x,s.opd y with
 | some X,some Y=>
   match X.asI,Y.asI with
   | some (k,a,la,va),some (k',a',lb,_)=>if k=k' then (match b with
      | .shl=>qkL b k k' a a' lb
      | .shr=>qkL b k k' a a' lb
      | _=>qtP b k a a' la lb va) else qkL b k k' a a' lb
   | _,_=>match X.asB,Y.asB with
     | some p,some q=>qrW c b t p q
     | _,_=>match X.asS,Y.asS with
       | some p,some q=>vStr c b t p q
       | _,_=>match X,Y with
         | X,.nil=>vNil c s b t X .nil
         | X,.snil=>vNil c s b t X .snil
         | X,.mnil=>vNil c s b t X .mnil
         | .val k x,Y=>vEq c b t k x Y
         | _,_=> .no
 | _,_=> .no
def vUn (c:Seat) (s:St) (u:UnOp) (x:Operand):MV:=
 match u,s.opd x with
 | .not,some (.bt b)=> .pur (.bt (!b))
 | .not,some (.bv b)=> .pur (.nbo (b=true) inferInstance)
 | .not,some (.boo p d)=> .pur (.nbo p d)
 | .not,some (.nbo p d)=> .pur (.boo p d)
 | .neg,some X=>(match X.asI with
   | some (k,a,l,_)=> .pur (ari l k (0 - a))
   | none=> .no)
 | .xor,some X=>(match X.asI with
   | some (k,a,_,_)=> .pur (.int k (bxor k (if k.signed then -1 else k.max) a) false)
   | none=> .no)
 | _,_=> .no
def qrM (s:St):SVal→Option (Nat×List UInt8)
 | .rw r=>(match s.res r with
   | some ⟨.rw e .byte l,_,_⟩=>bif Nat.blt e DPB then some (r,l) else none
   | _=>none)
 | .din r t i o=>(match qmP s r t i o with
   | some ⟨.byte,l⟩=>some (r,l)
   | _=>none)
 | _=>none
def qrY (c:Seat) (s:St) (t1 t2:TypeId) (x:Operand):MV:=
 match s.opd x,c.P.underlying t1,c.P.underlying t2 with
 | some X,some d1,some (.int k)=>(match X.asI with
   | some (k',a,l,_)=>bif decide (k.min≤k'.min) && decide (k'.max≤k.max) then .pur (bif l then .lit k a else .int k a false) else .pur (ari l k a)
   | none=> .no)
 | some X,some (.slice e),some .string=>(match c.P.underlying e,X.to (.sl .byte) with
   | some (.int .u8),some l=> .hld none (.str l)
   | some (.int .u8),none=>(match qrM s X with
     | some (r,l)=> .hld (some r) (.str l)
     | none=> .no)
   | _,_=> .no)
 | some (.str l),some .string,some .string=> .no
 | _,_,_=> .no
def vLen (c:Seat) (s:St) (t:TypeId) (x:Operand):MV:=
 match s.opd x,c.P.underlying t with
 | some (.str l),some .string=> .pur (.int .i64 (l.length:Int) false)
 | some (.val (.sl _) l),some (.slice _)=> .pur (.int .i64 (l.length:Int) false)
 | some (.own _ _ l),some (.slice _)=> .pur (.int .i64 (l.length:Int) false)
 | some (.snl _ _ _),some (.slice _)=> .pur (.lit .i64 0)
 | some (.rw r),some (.slice _)=>(match s.res r with
   | some ⟨.rw _ _ l,_,_⟩=> .pur (.int .i64 (l.length:Int) false)
   | _=> .no)
 | some (.din r t i o),some (.slice _)=>(match qmP s r t i o with
   | some ⟨_,l⟩=> .pur (.int .i64 (l.length:Int) false)
   | none=> .no)
 | some _,some (.array n _)=>bif Nat.ble n LM then .pur (.lit .i64 (n:Int)) else .no
 | _,_=> .no
section
variable {c:Seat} {G:Glob} {s:St} {ρ:Env} {θ:Th} {w:World} {K:Ghost} {x y:Operand} {n:Nat}
variable {dst:Option Tmp} {ty:TypeId} {pos:String} {af:Array Edge} {g:Option (Nat×Bool)} {t t1 t2:TypeId}
theorem qpT {b:BinOp} {p q:List UInt8} (hx:ev ρ x= .string ⟨p.toArray⟩) (hy:ev ρ y= .string ⟨q.toArray⟩):(vStr c b t p q).snd c.P ⟨dst,.binOp b t x y t2,ty,pos,af,g⟩ ρ θ n w K:=by
 unfold vStr
 split
 ·rename_i hu
  cases b with
  | eql=>exact qad (v:= .boo _ _) rfl fun w'=>qsM hx hy hu
  | neq=>exact qad (v:= .boo _ _) rfl fun w'=>qsT hx hy hu
  | lss=>exact qad (v:= .bv _) rfl fun w'=>qsS hx hy hu
  | gtr=>exact qad (v:= .bv _) rfl fun w'=>qsO hx hy hu
  | leq=>exact qad (v:= .bv _) rfl fun w'=>qsR hx hy hu
  | geq=>exact qad (v:= .bv _) rfl fun w'=>qsN hx hy hu
  | add=>exact fun hl=>qad (v:= .str _) ⟨rfl,by rw [List.length_append];exact hl⟩ fun w'=>qsL hx hy hu hl
  | _=>trivial
 ·trivial
theorem qn2 {b:BinOp} {p q:Bool} (hx:ev ρ x= .bool p) (hy:ev ρ y= .bool q):(qrW c b t p q).snd c.P ⟨dst,.binOp b t x y t2,ty,pos,af,g⟩ ρ θ n w K:=by
 unfold qrW
 split
 ·rename_i hu
  cases b with
  | eql=>exact qad (v:= .boo _ _) rfl fun w'=>qtZ hx hy hu
  | neq=>exact qad (v:= .boo _ _) rfl fun w'=>qt4 hx hy hu
  | _=>trivial
 ·trivial
theorem qr1 (hc:c.ok) {b:BinOp} {k:Ty} {a:k.den} {Y:SVal} (hx:k.kd.V K a (ev ρ x)) (hy:Y.rel θ n K (ev ρ y)):(vEq c b t k a Y).snd c.P ⟨dst,.binOp b t x y t2,ty,pos,af,g⟩ ρ θ n w K:=by
 unfold vEq
 split
 ·rename_i m q he hq
  cases hb:(Nat.ble m 10000 && k.kd.agg && !(c.P.eqGuardType c.P.depth t)) with
  | false=>trivial
  | true=>
    simp only [Bool.and_eq_true,Bool.not_eq_true'] at hb
    have hE:=hc.eqs _ (qgu he)
    have hyV:=SVal.to_rel hq hy
    cases b with
    | eql=>
      letI:=k.deq
      exact qad (v:= .boo _ _) (val:= .bool (decide (a=q))) (by show Value.bool _= .bool _;congr) fun w'=>qsC (k:=k.kd) rfl rfl hx hyV hb.1.2 hE (Nat.le_of_ble_eq_true hb.1.1) hb.2
    | neq=>
      letI:=k.deq
      exact qad (v:= .boo _ _) (val:= .bool (decide (a≠q))) (by show Value.bool _= .bool _;congr) fun w'=>qsD (k:=k.kd) rfl rfl hx hyV hb.1.2 hE (Nat.le_of_ble_eq_true hb.1.1) hb.2
    | _=>trivial
 ·trivial
theorem qpq (h:qpp c t=true): ∃e,c.P.underlying t=some (.pointer e):=by
 unfold qpp at h
 split at h
 ·rename_i e he;exact ⟨e,he⟩
 ·cases h
theorem qrw (h:isSl c t=true): ∃e,c.P.underlying t=some (.slice e):=by
 unfold isSl at h
 split at h
 ·rename_i e he;exact ⟨e,he⟩
 ·cases h
theorem qpo (h:qpn c t=true): ∃k e,c.P.underlying t=some (.map k e):=by
 unfold qpn at h
 split at h
 ·rename_i k e he;exact ⟨k,e,he⟩
 ·cases h
theorem qtt (hx:ev ρ x= .pointer none) (hy:ev ρ y= .pointer none) {b:BinOp} {e:TypeId} (hu:c.P.underlying t=some (.pointer e)):(qik b true).snd c.P ⟨dst,.binOp b t x y t2,ty,pos,af,g⟩ ρ θ n w K:=by
 cases b with
 | eql=>exact qad (v:= .bt _) rfl fun w'=>qgo hx hy hu
 | neq=>exact qad (v:= .bt _) rfl fun w'=>qhW hx hy hu
 | _=>trivial
theorem qqj {ad:Addr} (hx:ev ρ x= .pointer (some ad)) (hy:ev ρ y= .pointer none) {b:BinOp} {e:TypeId} (hu:c.P.underlying t=some (.pointer e)):(qik b false).snd c.P ⟨dst,.binOp b t x y t2,ty,pos,af,g⟩ ρ θ n w K:=by
 cases b with
 | eql=>exact qad (v:= .bt _) rfl fun w'=>qk3 hx hy hu
 | neq=>exact qad (v:= .bt _) rfl fun w'=>qmg hx hy hu
 | _=>trivial
theorem qoW {e:TypeId} {a:qav} {v:Value} {F:Nat→Prop} (h:qaE e w K v F a):(a=none∧v= .pointer none)∨(a.isNone=false∧∃ad,v= .pointer (some ad)):=by
 cases a with
 | none=>exact .inl ⟨rfl,h.1⟩
 | some x=>obtain ⟨b,pre,post,lv,mv,m,hv,_⟩:=h;exact .inr ⟨rfl,_,hv⟩
theorem qhO (h:Rel G s θ ρ w K) {b:BinOp} {X Y:SVal} (hx:X.rel θ s.nx K (ev ρ x)) (hy:Y.rel θ s.nx K (ev ρ y)):(vNil c s b t X Y).snd c.P ⟨dst,.binOp b t x y t2,ty,pos,af,g⟩ ρ θ s.nx w K:=by
 unfold vNil
 split
 ·have hy':ev ρ y= .pointer none:=hy
  cases hp:qpp c t with
  | false=>trivial
  | true=>
    obtain ⟨e,hu⟩:=qpq hp
    simp only [cond_true]
    split
    ·exact qtt hx hy' hu
    ·obtain ⟨bl,o,hv⟩:=Kd.Pt.form hx
     exact qqj hv hy' hu
    ·obtain ⟨_,_,bl,o,_,hv⟩:=hx
     exact qqj hv hy' hu
    ·rename_i k a
     split
     ·exact qad (v:= .bv _) rfl fun w'=>qjX (k:=k.kd) rfl hx hy' hu
     ·exact qad (v:= .bv _) rfl fun w'=>qq3 (k:=k.kd) rfl hx hy' hu
     ·trivial
    ·rename_i r
     split
     ·rename_i e' a o l hr
      have hB:=(h.res _ _ hr).2.1
      have hk:θ.key r=ev ρ x:=hx.2
      have hB':qaE e' w K (θ.key r) (θ.fp r) a:=hB
      rw [hk] at hB'
      rcases qoW hB' with ⟨rfl,hv⟩ | ⟨hn,ad,hv⟩
      ·split
       ·exact qad (v:= .bv _) rfl fun w'=>qgo hv hy' hu
       ·exact qad (v:= .bv _) rfl fun w'=>qhW hv hy' hu
       ·trivial
      ·have hs:a.isSome=true:=by cases a<;>simp_all
       split
       ·exact qad (v:= .bv _) (val:= .bool false) (by show Value.bool false= .bool _;rw [hn]) fun w'=>qk3 hv hy' hu
       ·exact qad (v:= .bv _) (val:= .bool true) (by show Value.bool true= .bool _;rw [hs]) fun w'=>qmg hv hy' hu
       ·trivial
     ·trivial
    ·trivial
 ·have hy':ev ρ y= .slice none 0 0:=hy
  cases hp:isSl c t with
  | false=>trivial
  | true=>
    obtain ⟨e,hu⟩:=qrw hp
    simp only [cond_true]
    split
    ·split
     ·rename_i k a
      obtain ⟨r,hr,hi⟩:=qiZ (dst:=dst) (ty:=ty) (pos:=pos) (af:=af) (g:=g) (t2:=t2) (k:=k.kd) (x:=x) rfl hx hy' hu
      exact ⟨r,hi,qad (v:= .bv _) rfl hr⟩
     ·rename_i q k a
      obtain ⟨r,hr,hi⟩:=qiZ (dst:=dst) (ty:=ty) (pos:=pos) (af:=af) (g:=g) (t2:=t2) (k:=k.kd) (x:=x) rfl hx.2.1 hy' hu
      exact ⟨r,hi,qad (v:= .bv _) rfl hr⟩
     ·rename_i e0 k0 z
      obtain ⟨A,hx',hz⟩:=(show ∃A,ev ρ x= .slice A 0 0∧(z=true→A=none) from hx)
      cases z with
      | false=>
        obtain ⟨r,hr,hi⟩:=qiZ (dst:=dst) (ty:=ty) (pos:=pos) (af:=af) (g:=g) (t2:=t2) (k:=k0.kd) (K:=K) (x:=x) hx' qhK hy' hu
        exact ⟨r,qad (v:= .bv _) rfl hr⟩
      | true=>
        rw [hz rfl] at hx'
        exact ⟨.bool true,rfl,fun w'=>by
         have hd: ∀d:Nat,(Op.equalIn (d+1) t (.slice none 0 0) (.slice none 0 0)).run c.P w'= .ok true w':=fun d=>by
          simp [Op.equalIn,run_underlying hu]
         have hd':(Op.equal t (.slice none 0 0) (.slice none 0 0)).run c.P w'= .ok true w':=hd 9999
         unfold execOp
         simp only [hx',hy']
         simp [binOp,eqGuard,hd']⟩
     ·have hx':ev ρ x= .slice none 0 0:=hx
      exact ⟨.bool true,rfl,fun w'=>by
       have hd: ∀d:Nat,(Op.equalIn (d+1) t (.slice none 0 0) (.slice none 0 0)).run c.P w'= .ok true w':=fun d=>by
        simp [Op.equalIn,run_underlying hu]
       have hd':(Op.equal t (.slice none 0 0) (.slice none 0 0)).run c.P w'= .ok true w':=hd 9999
       unfold execOp
       simp only [hx',hy']
       simp [binOp,eqGuard,hd']⟩
     ·trivial
    ·trivial
 ·have hy':ev ρ y= .map none:=hy
  cases hp:qpn c t with
  | false=>trivial
  | true=>
    obtain ⟨k,e,hu⟩:=qpo hp
    simp only [cond_true]
    split
    ·split
     ·rename_i r
      split
      ·rename_i kk kv m nn o l hr
       have hk:θ.key r=ev ρ x:=hx.2
       have hm:Mp kk.kd kv.kd w K m (θ.key r):=(h.res _ _ hr).2.1.1
       rw [hk] at hm
       obtain ⟨q,hq,h1,h2⟩:=qp9 (dst:=dst) (ty:=ty) (pos:=pos) (af:=af) (g:=g) (t2:=t2) (x:=x) rfl hy' hm hu
       exact qad (v:= .mnb r) ⟨hx.1,q,rfl,fun hqq=>hk.trans (h1 hqq).1,fun hqq=>by
        obtain ⟨b,hb⟩:=h2 hqq
        exact ⟨b,hk.trans hb⟩⟩ hq
      ·trivial
     ·trivial
    ·trivial
 ·trivial
theorem qpP (hc:c.ok) (h:Rel G s θ ρ w K) {b:BinOp}:(vBin c s b t x y).snd c.P ⟨dst,.binOp b t x y t2,ty,pos,af,g⟩ ρ θ s.nx w K:=by
 unfold vBin
 split
 ·rename_i X Y hX hY
  have hx:=h.opd hX
  have hy:=h.opd hY
  split
  ·rename_i k a la va k' a' lb _ h1 h2
   obtain ⟨ex,wx⟩:=SVal.asI_rel h1 hx
   obtain ⟨ey,wy⟩:=SVal.asI_rel h2 hy
   split
   ·rename_i hk
    subst hk
    split
    ·exact qeL ex ey wx wy
    ·exact qeL ex ey wx wy
    ·exact qn1 ex ey wx
   ·exact qeL ex ey wx wy
  ·split
   ·rename_i p q h1 h2
    exact qn2 (SVal.asB_rel h1 hx) (SVal.asB_rel h2 hy)
   ·split
    ·rename_i p q h1 h2
     exact qpT (SVal.asS_rel h1 hx).1 (SVal.asS_rel h2 hy).1
    ·split
     ·exact qhO h hx hy
     ·exact qhO h hx hy
     ·exact qhO h hx hy
     ·exact qr1 hc hx hy
     ·trivial
 ·trivial
theorem qr5 (h:Rel G s θ ρ w K) {u:UnOp}:(vUn c s u x).snd c.P ⟨dst,.unOp u t x,ty,pos,af,g⟩ ρ θ s.nx w K:=by
 unfold vUn
 split
 ·rename_i hX
  exact qad (v:= .bt _) rfl fun w'=>qhV (h.opd hX)
 ·rename_i b hX
  have hx:ev ρ x= .bool b:=h.opd hX
  exact qad (v:= .nbo _ _) (val:= .bool (!b)) (by show Value.bool _= .bool _;cases b<;>rfl) fun w'=>qhV hx
 ·rename_i hX
  exact qad (v:= .nbo _ _) rfl fun w'=>qhV (h.opd hX)
 ·rename_i p d hX
  have hx:ev ρ x= .bool (!decide p):=h.opd hX
  exact qad (v:= .boo _ _) (val:= .bool (!(!decide p))) (by show Value.bool _= .bool _;rw [Bool.not_not]) fun w'=>qhV hx
 ·rename_i X hX
  split
  ·rename_i h1
   exact qad qdH fun w'=>qt5 (SVal.asI_rel h1 (h.opd hX)).1
  ·trivial
 ·rename_i X hX
  split
  ·rename_i h1
   exact qad (v:= .int _ _ _) ⟨rfl,qcm _ _⟩ fun w'=>qtX (SVal.asI_rel h1 (h.opd hX)).1
  ·trivial
 ·trivial
theorem qpE (h:Rel G s θ ρ w K) {X:SVal} {v:Value} {r:Nat} {l:List UInt8} (hX:qrM s X=some (r,l)) (hv:X.rel θ s.nx K v): ∃e,Rw Kd.byte e w K l v∧∀g,ob v=some g→θ.fp r g:=by
 unfold qrM at hX
 split at hX
 ·split at hX
  ·rename_i q e l' og lk hres
   cases he:Nat.blt e DPB with
   | false=>rw [he] at hX;cases hX
   | true=>
     rw [he] at hX
     cases hX
     obtain ⟨h1,h2⟩:=(RwX.flat he).1 (h.res _ _ hres).2.1
     rw [hv.2] at h1 h2
     exact ⟨e,h1,fun g hg=>(h2 g).2 hg⟩
  ·cases hX
 ·split at hX
  ·rename_i l' hd
   cases hX
   exact qi8 h hv hd
  ·cases hX
 ·cases hX
theorem qn5 (h:Rel G s θ ρ w K):(qrY c s t1 t2 x).snd c.P ⟨dst,.convert t1 t2 x,ty,pos,af,g⟩ ρ θ s.nx w K:=by
 unfold qrY
 split
 ·rename_i X d1 k hX h1 h2
  split
  ·rename_i k' a l lv hI
   obtain ⟨ex,wx⟩:=SVal.asI_rel hI (h.opd hX)
   cases hb:(decide (k.min≤k'.min) && decide (k'.max≤k.max)) with
   | true=>
     simp only [Bool.and_eq_true,decide_eq_true_eq] at hb
     have hw:=qqw wx hb.1 hb.2
     exact qad (val:= .int k a) (by cases l<;>exact ⟨rfl,hw⟩) fun w'=>qtY ex h1 h2 wx hb.1 hb.2
   | false=>exact qad qdH fun w'=>qsz ex h1 h2
  ·trivial
 ·rename_i X e hX h1 h2
  split
  ·rename_i l he hl
   have hV:=SVal.to_rel hl (h.opd hX)
   exact ⟨.string ⟨l.toArray⟩,⟨rfl,hV.wf.1⟩,fun Z _=>qsW rfl hV h1 h2 he⟩
  ·rename_i he _
   split
   ·rename_i r l hl
    obtain ⟨e',⟨hn,l0,hO⟩,hf⟩:=qpE h hl (h.opd hX)
    have hlt:=hO.lt
    refine ⟨.string ⟨l.toArray⟩,⟨rfl,hO.wf.1⟩,fun Z hZ w' K' hE hM=>?_⟩
    have hZ': ∀g,ob (ev ρ x)=some g→¬Z g:=fun g hg=>hZ r rfl g (hf g hg)
    exact qsW rfl hO.V h1 h2 he w' (kset K' (ev ρ x) e' l0) (qcG hE hlt hZ') ((hO.ext (qcG hE hlt hZ') hZ').models hM)
   ·trivial
  ·trivial
 ·trivial
 ·trivial
theorem qpR (h:Rel G s θ ρ w K):(vLen c s t x).snd c.P ⟨dst,.call { callee:= .builtin .len,args:= #[x],argTypes:= #[t] },ty,pos,af,g⟩ ρ θ s.nx w K:=by
 unfold vLen
 split
 ·rename_i l hX hu
  obtain ⟨ex,hl⟩:=h.opd hX
  exact qad (v:= .int _ _ _) ⟨rfl,qbv hl⟩ fun w'=>qsH ex hu
 ·rename_i k l e hX hu
  have hV:(Kd.sl k.kd).V K l (ev ρ x):=h.opd hX
  exact qad (v:= .int _ _ _) ⟨rfl,qbv hV.wf.1⟩ fun w'=>qdZ rfl hV hu
 ·rename_i r k l e hX hu
  have hV:(Kd.sl k.kd).V K l (ev ρ x):=(h.opd hX).2.1
  exact qad (v:= .int _ _ _) ⟨rfl,qbv hV.wf.1⟩ fun w'=>qdZ rfl hV hu
 ·rename_i e0 k z e hX hu
  obtain ⟨A,hv,_⟩:=(show ∃A,ev ρ x= .slice A 0 0∧(z=true→A=none) from h.opd hX)
  have hV:(Kd.sl k.kd).V K [] (ev ρ x):=by rw [hv];exact qhK
  exact qad (v:= .lit _ _) ⟨rfl,by constructor<;>decide⟩ fun w'=>qdZ rfl hV hu
 ·rename_i r e hX hu
  split
  ·rename_i e' k l o lk hr
   obtain ⟨α,kk,e2,Y,hR,hl⟩:=RwX.sl (h.res _ _ hr).2.1
   rw [(h.opd hX).2] at hR
   rw [←hl]
   exact qad (v:= .int _ _ _) ⟨rfl,qbv hR.wf.1⟩ fun w'=>qp5 rfl hR hu
  ·trivial
 ·rename_i r T i o e hX hu
  split
  ·rename_i q l hd
   obtain ⟨e',hR,_⟩:=qi8 h (h.opd hX) hd
   exact qad (v:= .int _ _ _) ⟨rfl,qbv hR.wf.1⟩ fun w'=>qp5 rfl hR hu
  ·trivial
 ·rename_i X n e hX hu
  cases hb:Nat.ble n LM with
  | true=>exact qad (v:= .lit _ _) ⟨rfl,qbv (Nat.le_of_ble_eq_true hb)⟩ fun w'=>qsG rfl hu
  | false=>trivial
 ·trivial
end
end Go.Inc

set_option linter.unusedVariables false
namespace Go.Inc
open Go Go.RowKit
def Ty.flatB:Ty→Bool
 | .int _=>true
 | .byte=>true
 | .bool=>true
 | .str=>true
 | .arr _ t=>t.flatB
 | .pr a b=>a.flatB && b.flatB
 | .st a=>a.flatB
 | _=>false
theorem Ty.flat_ok: ∀ {t:Ty},t.flatB=true→t.kd.Flat
 | .int _,_=>fun _ _ _ _ h=>h
 | .byte,_=>fun _ _ _ _ h=>h
 | .bool,_=>fun _ _ _ _ h=>h
 | .str,_=>fun _ _ _ _ h=>h
 | .arr n t,h=>fun K K' x cs hr=>⟨hr.1,RL.mono (fun _ _=>Ty.flat_ok (t:=t) h _ _ _ _) hr.2⟩
 | .pr a b,h=>fun K K' x cs hr=>by
   simp only [Ty.flatB,Bool.and_eq_true] at h
   obtain ⟨c1,c2,e,h1,h2⟩:=hr
   exact ⟨c1,c2,e,Ty.flat_ok h.1 _ _ _ _ h1,Ty.flat_ok h.2 _ _ _ _ h2⟩
 | .st a,h=>fun K K' x cs hr=>Ty.flat_ok (t:=a) h _ _ _ _ hr
 | .sl _,h=>by cases h
 | .un,h=>by cases h
 | .ptr _,h=>by cases h
 | .hsl _ _,h=>by cases h
 | .hmp _ _,h=>by cases h
 | .hpt,h=>by cases h
 | .hfn,h=>by cases h
 | .anm,h=>by cases h
def Pth.fst (a b:Ty):Pth (.pr a b) a:=⟨0,Prod.fst,fun x y=>(y,x.2),True,fun _=>Foc.fst _ _⟩
def Pth.snd (a b:Ty):Pth (.pr a b) b:=⟨a.kd.sz,Prod.snd,fun x y=>(x.1,y),True,fun _=>Foc.snd _ _⟩
def Pth.st (a:Ty):Pth (.st a) a:=⟨0,fun x=>x,fun _ y=>y,True,fun _=>Foc.st _⟩
def Pth.arr (n:Nat) (t:Ty) (i:Int):Pth (.arr n t) t:=⟨i.toNat *t.kd.sz,fun l=>ix l i,fun l y=>l.set i.toNat y,0≤i∧i<(n:Int),fun h=>Foc.arr n t.kd i h.1 h.2⟩
def qbn:Nat→(T:Ty)→Nat→Option (Sigma (Pth T))
 | 1,T,0=>some ⟨T,Pth.id T⟩
 | n+2,.pr a b,0=>some ⟨a,Pth.fst a b⟩
 | n+2,.pr a b,i+1=>match qbn (n+1) b i with
   | some ⟨t,p⟩=>some ⟨t,(Pth.snd a b).then p⟩
   | none=>none
 | _,_,_=>none
def qkh (n:Nat) (T:Ty) (i:Nat):Option (Sigma (Pth T)):=
 match T with
 | .st a=>bif Nat.beq n 1 && Nat.beq i 0 then some ⟨a,Pth.st a⟩ else none
 | T=>bif Nat.ble 2 n then qbn n T i else none
theorem qgw: ∀ {n:Nat} {T:Ty} {i:Nat} {k:Ty} {p:Pth T k},qbn n T i=some ⟨k,p⟩→p.cnd
 | 0,T,i,k,p,h=>by simp [qbn] at h
 | 1,T,0,k,p,h=>by
   simp only [qbn,Option.some.injEq,Sigma.mk.injEq] at h
   obtain ⟨rfl,h⟩:=h
   cases h
   trivial
 | 1,T,i+1,k,p,h=>by simp [qbn] at h
 | n+2,.pr a b,0,k,p,h=>by
   simp only [qbn,Option.some.injEq,Sigma.mk.injEq] at h
   obtain ⟨rfl,h⟩:=h
   cases h
   trivial
 | n+2,.pr a b,i+1,k,p,h=>by
   simp only [qbn] at h
   split at h
   ·rename_i t q hq
    simp only [Option.some.injEq,Sigma.mk.injEq] at h
    obtain ⟨rfl,h⟩:=h
    cases h
    exact ⟨trivial,qgw hq⟩
   ·cases h
 | n+2,.int _,i,k,p,h=>by simp [qbn] at h
 | n+2,.byte,i,k,p,h=>by simp [qbn] at h
 | n+2,.bool,i,k,p,h=>by simp [qbn] at h
 | n+2,.str,i,k,p,h=>by simp [qbn] at h
 | n+2,.arr _ _,i,k,p,h=>by simp [qbn] at h
 | n+2,.sl _,i,k,p,h=>by simp [qbn] at h
 | n+2,.st _,i,k,p,h=>by simp [qbn] at h
 | n+2,.un,i,k,p,h=>by simp [qbn] at h
 | n+2,.ptr _,i,k,p,h=>by simp [qbn] at h
 | n+2,.hsl _ _,i,k,p,h=>by simp [qbn] at h
 | n+2,.hmp _ _,i,k,p,h=>by simp [qbn] at h
 | n+2,.hpt,i,k,p,h=>by simp [qbn] at h
 | n+2,.hfn,i,k,p,h=>by simp [qbn] at h
 | n+2,.anm,i,k,p,h=>by simp [qbn] at h
theorem qgv {n:Nat} {T:Ty} {i:Nat} {k:Ty} {p:Pth T k} (h:qkh n T i=some ⟨k,p⟩):p.cnd:=by
 unfold qkh at h
 split at h
 ·rename_i a
  cases hb:(Nat.beq n 1 && Nat.beq i 0) with
  | true=>
    rw [hb] at h
    simp only [cond_true,Option.some.injEq,Sigma.mk.injEq] at h
    obtain ⟨rfl,h⟩:=h
    cases h
    trivial
  | false=>rw [hb] at h;cases h
 ·cases hb:Nat.ble 2 n with
  | true=>rw [hb] at h;exact qgw h
  | false=>rw [hb] at h;cases h
def fieldAt (c:Seat) (t:TypeId) (T:Ty) (f:Nat):Option (Sigma (Pth T)):=
 match c.P.underlying t with
 | some (.struct fs)=>match fs[f]?,qkh fs.size T f with
   | some fd,some ⟨k,q⟩=>match c.is fd.type k with
     | some _=>bif Nat.beq fd.offset q.off then some ⟨k,q⟩ else none
     | none=>none
   | _,_=>none
 | _=>none
theorem qdo {c:Seat} (hc:c.ok) {t:TypeId} {T k:Ty} {f:Nat} {q:Pth T k} (h:fieldAt c t T f=some ⟨k,q⟩):q.cnd∧∃fs fd b,c.P.underlying t=some (.struct fs)∧fs[f]?=some fd∧fd.offset=q.off∧TyOk c.P fd.type k.kd b:=by
 unfold fieldAt at h
 split at h
 ·rename_i fs hu
  split at h
  ·rename_i fd k' q' hf hq
   split at h
   ·rename_i b hb
    cases ho:Nat.beq fd.offset q'.off with
    | true=>
      rw [ho] at h
      simp only [cond_true,Option.some.injEq,Sigma.mk.injEq] at h
      obtain ⟨rfl,h⟩:=h
      cases h
      exact ⟨qgv hq,fs,fd,b,hu,hf,Nat.eq_of_beq_eq_true ho,hc.is_ok hb⟩
    | false=>rw [ho] at h;cases h
   ·cases h
  ·cases h
 ·cases h
def qeJ (c:Seat) (s:St) (t:TypeId) (x:Operand) (f:Nat):MV:=
 match s.opd x with
 | some (.box r T k p)=>match fieldAt c t k f with
   | some ⟨k',q⟩=>bif Nat.beq k'.kd.sz 0 then .no else .pur (.box r T k' (p.then q))
   | none=> .no
 | some (.pt k X)=>match fieldAt c t k f with
   | some ⟨k',q⟩=>bif Nat.beq k'.kd.sz 0 then .no else .pur (.pt k' (q.get X))
   | none=> .no
 | some (.dpt r T k i o)=>match fieldAt c t k f with
   | some ⟨k',q⟩=>bif Nat.beq k'.kd.sz 0 then .no else .pur (.dpt r T k' i (o+q.off))
   | none=> .no
 | _=> .no
def qn8 (c:Seat) (s:St) (t:TypeId) (x:Operand) (f:Nat):MV:=
 match s.opd x with
 | some (.val k X)=>match fieldAt c t k f with
   | some ⟨k',q⟩=>bif k.kd.agg then .pur (.of k' (q.get X)) else .no
   | none=> .no
 | _=> .no
def inB (l:Bool) (i:Int) (n:Nat):Bool:=l && decide (0≤i) && decide (i<(n:Int))
def altP (i:Int):Int→List SVal→MV
 | _,[]=> .no
 | j,v::l=>match l with
   | []=> .imp (i=j) (.pur (.ppt v))
   | _::_=> .alt (.imp (i=j) (.pur (.ppt v))) (altP i (j+1) l)
def lenI:List SVal→Int
 | []=>0
 | _::l=>lenI l+1
theorem qnp: ∀l:List SVal,lenI l=(l.length:Int)
 | []=>rfl
 | _::l=>by rw [lenI,qnp l,List.length_cons];rfl
def qeK (c:Seat) (s:St) (t:TypeId) (x i:Operand):MV:=
 match s.opd x,(s.opd i).bind SVal.asI,c.P.underlying t with
 | some (.val (.sl k) l),some (_,i,_,_),some (.slice e)=>(match c.is e k with
   | some _=> .need (0≤i∧i<(l.length:Int)) (.pur (.pt k (ix l i)))
   | none=> .no)
 | some (.own _ k l),some (_,i,_,_),some (.slice e)=>(match c.is e k with
   | some _=> .need (0≤i∧i<(l.length:Int)) (.pur (.pt k (ix l i)))
   | none=> .no)
 | some (.rw r),some (_,i,_,_),some (.slice e)=>(match s.res r with
   | some ⟨.rw e' k l,_,_⟩=>(match c.is e k with
     | some _=>bif Nat.beq e' e && Nat.blt e' DPB then .need (0≤i∧i<(l.length:Int)) (.pur (.rpt r k i)) else (bif Nat.beq e' (e+DPB) then .need (0≤i∧i<(l.length:Int)) (.pur (.dpt r k k i 0)) else .no)
     | none=> .no)
   | _=> .no)
 | some (.box r T (.arr n k) p),some (_,i,li,_),some (.array n' e)=>(match c.is e k with
   | some _=>bif Nat.beq n n' then (bif inB li i n then .pur (.box r T k (p.then (Pth.arr n k i))) else .need (0≤i∧i<(n:Int)) (.pur (.box r T k (p.then (Pth.arr n k i))))) else .no
   | none=> .no)
 | some (.pt (.arr n k) X),some (_,i,li,_),some (.array n' e)=>(match c.is e k with
   | some _=>bif Nat.beq n n' then (bif inB li i n then .pur (.pt k (ix X i)) else .need (0≤i∧i<(n:Int)) (.pur (.pt k (ix X i)))) else .no
   | none=> .no)
 | some (.psl l),some (_,i,_,_),some (.slice e)=>(match c.ty true e with
   | some (.ptr _,_)=> .need (0≤i∧i<lenI l) (altP i 0 l)
   | _=> .no)
 | _,_,_=> .no
def qoa (c:Seat) (s:St) (t:TypeId) (x i:Operand):MV:=
 match s.opd x,(s.opd i).bind SVal.asI,c.P.underlying t with
 | some (.val (.arr n k) X),some (_,i,li,_),some (.array n' e)=>(match c.is e k with
   | some _=>bif Nat.beq n n' then (bif inB li i n then .pur (.of k (ix X i)) else .need (0≤i∧i<(n:Int)) (.pur (.of k (ix X i)))) else .no
   | none=> .no)
 | some (.str l),some (_,i,_,_),some .string=> .need (0≤i∧i<(l.length:Int)) (.pur (.byt (ix l i)))
 | some (.agg l),some (_,i,true,_),some (.array n e)=>(match c.ty true e,l[i.toNat]? with
   | some (.ptr _,_),some v=>bif Nat.beq l.length n && inB true i n then .pur v else .no
   | _,_=> .no)
 | _,_,_=> .no
def qf3 (s:St) (x:Operand):MV:=
 match s.opd x with
 | some (.box r T k p)=> .pur (.box r T k p)
 | some (.pt k X)=> .pur (.pt k X)
 | some (.val (.ptr k) X)=> .need (X.isSome=true) (.pur (.pt k (X.getD k.dft)))
 | _=> .no
def qcS:List (Nat×Nat)→Nat→Option Nat
 | [],_=>none
 | (o,r)::l,q=>bif Nat.beq o q then some r else qcS l q
def Ty.hid:Ty→Bool
 | .hsl _ _ | .hmp _ _ | .hpt | .hfn=>true
 | _=>false
def Ty.hslB:Ty→Bool
 | .pr a b=>a.hslB || b.hslB
 | .st a=>a.hslB
 | .hsl _ _=>true
 | _=>false
def full (s:St) (ps:List (Nat×Nat)):(T:Ty)→Nat→T.den→Option (Sigma Ty.den)
 | .hsl _ _,o,_=>(match qcS ps o with
   | some q=>(match s.res q with
     | some ⟨.ow _ k' y,_,_⟩=>some ⟨.sl k',y⟩
     | _=>none)
   | none=>none)
 | .pr a b,o,x=>(match full s ps a o x.1,full s ps b (o+a.kd.sz) x.2 with
   | some ⟨a',x'⟩,some ⟨b',y'⟩=>some ⟨.pr a' b',(x',y')⟩
   | _,_=>none)
 | .st a,o,x=>(match full s ps a o x with
   | some ⟨a',x'⟩=>some ⟨.st a',x'⟩
   | none=>none)
 | T,_,x=>some ⟨T,x⟩
def qng (c:Seat) (s:St) (t:TypeId) (ps:List (Nat×Nat)) (k:Ty) (o:Nat) (x:k.den):Option (Sigma Ty.den):=
 bif k.hslB then (match full s ps k o x with
  | some z=>bif (c.is t z.1).isSome then some z else none
  | none=>none) else none
theorem SVal.relL.len {θ:Th} {n:Nat} {K:Ghost}: ∀ {l:List SVal} {vs:List Value},SVal.relL θ n K l vs→vs.length=l.length
 | [],vs,h=>by have h':vs=[]:=h;rw [h'];rfl
 | s::l,vs,⟨v,r,e,h1,h2⟩=>by rw [e,List.length_cons,List.length_cons,SVal.relL.len h2]
theorem SVal.relL.get {θ:Th} {n:Nat} {K:Ghost}: ∀ {l:List SVal} {vs:List Value} {i:Int} {v:SVal},SVal.relL θ n K l vs→l[i.toNat]?=some v→0≤i→v.rel θ n K (ix vs i)
 | [],vs,i,v,h,hv,_=>by simp at hv
 | s::l,vs,i,v,⟨u,r,e,h1,h2⟩,hv,h0=>by
   subst e
   obtain ⟨m,rfl⟩:=Int.eq_ofNat_of_zero_le h0
   cases m with
   | zero=>
     simp at hv
     subst hv
     exact h1
   | succ m=>
     have hv':l[((m:Nat):Int).toNat]?=some v:=by simpa using hv
     have:=SVal.relL.get h2 hv' (Int.natCast_nonneg m)
     have e:ix (u::r) ((m+1:Nat):Int)=ix r (m:Int):=by simp [ix]
     rw [e]
     exact this
theorem qof: ∀ {vs:List Value} {K:Ghost},(∀u∈vs,u.oneCell'=true)→RL (Kd.vptr.R K) vs vs
 | [],K,_=>rfl
 | v::vs,K,h=>⟨[v],vs,rfl,⟨rfl,h v (by simp)⟩,qof fun u hu=>h u (by simp [hu])⟩
theorem qfi: ∀ {vs cs:List Value} {K:Ghost},RL (Kd.vptr.R K) vs cs→cs=vs∧∀u∈vs,u.oneCell'=true
 | [],cs,K,h=>⟨h,fun u hu=>by cases hu⟩
 | v::vs,cs,K,⟨c1,c2,e,⟨h1,h2⟩,h3⟩=>by
   obtain ⟨h4,h5⟩:=qfi h3
   refine ⟨by rw [e,h1,h4];rfl,fun u hu=>?_⟩
   rcases List.mem_cons.1 hu with rfl | hu
   ·exact h2
   ·exact h5 u hu
theorem qqv {n:Nat} {vs:List Value} {K:Ghost} {v:Value} (hv:v= .agg vs.toArray) (hn:n=vs.length) (ho: ∀u∈vs,u.oneCell'=true):(Kd.arr n Kd.vptr).V K vs v:=⟨vs,⟨hn.symm,qof ho⟩,hv⟩
theorem qjG {n:Nat} {vs:List Value} {K:Ghost} {v:Value} (h:(Kd.arr n Kd.vptr).V K vs v):v= .agg vs.toArray∧n=vs.length∧∀u∈vs,u.oneCell'=true:=by
 obtain ⟨cs,⟨h1,h2⟩,h3⟩:=h
 obtain ⟨h4,h5⟩:=qfi h2
 exact ⟨by rw [h3,h4];rfl,h1.symm,h5⟩
theorem TyOk.vptr {P:Program} {t b:Nat} {T:Ty} (h:TyOk P t (Ty.ptr T).kd b):TyOk P t Kd.vptr b:=⟨h.info,h.desc⟩
theorem TyOk.varr {P:Program} {t b n:Nat} {T:Ty} (h:TyOk P t (Ty.arr n (.ptr T)).kd b):TyOk P t (Kd.arr n Kd.vptr) b:=⟨h.info,h.desc⟩
def qr3 (c:Seat) (s:St) (t:TypeId) (x:Operand):MV:=
 match s.opd x with
 | some (.pt k X)=>(match c.is t k with
   | some _=> .hld none (.of k X)
   | none=> .no)
 | some (.val (.ptr k) X)=>(match c.is t k with
   | some _=> .need (X.isSome=true) (.hld none (.of k (X.getD k.dft)))
   | none=> .no)
 | some (.box r T k p)=>(match s.res r,c.is t k with
   | some ⟨.bx T' X ps,_,_⟩,some _=>if h:T'=T then (bif k.hid then (match qcS ps p.off with
      | some q=>(match s.res q with
        | some ⟨.ow _ k' y,_,_⟩=> .hld (some r) (.own q k' y)
        | some ⟨.mp _ _ _ _,_,_⟩=> .hld (some r) (.mp q)
        | some ⟨.rw _ _ _,_,_⟩=> .hld (some r) (.rw q)
        | some ⟨.bk _ x,_,_⟩=>(match x with
          | none=> .hld (some r) .nil
          | some _=> .hld (some r) (.obj q))
        | _=> .no)
      | none=> .no) else (match qng c s t ps k p.off (p.get (Ty.cast h X)) with
        | some ⟨k',x'⟩=> .hld (some r) (.of k' x')
        | none=> .hld (some r) (.of k (p.get (Ty.cast h X))))) else .no
   | _,_=> .no)
 | some (.rpt r k i)=>(match s.res r,c.is t k with
   | some ⟨.rw e k' l,_,_⟩,some _=>if h:k'=k then (bif k.flatB && Nat.blt e DPB then .hld (some r) (.of k (ix (qbI h l) i)) else .no) else .no
   | _,_=> .no)
 | some (.dpt r T k i o)=>(match s.res r,c.is t k,T.inn o with
   | some ⟨.rw e T' _,_,_⟩,some _,some ⟨q,_⟩=>bif decide (T'=T) && decide (k= .sl q) && !Nat.blt e DPB then .hld (some r) (.din r T i o) else .no
   | _,_,_=> .no)
 | some (.ppt v)=>(match c.ty true t with
   | some (.ptr _,_)=> .hld none v
   | _=> .no)
 | some (.obj r)=>(match s.res r,c.ty false t with
   | some ⟨.cl n (some l),_,_⟩,some (.arr n' (.ptr _),_)=>bif Nat.beq n n' then .hld (some r) (.agg l) else .no
   | _,_=> .no)
 | _=> .no
def qhM (s:St) (x:Operand) (i:Nat):MV:=
 match s.opd x with
 | some (.tup l)=>match l[i]? with
   | some v=> .pur v
   | none=> .no
 | _=> .no
def St.opds (s:St):List Operand→Option (List SVal)
 | []=>some []
 | x::l=>match s.opd x,s.opds l with
   | some v,some r=>some (v::r)
   | _,_=>none
def qr2 (s:St) (f:Fn) (fs cs:Array Operand):MV:=
 match f,fs.toList,s.opds cs.toList with
 | .func f,[],some l=> .pur (.fn f l)
 | _,_,_=> .no
section
variable {c:Seat} {G:Glob} {s:St} {ρ:Env} {θ:Th} {w:World} {K:Ghost} {x y i:Operand} {n:Nat}
variable {dst:Option Tmp} {ty:TypeId} {pos:String} {af:Array Edge} {g:Option (Nat×Bool)} {t t1 t2:TypeId} {f:Nat}
theorem qge (hc:c.ok) (h:Rel G s θ ρ w K):(qeJ c s t x f).snd c.P ⟨dst,.fieldAddr t x f,ty,pos,af,g⟩ ρ θ s.nx w K:=by
 unfold qeJ
 split
 ·rename_i r T k p hX
  split
  ·rename_i k' q hq
   obtain ⟨hcn,fs,fd,b,hu,hf,ho,hT⟩:=qdo hc hq
   cases hz:Nat.beq k'.kd.sz 0 with
   | true=>trivial
   | false=>
     obtain ⟨hr,hp,bl,o,hk,hv⟩:=h.opd hX
     refine qad (v:= .box _ _ _ _) (val:= .pointer (some ⟨bl,o+p.off+q.off,none⟩)) ⟨hr,⟨hp,hcn⟩,bl,o,hk,by rw [Nat.add_assoc];rfl⟩ fun w'=>R_fa hv hu hf ho hT hz
  ·trivial
 ·rename_i k X hX
  split
  ·rename_i k' q hq
   obtain ⟨hcn,fs,fd,b,hu,hf,ho,hT⟩:=qdo hc hq
   cases hz:Nat.beq k'.kd.sz 0 with
   | true=>trivial
   | false=>
     have hP:k.kd.Pt K X (ev ρ x):=h.opd hX
     obtain ⟨bl,o,hv⟩:=hP.form
     rw [hv] at hP
     exact qad (v:= .pt _ _) (hP.foc (q.ok hcn)) fun w'=>R_fa hv hu hf ho hT hz
  ·trivial
 ·rename_i r T k i o hX
  split
  ·rename_i k' q hq
   obtain ⟨hcn,fs,fd,b,hu,hf,ho,hT⟩:=qdo hc hq
   cases hz:Nat.beq k'.kd.sz 0 with
   | true=>trivial
   | false=>
     obtain ⟨hr,bl,f',hA,hv⟩:=h.opd hX
     refine qad (v:= .dpt _ _ _ _ _) (val:= .pointer (some ⟨bl,f'+o+q.off,none⟩)) ⟨hr,bl,f',hA,by rw [Nat.add_assoc]⟩ fun w'=>R_fa hv hu hf ho hT hz
  ·trivial
 ·trivial
theorem qls (hc:c.ok) (h:Rel G s θ ρ w K):(qn8 c s t x f).snd c.P ⟨dst,.field t x f,ty,pos,af,g⟩ ρ θ s.nx w K:=by
 unfold qn8
 split
 ·rename_i k X hX
  split
  ·rename_i k' q hq
   obtain ⟨hcn,fs,fd,b,hu,hf,ho,hT⟩:=qdo hc hq
   cases ha:k.kd.agg with
   | false=>trivial
   | true=>
     obtain ⟨u,hr,hV⟩:=qt9 (dst:=dst) (ty:=ty) (pos:=pos) (af:=af) (g:=g) (q.ok hcn) rfl (h.opd hX) ha hu hf ho hT
     exact qad (SVal.of_rel hV) hr
  ·trivial
 ·trivial
theorem qkn {l:Bool} {a:Int} (h:inB l a n=true):0≤a∧a<(n:Int):=by
 simp only [inB,Bool.and_eq_true,decide_eq_true_eq] at h
 exact ⟨h.1.2,h.2⟩
theorem qbs {o:Option SVal} {z:IntKind×Int×Bool×Bool} (h:o.bind SVal.asI=some z): ∃X,o=some X∧X.asI=some z:=by
 cases o with
 | none=>cases h
 | some X=>exact ⟨X,rfl,h⟩
theorem qj5 {P:Program} {o:Oper} {ρ:Env} {θ:Th} {n:Nat} {w:World} {K:Ghost} {i:Int} {u v:Value} (hr: ∀w':World,(execOp (ev ρ) o).run P w'= .ok (.value v) w') (hP:Kd.vptr.Pt K u v): ∀ {l:List SVal} {vs:List Value} {j:Int} {m:Nat},SVal.relL θ n K l vs→i=j+(m:Int)→vs[m]?=some u→(altP i j l).snd P o ρ θ n w K
 | [],vs,j,m,h,hi,hu=>by
   have h':vs=[]:=h
   rw [h'] at hu
   simp at hu
 | s::l,vs,j,m,⟨v0,r,e,h1,h2⟩,hi,hu=>by
   subst e
   cases l with
   | nil=>
     have h':r=[]:=h2
     subst h'
     cases m with
     | zero=>
       simp at hu
       subst hu
       exact ⟨by omega,qad (v:= .ppt s) ⟨_,hP,h1⟩ hr⟩
     | succ m=>simp at hu
   | cons s2 l=>
     cases m with
     | zero=>
       simp at hu
       subst hu
       exact .inl ⟨by omega,qad (v:= .ppt s) ⟨_,hP,h1⟩ hr⟩
     | succ m=>exact .inr (qj5 hr hP (j:=j+1) (m:=m) h2 (by omega) (by simpa using hu))
theorem qgf (hc:c.ok) (h:Rel G s θ ρ w K):(qeK c s t x i).snd c.P ⟨dst,.indexAddr t x i,ty,pos,af,g⟩ ρ θ s.nx w K:=by
 unfold qeK
 split
 ·rename_i k l ik a li lv e hX hI hu
  obtain ⟨I,hI1,hI2⟩:=qbs hI
  obtain ⟨ei,wi⟩:=SVal.asI_rel hI2 (h.opd hI1)
  split
  ·rename_i b hb
   intro hp
   obtain ⟨bl,o,hr,hP⟩:=qeV (dst:=dst) (ty:=ty) (pos:=pos) (af:=af) (g:=g) (k:=k.kd) rfl (h.opd hX) ei hu (hc.is_ok hb) hp.1 hp.2
   exact qad (v:= .pt _ _) hP hr
  ·trivial
 ·rename_i r k l ik a li lv e hX hI hu
  obtain ⟨I,hI1,hI2⟩:=qbs hI
  obtain ⟨ei,wi⟩:=SVal.asI_rel hI2 (h.opd hI1)
  split
  ·rename_i b hb
   intro hp
   obtain ⟨bl,o,hr,hP⟩:=qeV (dst:=dst) (ty:=ty) (pos:=pos) (af:=af) (g:=g) (k:=k.kd) rfl (h.opd hX).2.1 ei hu (hc.is_ok hb) hp.1 hp.2
   exact qad (v:= .pt _ _) hP hr
  ·trivial
 ·rename_i r ik a li lv e hX hI hu
  obtain ⟨I,hI1,hI2⟩:=qbs hI
  obtain ⟨ei,wi⟩:=SVal.asI_rel hI2 (h.opd hI1)
  split
  ·rename_i e' k l og lk hres
   split
   ·rename_i b hb
    cases he:(Nat.beq e' e && Nat.blt e' DPB) with
    | false=>
      simp only [cond_false]
      cases he2:Nat.beq e' (e+DPB) with
      | false=>trivial
      | true=>
        obtain ⟨he3,he4⟩:=qmO he2
        simp only [cond_true]
        intro hp
        obtain ⟨hr,hkey⟩:=h.opd hX
        obtain ⟨X,F',hD⟩:=(RwX.deep he3).1 (h.res _ _ hres).2.1
        have hR:=hD.hd
        rw [he4,hkey] at hR
        obtain ⟨bl,o,hrun,hA⟩:=qs0 (dst:=dst) (ty:=ty) (pos:=pos) (af:=af) (g:=g) rfl hR ei hu (hc.is_ok hb).raws hp.1 (by rw [←hD.el.len];exact hp.2)
        exact qad (v:= .dpt _ _ _ _ _) ⟨hr,bl,o,by rw [hkey];exact hA,rfl⟩ hrun
    | true=>
      simp only [Bool.and_eq_true] at he
      obtain rfl:=Nat.eq_of_beq_eq_true he.1
      simp only [cond_true]
      intro hp
      obtain ⟨hr,hkey⟩:=h.opd hX
      have hR:=((RwX.flat he.2).1 (h.res _ _ hres).2.1).1
      rw [hkey] at hR
      obtain ⟨bl,o,hrun,hA⟩:=qs0 (dst:=dst) (ty:=ty) (pos:=pos) (af:=af) (g:=g) rfl hR ei hu (hc.is_ok hb) hp.1 hp.2
      exact qad (v:= .rpt _ _ _) ⟨hr,bl,o,by rw [hkey];exact hA,rfl⟩ hrun
   ·trivial
  ·trivial
 ·rename_i r T m k p ik a li lv m' e hX hI hu
  obtain ⟨I,hI1,hI2⟩:=qbs hI
  obtain ⟨ei,wi⟩:=SVal.asI_rel hI2 (h.opd hI1)
  split
  ·rename_i b hb
   cases hn:Nat.beq m m' with
   | false=>trivial
   | true=>
     obtain rfl:=Nat.eq_of_beq_eq_true hn
     obtain ⟨hr,hp,bl,o,hk,hv⟩:=h.opd hX
     have key:(0≤a∧a<(m:Int))→(MV.pur (.box r T k (p.then (Pth.arr m k a)))).snd c.P ⟨dst,.indexAddr t x i,ty,pos,af,g⟩ ρ θ s.nx w K:=fun hb'=>
      qad (v:= .box _ _ _ _) (val:= .pointer (some ⟨bl,o+p.off+a.toNat *k.kd.sz,none⟩)) ⟨hr,⟨hp,hb'⟩,bl,o,hk,by rw [Nat.add_assoc];rfl⟩ fun w'=>qsF hv ei hu (hc.is_ok hb) hb'.1 hb'.2
     simp only [cond_true]
     cases hin:inB li a m with
     | true=>exact key (qkn hin)
     | false=>exact key
  ·trivial
 ·rename_i m k X ik a li lv m' e hX hI hu
  obtain ⟨I,hI1,hI2⟩:=qbs hI
  obtain ⟨ei,wi⟩:=SVal.asI_rel hI2 (h.opd hI1)
  split
  ·rename_i b hb
   cases hn:Nat.beq m m' with
   | false=>trivial
   | true=>
     obtain rfl:=Nat.eq_of_beq_eq_true hn
     have hP:(Ty.arr m k).kd.Pt K X (ev ρ x):=h.opd hX
     obtain ⟨bl,o,hv⟩:=hP.form
     rw [hv] at hP
     have key:(0≤a∧a<(m:Int))→(MV.pur (.pt k (ix X a))).snd c.P ⟨dst,.indexAddr t x i,ty,pos,af,g⟩ ρ θ s.nx w K:=fun hb'=>
      qad (v:= .pt _ _) (Kd.Pt.foc ((Pth.arr m k a).ok hb') hP) fun w'=>qsF hv ei hu (hc.is_ok hb) hb'.1 hb'.2
     simp only [cond_true]
     cases hin:inB li a m with
     | true=>exact key (qkn hin)
     | false=>exact key
  ·trivial
 ·rename_i l ik a li lv e hX hI hu
  obtain ⟨I,hI1,hI2⟩:=qbs hI
  obtain ⟨ei,wi⟩:=SVal.asI_rel hI2 (h.opd hI1)
  split
  ·rename_i T b hT
   rw [qnp]
   intro hp
   obtain ⟨vs,hV,hl⟩:=h.opd hX
   have hlen:=SVal.relL.len hl
   obtain ⟨bl,o,hr,hP⟩:=qeV (dst:=dst) (ty:=ty) (pos:=pos) (af:=af) (g:=g) (k:=Kd.vptr) rfl hV ei hu (TyOk.vptr (hc.ty_ok hT)) hp.1 (by rw [hlen];exact hp.2)
   have hlt:a.toNat<vs.length:=by omega
   refine qj5 hr hP (j:=0) (m:=a.toNat) hl (by omega) ?_
   rw [List.getElem?_eq_getElem hlt]
   simp [ix,List.getElem?_eq_getElem hlt]
  ·trivial
 ·trivial
theorem qlt (hc:c.ok) (h:Rel G s θ ρ w K):(qoa c s t x i).snd c.P ⟨dst,.index t x i,ty,pos,af,g⟩ ρ θ s.nx w K:=by
 unfold qoa
 split
 ·rename_i m k X ik a li lv m' e hX hI hu
  obtain ⟨I,hI1,hI2⟩:=qbs hI
  obtain ⟨ei,wi⟩:=SVal.asI_rel hI2 (h.opd hI1)
  split
  ·rename_i b hb
   cases hn:Nat.beq m m' with
   | false=>trivial
   | true=>
     obtain rfl:=Nat.eq_of_beq_eq_true hn
     have key:(0≤a∧a<(m:Int))→(MV.pur (.of k (ix X a))).snd c.P ⟨dst,.index t x i,ty,pos,af,g⟩ ρ θ s.nx w K:=fun hb'=>by
      obtain ⟨u,hr,hV⟩:=qs1 (dst:=dst) (ty:=ty) (pos:=pos) (af:=af) (g:=g) (k:=k.kd) rfl (h.opd hX) ei hu (hc.is_ok hb) hb'.1 hb'.2
      exact qad (SVal.of_rel hV) hr
     simp only [cond_true]
     cases hin:inB li a m with
     | true=>exact key (qkn hin)
     | false=>exact key
  ·trivial
 ·rename_i l ik a li lv hX hI hu
  obtain ⟨I,hI1,hI2⟩:=qbs hI
  obtain ⟨ei,wi⟩:=SVal.asI_rel hI2 (h.opd hI1)
  exact fun hp=>qad (v:= .byt _) rfl fun w'=>qt1 (h.opd hX).1 ei hu hp.1 hp.2
 ·rename_i l ik a lv n e hX hI hu
  obtain ⟨I,hI1,hI2⟩:=qbs hI
  obtain ⟨ei,wi⟩:=SVal.asI_rel hI2 (h.opd hI1)
  split
  ·rename_i T b v hT hv
   cases hn:(Nat.beq l.length n && inB true a n) with
   | false=>trivial
   | true=>
     simp only [Bool.and_eq_true] at hn
     obtain rfl:=Nat.eq_of_beq_eq_true hn.1
     obtain ⟨i0,i1⟩:=qkn hn.2
     obtain ⟨vs,hx,hr,ho⟩:=h.opd hX
     have hT':TyOk c.P e Kd.vptr b:=TyOk.vptr (hc.ty_ok hT)
     obtain ⟨u,hu1,hu2⟩:=qs1 (dst:=dst) (ty:=ty) (pos:=pos) (af:=af) (g:=g) (k:=Kd.vptr) (K:=K) (l:=vs) (n:=l.length) rfl (qqv hx (SVal.relL.len hr).symm ho) ei hu hT' i0 i1
     have hu3:u=ix vs a:=by obtain ⟨cs,⟨h1,_⟩,h2⟩:=hu2;rw [h2,h1];rfl
     rw [hu3] at hu1
     exact qad (SVal.relL.get hr hv i0) hu1
  ·trivial
 ·trivial
theorem qhN (h:Rel G s θ ρ w K):(qf3 s x).snd c.P ⟨dst,.nilCheck x,ty,pos,af,g⟩ ρ θ s.nx w K:=by
 unfold qf3
 split
 ·rename_i r T k p hX
  have hr:=h.opd hX
  obtain ⟨_,_,bl,o,_,hv⟩:=hr
  exact qad (val:= .pointer (some ⟨bl,o+p.off,none⟩)) (by rw [←hv];exact h.opd hX) fun w'=>qaL hv
 ·rename_i k X hX
  have hP:k.kd.Pt K X (ev ρ x):=h.opd hX
  obtain ⟨bl,o,hv⟩:=hP.form
  exact qad (v:= .pt _ _) (by rw [←hv];exact hP) fun w'=>qaL hv
 ·rename_i k X hX
  intro hs
  obtain ⟨y,rfl⟩:=Option.isSome_iff_exists.1 hs
  obtain ⟨y',bl,o,he,hv,hP⟩:=qhG (k:=k.kd) (h.opd hX) (by simp)
  cases he
  exact qad (v:= .pt _ _) hP fun w'=>qaL hv
 ·trivial
theorem qds: ∀ {l:List (Nat×Nat)} {o q:Nat},qcS l o=some q→(o,q)∈l
 | [],o,q,h=>by cases h
 | (o',r)::l,o,q,h=>by
   simp only [qcS] at h
   cases hb:Nat.beq o' o with
   | true=>
     rw [hb] at h
     cases h
     obtain rfl:=Nat.eq_of_beq_eq_true hb
     exact List.mem_cons_self
   | false=>
     rw [hb] at h
     exact List.mem_cons_of_mem _ (qds h)
theorem qpl {t:TypeId} {b:Nat}: ∀ {k:Ty},k.hid=true→TyOk c.P t k.kd b→∀ {a:Addr} {v:Value} {w':World},v.oneCell'=true→w'.cell? a=some v→(loadVar t a).run c.P w'= .ok v w':=by
 have key: ∀z hz,TyOk c.P t (Kd.hid z hz) b→∀ {a:Addr} {v:Value} {w':World},v.oneCell'=true→w'.cell? a=some v→(loadVar t a).run c.P w'= .ok v w':=fun z hz hT a v w' h1 hcl=>
  qbY (K:=fun _=>none) (x:=()) hT a (cs:=[v]) (fun j u hj=>by
   cases j with
   | zero=>
     simp at hj
     subst hj
     rw [show a.add 0=a from by cases a;simp [Addr.add]]
     exact hcl
   | succ j=>simp at hj) ⟨v,rfl,h1⟩
 intro k hk hT
 cases k with
 | hsl _ _=>exact key _ _ hT
 | hmp _ _=>exact key _ _ hT
 | hpt=>exact key _ _ hT
 | hfn=>exact key _ _ hT
 | _=>cases hk
theorem qhu (h:Rel G s θ ρ w K) {ps:List (Nat×Nat)}: ∀ {T:Ty} {o:Nat} {x:T.den} {z:Sigma Ty.den} {cs:List Value},full s ps T o x=some z→T.kd.R K x cs→(∀p∈ps,∀j,p.1=o+j→j<cs.length→cs[j]?=some (θ.key p.2))→z.1.kd.R K z.2 cs
 | .hsl e t,o,x,z,cs,hz,hR,hp=>by
   simp only [full] at hz
   split at hz
   ·rename_i q hq
    split at hz
    ·rename_i e' k' y og lk hqr
     cases hz
     obtain ⟨v,rfl,h1⟩: ∃v,cs=[v]∧v.oneCell'=true:=by
      obtain ⟨v,hv⟩:=hR
      exact ⟨v,hv⟩
     have hc:=hp _ (qds hq) 0 rfl (by simp)
     simp at hc
     have hV:=(h.res _ _ hqr).2.1.1.V.cells
     rw [←hc,qct h1] at hV
     exact hV
    ·cases hz
   ·cases hz
 | .pr a b,o,x,z,cs,hz,⟨c1,c2,hcs,h1,h2⟩,hp=>by
   subst hcs
   simp only [full] at hz
   split at hz
   ·rename_i a' x' b' y' hA hB
    cases hz
    have l1:c1.length=a.kd.sz:=a.kd.len h1
    have g1:=qhu h hA h1 (fun p hpm j hj hlt=>by
     have:=hp p hpm j hj (by rw [List.length_append];omega)
     rwa [List.getElem?_append_left hlt] at this)
    have g2:=qhu h hB h2 (fun p hpm j hj hlt=>by
     have:=hp p hpm (a.kd.sz+j) (by rw [hj,Nat.add_assoc]) (by rw [List.length_append,l1];omega)
     rwa [List.getElem?_append_right (by omega),l1,Nat.add_sub_cancel_left] at this)
    exact ⟨c1,c2,rfl,g1,g2⟩
   ·cases hz
 | .st a,o,x,z,cs,hz,hR,hp=>by
   simp only [full] at hz
   split at hz
   ·rename_i a' x' hA
    cases hz
    exact qhu (T:=a) (z:=⟨a',x'⟩) h hA hR hp
   ·cases hz
 | .int _,o,x,z,cs,hz,hR,hp=>by cases hz;exact hR
 | .byte,o,x,z,cs,hz,hR,hp=>by cases hz;exact hR
 | .bool,o,x,z,cs,hz,hR,hp=>by cases hz;exact hR
 | .str,o,x,z,cs,hz,hR,hp=>by cases hz;exact hR
 | .arr _ _,o,x,z,cs,hz,hR,hp=>by cases hz;exact hR
 | .sl _,o,x,z,cs,hz,hR,hp=>by cases hz;exact hR
 | .un,o,x,z,cs,hz,hR,hp=>by cases hz;exact hR
 | .ptr _,o,x,z,cs,hz,hR,hp=>by cases hz;exact hR
 | .hmp _ _,o,x,z,cs,hz,hR,hp=>by cases hz;exact hR
 | .hpt,o,x,z,cs,hz,hR,hp=>by cases hz;exact hR
 | .hfn,o,x,z,cs,hz,hR,hp=>by cases hz;exact hR
 | .anm,o,x,z,cs,hz,hR,hp=>by cases hz;exact hR
theorem qnh {T:Ty} {ps:List (Nat×Nat)} {o:Nat} {x:T.den} {z:Sigma Ty.den} (h:qng c s t ps T o x=some z):full s ps T o x=some z∧∃b,c.is t z.1=some b:=by
 unfold qng at h
 cases hh:T.hslB with
 | false=>rw [hh] at h;cases h
 | true=>
   rw [hh] at h
   simp only [cond_true] at h
   split at h
   ·rename_i z' hz'
    cases hb:(c.is t z'.1).isSome with
    | false=>rw [hb] at h;cases h
    | true=>
      rw [hb] at h
      cases h
      exact ⟨hz',Option.isSome_iff_exists.1 hb⟩
   ·cases h
theorem qfP {ad:Addr} {v:Value} (hx:ev ρ x= .pointer (some ad)) {w':World} (hl:(loadVar t ad).run c.P w'= .ok v w'):(execOp (ev ρ) ⟨dst,.load t x,ty,pos,af,g⟩).run c.P w'= .ok (.value v) w':=by
 unfold execOp
 simp only [hx]
 simp [Instr.loadAt,Instr.sureAddr,hl]
theorem qo3 (h:Rel G s θ ρ w K) {r:Nat} {T q:Ty} {i:Int} {o bl f e by_:Nat} {xs:List T.den} {org:Org} {lk:Bool} {gp} (hr:r<s.nx) (hA:At (θ.key r) i T.kd.sz bl f) (hv:ev ρ x= .pointer (some ⟨bl,f+o,none⟩)) (hres:s.res r=some ⟨.rw e T xs,org,lk⟩) (he:Nat.blt e DPB=false) (hi:T.inn o=some ⟨q,gp⟩) (hT:TyOk c.P t (Ty.sl q).kd by_):
 (MV.hld (some r) (.din r T i o)).snd c.P ⟨dst,.load t x,ty,pos,af,g⟩ ρ θ s.nx w K:=by
 obtain ⟨X,F',hD⟩:=(RwX.deep he).1 (h.res _ _ hres).2.1
 have ho:=qqg hi
 obtain ⟨hn,l,hO⟩:=hD.hd
 have hit:i.toNat<X.length:=by
  obtain ⟨_,_,hO'⟩:=hO
  obtain ⟨o0,n,cap0,hk,_,hi'⟩:=hA
  rcases hO' with ⟨A,hv',_⟩ | ⟨_,_,_,_,_,hv',_⟩
  ·rw [hk] at hv';cases hv'
  ·rw [hk] at hv';cases hv';exact hi'
 have hX: ∀d∈X,d.length=T.kd.sz:=hD.hd.wf.2
 have hli:(ix X i).length=T.kd.sz:=by rw [qaR hit];exact hX _ (List.getElem_mem hit)
 have hu:(ix X i)[o]?=some ((ix X i)[o]'(by omega)):=List.getElem?_eq_getElem _
 generalize (ix X i)[o]'(by omega)=u at hu
 have cellAt: ∀w' K',Own (Kd.raws T.kd) (e - DPB) w' (kset K' (θ.key r) (e - DPB) l) X (θ.key r)→Models w' K'→u.oneCell'=true∧w'.cell? ⟨bl,f+o,none⟩=some u:=fun w' K' hO' hM'=>by
  obtain ⟨b,e',pre,mid,post,hp,hK,hR⟩:=Rw.pt hO' hA
  simp only [Value.pointer.injEq,Option.some.injEq,Addr.mk.injEq,and_true] at hp
  obtain ⟨rfl,rfl⟩:=hp
  have hm:mid=ix X i:=hR.1
  have:=qbf (hO'.models hM') hK o u (by rw [hm];exact hu)
  rw [qbe] at this
  exact ⟨hR.2.2 u (List.mem_of_getElem? hu),this⟩
 have h1:=(cellAt w K hO h.mod).1
 refine ⟨u,⟨hr,?_⟩,fun Z hZ w' K' hE hM=>qfP hv ?_⟩
 ·rw [hD.cs,qhr hX _ _ ho,List.getElem?_eq_getElem hit,Option.bind_some,←qaR hit]
  exact hu
 ·have hZ': ∀g,ob (θ.key r)=some g→¬Z g:=fun g hg=>hZ r rfl g ((hD.fp g).2 (.inl hg))
  obtain ⟨_,hc2⟩:=cellAt w' K' (hO.ext (qcG hE hO.lt hZ') hZ') hM
  have:=qbY (k:=Kd.raws (Ty.sl q).kd) hT.raws (K:=K') (x:=[u]) (cs:=[u]) (w:=w') ⟨bl,f+o,none⟩ (fun j v hj=>by
   cases j with
   | zero=>
     simp only [List.getElem?_cons_zero,Option.some.injEq] at hj
     subst hj
     simpa [Addr.add] using hc2
   | succ j=>simp at hj) ⟨rfl,rfl,by simpa using h1⟩
  exact this
theorem qob (hc:c.ok) (h:Rel G s θ ρ w K):(qr3 c s t x).snd c.P ⟨dst,.load t x,ty,pos,af,g⟩ ρ θ s.nx w K:=by
 unfold qr3
 split
 ·rename_i k X hX
  split
  ·rename_i b hb
   have hP:k.kd.Pt K X (ev ρ x):=h.opd hX
   obtain ⟨bl,o,hv⟩:=hP.form
   rw [hv] at hP
   obtain ⟨v,hr,hV⟩:=S_ld (dst:=dst) (ty:=ty) (pos:=pos) (af:=af) (g:=g) (Z:=fun _=>True) (x:=x) (w:=w) hv (hc.is_ok hb) hP
   refine ⟨v,SVal.of_rel hV,fun Z _ w' K' hE hM=>hr w' K' (hE.weak fun _ _ _=>trivial) hM⟩
  ·trivial
 ·rename_i k X hX
  split
  ·rename_i b hb
   intro hs
   obtain ⟨y,rfl⟩:=Option.isSome_iff_exists.1 hs
   obtain ⟨y',bl,o,he,hv,hP⟩:=qhG (k:=k.kd) (h.opd hX) (by simp)
   cases he
   obtain ⟨v,hr,hV⟩:=S_ld (dst:=dst) (ty:=ty) (pos:=pos) (af:=af) (g:=g) (Z:=fun _=>True) (x:=x) (w:=w) hv (hc.is_ok hb) hP
   refine ⟨v,SVal.of_rel hV,fun Z _ w' K' hE hM=>hr w' K' (hE.weak fun _ _ _=>trivial) hM⟩
  ·trivial
 ·rename_i r T k p hX
  obtain ⟨hr,hp,bl,o,hk,hv⟩:=h.opd hX
  split
  ·rename_i T' X ps og lk b hres hb
   split
   ·rename_i hTT
    subst hTT
    obtain ⟨bl',hk',hf,hB,hps⟩:=(h.res _ _ hres).2.1
    rw [hk] at hk'
    cases hk'
    have hT:=hc.is_ok hb
    cases hh:k.hid with
    | false=>
      simp only [cond_false]
      split
      ·rename_i k' x' hz
       obtain ⟨hz,b',hb'⟩:=qnh hz
       have hz:full s ps k p.off (p.get X)=some ⟨k',x'⟩:=hz
       have hT':=hc.is_ok hb'
       have hB0:=hB
       obtain ⟨hKn,cs,Tt,hh',hR⟩:=hB
       obtain ⟨p1,m,q1,rfl,hl,hRm,_⟩:=(p.ok hp).foc hR
       have hcell: ∀j u,m[j]?=some u→w.cell? ⟨bl,(θ.sur r).1.length+p.off+j,none⟩=some u:=fun j u hj=>by
        unfold World.cell?
        rw [hh']
        have hjl:=(List.getElem?_eq_some_iff.1 hj).1
        simp only [List.getElem?_toArray]
        rw [show (θ.sur r).1++(p1++m++q1)++(θ.sur r).2=((θ.sur r).1++p1)++(m++(q1++(θ.sur r).2)) from by simp,show (θ.sur r).1.length+p.off+j=((θ.sur r).1++p1).length+j from by rw [List.length_append,hl],List.getElem?_append_right (Nat.le_add_right _ _),Nat.add_sub_cancel_left,List.getElem?_append_left hjl]
        exact hj
       have hRz:=qhu h hz hRm (fun p' hp' j hj hlt=>by
        have h2:=(hps p' hp').2
        rw [hj,←Nat.add_assoc,hcell j _ (List.getElem?_eq_getElem hlt)] at h2
        rw [List.getElem?_eq_getElem hlt]
        exact h2)
       refine ⟨_,SVal.of_rel (t:=k') (Kd.val_V hRz),fun Z hZ w' K' hE hM=>qfP hv (qbY hT' _ (cs:=m) (fun j u hj=>?_) (k'.kd.mono hE.le hRz))⟩
       have:=hcell j u hj
       rw [←qhf hE hB0.lt (fun hzz=>hZ r rfl _ ((hf _).2 rfl) hzz)] at this
       by_cases hj0:j=0
       ·subst hj0
        simpa [Addr.add] using this
       ·simp only [Addr.add]
        simpa [hj0] using this
      ·obtain ⟨v,hrun,hV⟩:=qa9 (dst:=dst) (ty:=ty) (pos:=pos) (af:=af) (g:=g) (Z:=fun g=>g≠bl) (x:=x) (p.ok hp) hv hT hB rfl (by simp)
       refine ⟨v,SVal.of_rel hV,fun Z hZ w' K' hE hM=>?_⟩
       exact hrun w' K' (hE.weak fun g _ hg=>fun e=>hZ r rfl g ((hf g).2 e) hg) hM
    | true=>
      simp only [cond_true]
      split
      ·rename_i q hq
       have hcell:=hps _ (qds hq)
       have gen:(θ.key q).oneCell'=true→∀sv:SVal,sv.rel θ s.nx K (θ.key q)→(MV.hld (some r) sv).snd c.P ⟨dst,.load t x,ty,pos,af,g⟩ ρ θ s.nx w K:=fun h1 sv hsv=>by
        refine ⟨θ.key q,hsv,fun Z hZ w' K' hE hM=>qfP hv (qpl hh hT h1 ?_)⟩
        rw [qhf hE hB.lt (fun hz=>hZ r rfl _ ((hf _).2 rfl) hz)]
        exact hcell.2
       split
       ·rename_i e' k' y o' l' hqr
        have hO:=(h.res _ _ hqr).2.1.1
        exact gen hO.one _ ⟨hcell.1,hO.V,rfl⟩
       ·rename_i hqr
        have hO:=(h.res _ _ hqr).2.1.1
        exact gen hO.one _ ⟨hcell.1,rfl⟩
       ·rename_i hqr
        obtain ⟨_,_,_,_,hO,_⟩:=RwX.sl (h.res _ _ hqr).2.1
        exact gen hO.one _ ⟨hcell.1,rfl⟩
       ·rename_i e' xb o' l' hqr
        have hO:qaE e' w K (θ.key q) (θ.fp q) xb:=(h.res _ _ hqr).2.1
        have h1:(θ.key q).oneCell'=true:=by
         cases xb with
         | none=>rw [hO.1];rfl
         | some y=>obtain ⟨b,_,_,_,_,_,hv,_⟩:=hO;rw [hv];rfl
        split
        ·exact gen h1 _ hO.1
        ·exact gen h1 _ ⟨hcell.1,rfl⟩
       ·trivial
      ·trivial
   ·trivial
  ·trivial
 ·rename_i r k i hX
  split
  ·rename_i e k' l og lk b hres hb
   split
   ·rename_i hk
    subst hk
    cases hf:(k'.flatB && Nat.blt e DPB) with
    | false=>trivial
    | true=>
      simp only [Bool.and_eq_true] at hf
      obtain ⟨hf,hfb⟩:=hf
      obtain ⟨hr,bl,o,hA,hv⟩:=h.opd hX
      obtain ⟨hR,hfp⟩:=(RwX.flat hfb).1 (h.res _ _ hres).2.1
      obtain ⟨v',hV',hrun⟩: ∃v',k'.kd.V K (ix l i) v'∧∀w' K',Ext (fun g=>ob (θ.key r)≠some g) w K w' K'→Models w' K'→(execOp (ev ρ) ⟨dst,.load t x,ty,pos,af,g⟩).run c.P w'= .ok (.value v') w':=by
       obtain ⟨v',h1,h2⟩:=qua (dst:=dst) (ty:=ty) (pos:=pos) (af:=af) (g:=g) (Z:=fun g=>ob (θ.key r)≠some g) (Ty.flat_ok hf) h.mod hv (hc.is_ok hb) hR hA (fun g hg hn=>hn hg)
       exact ⟨v',h2,h1⟩
      simp only [cond_true]
      exact ⟨v',SVal.of_rel hV',fun Z hZ w' K' hE hM=>hrun w' K' (hE.weak fun g _ hg e=>hZ r rfl g ((hfp g).2 e) hg) hM⟩
   ·trivial
  ·trivial
 ·rename_i r T k i o hX
  split
  ·rename_i e T' xs og lk b q gp hres hb hi
   cases hz:(decide (T'=T) && decide (k= .sl q) && !Nat.blt e DPB) with
   | false=>trivial
   | true=>
     simp only [Bool.and_eq_true,decide_eq_true_eq,Bool.not_eq_true'] at hz
     obtain ⟨⟨rfl,rfl⟩,he⟩:=hz
     obtain ⟨hr,bl,f,hA,hv⟩:=h.opd hX
     exact qo3 h hr hA hv hres he hi (hc.is_ok hb)
  ·trivial
 ·rename_i sv hX
  split
  ·rename_i T b hT
   obtain ⟨u,hP,hr⟩:=h.opd hX
   obtain ⟨bl,o,hv⟩:=hP.form
   rw [hv] at hP
   obtain ⟨v,hrun,hV⟩:=S_ld (dst:=dst) (ty:=ty) (pos:=pos) (af:=af) (g:=g) (Z:=fun _=>True) (x:=x) (w:=w) hv (TyOk.vptr (hc.ty_ok hT)) hP
   have hvu:v=u:=by obtain ⟨cs,⟨h1,_⟩,h2⟩:=hV;rw [h2,h1];rfl
   subst hvu
   exact ⟨v,hr,fun Z _ w' K' hE hM=>hrun w' K' (hE.weak fun _ _ _=>trivial) hM⟩
  ·trivial
 ·rename_i r hX
  split
  ·rename_i n l og lk n' T b hres hb
   cases hn:Nat.beq n n' with
   | false=>trivial
   | true=>
     obtain rfl:=Nat.eq_of_beq_eq_true hn
     obtain ⟨bl,vs,hk,hf,hB,hl⟩:=(h.res _ _ hres).2.1
     have hv:ev ρ x= .pointer (some ⟨bl,([]:List Value).length+0,none⟩):=(h.opd hX).2.symm.trans hk
     obtain ⟨v,hrun,hV⟩:=qa9 (dst:=dst) (ty:=ty) (pos:=pos) (af:=af) (g:=g) (Z:=fun g=>g≠bl) (x:=x) (Foc.id (Kd.arr n Kd.vptr)) hv (TyOk.varr (hc.ty_ok hb)) hB rfl (by simp)
     obtain ⟨h1,_,h3⟩:=qjG hV
     simp only [cond_true]
     exact ⟨v,⟨vs,h1,hl l rfl,h3⟩,fun Z hZ w' K' hE hM=>hrun w' K' (hE.weak fun g _ hg=>fun e=>hZ r rfl g ((hf g).2 e) hg) hM⟩
  ·trivial
 ·trivial
theorem qff: ∀ {l:List SVal} {vs:List Value} {j:Nat} {v:SVal},SVal.relL θ n K l vs→l[j]?=some v→∃u,vs[j]?=some u∧v.rel θ n K u
 | [],vs,j,v,h,hj=>by simp at hj
 | z::l,vs,0,v,⟨u,r,e,h1,h2⟩,hj=>by
   simp at hj
   subst hj
   exact ⟨u,by simp [e],h1⟩
 | z::l,vs,j+1,v,⟨u,r,e,h1,h2⟩,hj=>by
   obtain ⟨u',hu,hr⟩:=qff h2 (by simpa using hj)
   exact ⟨u',by simpa [e] using hu,hr⟩
theorem qiB (h:Rel G s θ ρ w K) {j:Nat}:(qhM s x j).snd c.P ⟨dst,.extract x j,ty,pos,af,g⟩ ρ θ s.nx w K:=by
 unfold qhM
 split
 ·rename_i l hX
  split
  ·rename_i v hj
   obtain ⟨vs,hv,hL⟩:=h.opd hX
   obtain ⟨u,hu,hr⟩:=qff hL hj
   exact qad hr fun w'=>qg1 hv (by simpa using hu)
  ·trivial
 ·trivial
theorem Rel.opds (h:Rel G s θ ρ w K): ∀ {l:List Operand} {vs:List SVal},s.opds l=some vs→SVal.relL θ s.nx K vs (l.map (ev ρ))
 | [],vs,hv=>by cases hv;rfl
 | z::l,vs,hv=>by
   simp only [St.opds] at hv
   split at hv
   ·rename_i v r h1 h2
    cases hv
    exact ⟨_,_,rfl,h.opd h1,h.opds h2⟩
   ·cases hv
theorem qn9 (h:Rel G s θ ρ w K) {fn:Fn} {fs cs:Array Operand}:(qr2 s fn fs cs).snd c.P ⟨dst,.makeFunc fn fs cs,ty,pos,af,g⟩ ρ θ s.nx w K:=by
 unfold qr2
 split
 ·rename_i q l hf hl
  have e1:fs= #[]:=by cases fs;simp at hf;rw [hf]
  have e2:cs=cs.toList.toArray:=by simp
  subst e1
  refine qad (v:= .fn _ _) ⟨_,rfl,h.opds hl⟩ fun w'=>?_
  rw [e2]
  exact qsA (by simp)
 ·trivial
end
end Go.Inc

set_option linter.unusedVariables false
namespace Go.Inc
open Go Go.RowKit
def qpS (c:Seat) (s:St) (ty:TypeId) (x:Operand):MV:=
 match s.opd x with
 | some .snil=>(match c.P.underlying ty with
   | some (.slice e)=>(match c.ty true e with
     | some (k,_)=> .pur (.snl e k true)
     | none=> .pur .snil)
   | _=> .pur .snil)
 | some v=> .pur v
 | none=> .no
def SVal.asL:SVal→Option (Sigma fun t:Ty=>List t.den)
 | .val (.sl k) l=>some ⟨k,l⟩
 | .own _ k l=>some ⟨k,l⟩
 | .snl _ k _=>some ⟨k,[]⟩
 | _=>none
def St.opdI (s:St) (x:Operand):Option (IntKind×Int×Bool×Bool):=(s.opd x).bind SVal.asI
def isZ:Operand→Bool
 | .const (.int _ n)=>decide (n=0)
 | _=>false
def qrZ (c:Seat) (s:St) (t:TypeId) (k:Ty) (l:List k.den) (lo hi mx:Option Operand):MV:=
 match c.P.underlying t with
 | some (.slice e)=>match c.is e k with
   | some _=>match lo,hi,mx with
     | none,none,none=> .pur (.val (.sl k) l)
     | some a,none,none=>match s.opdI a with
       | some (_,a,_,_)=> .need (0≤a∧a≤(l.length:Int)) (.pur (.val (.sl k) (l.drop a.toNat)))
       | none=> .no
     | none,some b,none=>match s.opdI b with
       | some (_,b,_,_)=> .need (0≤b∧b≤(l.length:Int)) (.pur (.val (.sl k) (l.take b.toNat)))
       | none=> .no
     | some a,some b,none=>match s.opdI a,s.opdI b with
       | some (_,a,_,_),some (_,b,_,_)=> .need (0≤a∧a≤b∧b≤(l.length:Int)) (.pur (.val (.sl k) ((l.take b.toNat).drop a.toNat)))
       | _,_=> .no
     | none,some b,some m=>bif isZ b && isZ m then .pur (.snl e k false) else (match s.opdI b,s.opdI m with
       | some (_,b,_,_),some (_,m,_,_)=> .need (0≤b∧b≤m∧m≤(l.length:Int)) (.pur (.val (.sl k) (l.take b.toNat)))
       | _,_=> .no)
     | _,_,_=> .no
   | none=> .no
 | _=> .no
def qck (s:St) (d:Int):Option Operand→Option (Int×Bool)
 | none=>some (d,true)
 | some x=>match s.opdI x with
   | some (_,a,l,_)=>some (a,l)
   | none=>none
def qr0 (c:Seat) (s:St) (t:TypeId) (l:List UInt8) (lo hi:Option Operand):MV:=
 match c.P.underlying t,qck s 0 lo,qck s (l.length:Int) hi with
 | some .string,some (a,_),some (b,_)=> .need (0≤a∧a≤b∧b≤(l.length:Int)) (.pur (.str ((l.take b.toNat).drop a.toNat)))
 | _,_,_=> .no
def qo1 (a b:Int) (n:Nat) (la lb:Bool):Bool:=la && lb && decide (0≤a) && decide (a≤b) && decide (b≤(n:Int)) && decide (a<(n:Int))
def qpQ (c:Seat) (s:St) (t:TypeId) (n:Nat) (k:Ty) (lo hi:Option Operand) (f:Nat→Nat→SVal):MV:=
 match c.P.underlying t,qck s 0 lo,qck s (n:Int) hi with
 | some (.array n' e),some (a,la),some (b,lb)=>match c.is e k with
   | some _=>bif Nat.beq n n' && Nat.ble n LM then (bif qo1 a b n la lb then .pur (f a.toNat b.toNat) else .need (0≤a∧a≤b∧b≤(n:Int)∧a<(n:Int)) (.pur (f a.toNat b.toNat))) else .no
   | none=> .no
 | _,_,_=> .no
def qoe (c:Seat) (s:St) (t:TypeId) (x:Operand) (lo hi mx:Option Operand):MV:=
 match s.opd x with
 | some (.str l)=>match mx with
   | none=>qr0 c s t l lo hi
   | some _=> .no
 | some (.box r T k p)=>(match mx,k with
   | none,.arr n k=>bif decide (T= .arr n k) && Nat.beq p.off 0 then qpQ c s t n k lo hi (fun a b=> .bsl r n k a b) else .no
   | _,_=> .no)
 | some (.pt (.arr n k) X)=>(match mx with
   | none=>qpQ c s t n k lo hi (fun a b=> .val (.sl k) ((X.take b).drop a))
   | some _=> .no)
 | some (.rw r)=>(match mx,s.res r,c.P.underlying t with
   | none,some ⟨.rw e' k l,_,_⟩,some (.slice e)=>(match c.is e k,qck s 0 lo,qck s (l.length:Int) hi with
     | some _,some (a,_),some (b,_)=>bif !Nat.blt e' DPB then .no else .need (0≤a∧a≤b∧b≤(l.length:Int)) (.pur (.rcut r k a.toNat b.toNat))
     | _,_,_=> .no)
   | _,_,_=> .no)
 | some v=>match v.asL with
   | some ⟨k,l⟩=>qrZ c s t k l lo hi mx
   | none=> .no
 | none=> .no
theorem cutV {α:Type} {k:Kd α} {K:Ghost} {l:List α} {A:Option Addr} {len cap a b:Nat} (hV:(Kd.sl k).V K l (.slice A len cap)) (h1:a≤b) (h2:b≤l.length):(Kd.sl k).V K ((l.take b).drop a) (.slice (if cap=a then A else A.map (·.add (a *k.sz))) (b - a) (cap - a)):=by
 obtain ⟨A',cap',he,hc,hlm,hwf,hS⟩:=qbC hV
 cases he
 have hlen:((l.take b).drop a).length=b - a:=by rw [List.length_drop,List.length_take];omega
 rw [←hlen]
 refine ⟨_,⟨_,cap - a,rfl,by rw [hlen];omega,by rw [hlen];omega,fun y hy=>hwf y (List.mem_of_mem_take (List.mem_of_mem_drop hy)),?_⟩,rfl⟩
 by_cases hne:(l.take b).drop a=[]
 ·exact .inl hne
 ·have hlt:a<b:=by
   rcases Nat.lt_or_ge a b with h | h
   ·exact h
   ·exact absurd (List.eq_nil_of_length_eq_zero (by rw [hlen];omega)) hne
  rw [if_neg (by omega)]
  rcases hS with rfl | ⟨bl,e2,pre,mid,post,rfl,hK,hR⟩
  ·simp at hne
  ·have hml:=RL.len (fun _ _=>k.len) hR
   have h3:=(RL.split (fun _ _=>k.len) a (RL.split (fun _ _=>k.len) b hR).1).2
   refine .inr ⟨bl,e2,pre++mid.take (a *k.sz),(mid.take (b *k.sz)).drop (a *k.sz),mid.drop (b *k.sz)++post,?_,?_,h3⟩
   ·have:a *k.sz≤mid.length:=by rw [hml];exact Nat.mul_le_mul_right _ (by omega)
    simp only [Option.map_some,qbe,List.length_append,List.length_take]
    congr 3
    omega
   ·rw [hK]
    congr 2
    have e1:mid.take (a *k.sz)++(mid.take (b *k.sz)).drop (a *k.sz)=mid.take (b *k.sz):=by
     have h4:mid.take (a *k.sz)=(mid.take (b *k.sz)).take (a *k.sz):=by
      rw [List.take_take,Nat.min_eq_left (Nat.mul_le_mul_right _ (by omega))]
     rw [h4,List.take_append_drop]
    have e2:mid=mid.take (a *k.sz)++(mid.take (b *k.sz)).drop (a *k.sz)++mid.drop (b *k.sz):=by rw [e1,List.take_append_drop]
    conv=>lhs;rw [e2]
    simp only [List.append_assoc]
theorem qq4 {P:Program} {e t1:TypeId} {by_ n cap:Nat} {α:Type} {k:Kd α} {ρ:Env} {x:Operand} {A:Option Addr} {a b:Int} {dst:Option Tmp} {ty:TypeId} {pos:String} {af:Array Edge} {g:Option (Nat×Bool)} {lo hi:Option Operand} (hx:ev ρ x= .slice A n cap) (hc:n≤cap) (hu:P.underlying t1=some (.slice e)) (hT:TyOk P e k by_) (hl:qci ρ lo a) (hh:qbp ρ (n:Int) hi b) (h0:0≤a) (h1:a≤b) (h2:b≤(n:Int)) (w:World):
 (execOp (ev ρ) ⟨dst,.slice t1 x lo hi none,ty,pos,af,g⟩).run P w= .ok (.value (.slice (if cap=a.toNat then A else A.map (·.add (a.toNat *k.sz))) (b.toNat - a.toNat) (cap - a.toNat))) w:=by
 have hrun:=qdl (P:=P) (w:=w) (isS:=true) (n:=n) (cap:=cap) hl hh h0 h1 h2 hc
 unfold execOp
 simp only [hx]
 simp [Instr.sliceAt,Instr.slice,run_underlying hu,hrun,hT.size]
def keyB (c:Seat) (kt:TypeId) (kk:Ty):Bool:=
 match kk,c.P.underlying kt with
 | .arr n .byte,some (.array n' e)=>Nat.beq n n' && (match c.P.underlying e with
   | some (.int .u8)=>true
   | _=>false) && (c.is e .byte).isSome
 | _,_=>false
def qjE (c:Seat) (s:St) (t:TypeId) (x y:Operand):MV:=
 match s.opd x,s.opd y,c.P.underlying t with
 | some (.mp r),some Y,some (.map kt vt)=>(match s.res r with
   | some ⟨.mp kk kv m _,_,_⟩=>(match Y.to kk,c.is vt kv with
     | some a,some _=>bif keyB c kt kk then .hld (some r) (.tup [.of kv ((@mfind _ _ kk.deq a m).getD kv.kd.z),.bv (@mfind _ _ kk.deq a m).isSome]) else .no
     | _,_=> .no)
   | _=> .no)
 | _,_,_=> .no
def bldP (c:Seat) (s:St) (fs:Array Field) (k:Ty):List (Nat×Operand)→k.den→Option k.den
 | [],X=>some X
 | (i,x)::l,X=>match fs[i]?,qkh fs.size k i,s.opd x with
   | some fd,some ⟨k',q⟩,some v=>match v.to k',c.is fd.type k' with
     | some y,some _=>bif Nat.beq fd.offset q.off then bldP c s fs k l (q.put X y) else none
     | _,_=>none
   | _,_,_=>none
def bldA (s:St) (k:Ty):Nat→List (Nat×Operand)→Option (List k.den)
 | _,[]=>some []
 | j,(i,x)::l=>bif Nat.beq i j then (match s.opd x with
   | some v=>match v.to k,bldA s k (j+1) l with
     | some y,some r=>some (y::r)
     | _,_=>none
   | none=>none) else none
def infos (P:Program):List Field→Bool
 | []=>true
 | f::l=>(P.info? f.type).isSome && infos P l
def Ty.hidB:Ty→Bool
 | .pr a b=>a.hidB || b.hidB
 | .st a=>a.hidB
 | .hsl _ _=>true
 | .hmp _ _=>true
 | _=>false
theorem qm8: ∀(m:List Value) (o:Nat) (c:Array Value),o+m.length≤c.size→((m.zipIdx).foldl (fun cs (p:Value×Nat)=>cs.setIfInBounds (o+p.2) p.1) c).toList=c.toList.take o++m++c.toList.drop (o+m.length):=by
 have gen: ∀(m:List Value) (o s:Nat) (c:Array Value),o+s+m.length≤c.size→((m.zipIdx s).foldl (fun cs (p:Value×Nat)=>cs.setIfInBounds (o+p.2) p.1) c).toList=c.toList.take (o+s)++m++c.toList.drop (o+s+m.length):=by
  intro m
  induction m with
  | nil=>intro o s c _;simp
  | cons x m ih=>
    intro o s c hc
    simp only [List.length_cons] at hc
    rw [List.zipIdx_cons,List.foldl_cons,ih o (s+1) _ (by simp;omega)]
    simp only [Array.toList_setIfInBounds]
    have h1:(c.toList.set (o+s) x).take (o+(s+1))=c.toList.take (o+s)++ [x]:=by
     rw [←Nat.add_assoc,List.take_add_one]
     rw [List.take_set_of_le (Nat.le_refl _)]
     congr 1
     have:o+s<c.toList.length:=by simp;omega
     rw [List.getElem?_set_self this]
     rfl
    have h2:(c.toList.set (o+s) x).drop (o+(s+1)+m.length)=c.toList.drop (o+s+(m.length+1)):=by
     rw [List.drop_set_of_lt (by omega)]
     congr 1
     omega
    rw [h1,h2]
    simp
 intro m o c h
 simpa using gen m o 0 c (by simpa using h)
theorem qki {α:Type} {k:Kd α} {K:Ghost} (sz:Nat): ∀(l:List (α×Value)) (i:Nat) (pre rest:List Value) (cells:Array Value),(∀p∈l,k.V K p.1 p.2)→pre.length=i *sz→cells.toList=pre++rest→l.length *sz≤rest.length→k.sz=sz→
 ∃c,Instr.fill (fun j=>some (j *sz,sz)) cells ((l.map (·.2)).zipIdx i |>.map fun p=>(p.2,p.1))=some c∧∃mid,c.toList=pre++mid++rest.drop (l.length *sz)∧RL (k.R K) (l.map (·.1)) mid
 | [],i,pre,rest,cells,_,hp,ht,hs,hk=>⟨cells,rfl,[],by simpa using ht,rfl⟩
 | (a,v)::l,i,pre,rest,cells,hV,hp,ht,hs,hk=>by
   have hv:=hV (a,v) (by simp)
   have hvs:v.cells.size=sz:=hv.size.trans hk
   have hlv:v.cells.toList.length=sz:=by simpa using hvs
   have hmul:(l.length+1) *sz=l.length *sz+sz:=by rw [Nat.add_mul,Nat.one_mul]
   have hs':l.length *sz+sz≤rest.length:=by rw [←hmul];exact hs
   have hcl:cells.toList.length=i *sz+rest.length:=by rw [ht,List.length_append,hp]
   have hcs:cells.size=i *sz+rest.length:=by simpa using hcl
   have hf:=qm8 v.cells.toList (i *sz) cells (by rw [hlv];omega)
   have e1:cells.toList.take (i *sz)=pre:=by rw [ht,←hp];exact List.take_left
   have e2:cells.toList.drop (i *sz+sz)=rest.drop sz:=by rw [ht,←hp,←List.drop_drop,List.drop_left]
   rw [hlv,e1,e2] at hf
   obtain ⟨c,hc,mid,hm,hRm⟩:=qki sz l (i+1) (pre++v.cells.toList) (rest.drop sz) (v.cells.zipIdx.foldl (fun cs (p:Value×Nat)=>cs.setIfInBounds (i *sz+p.2) p.1) cells) (fun p hp=>hV p (by simp [hp])) (by rw [List.length_append,hlv,hp,Nat.add_mul,Nat.one_mul]) (by
    rw [←Array.foldl_toList,Array.toList_zipIdx,hf]) (by rw [List.length_drop];omega) hk
   refine ⟨c,?_,v.cells.toList++mid,by rw [hm,List.drop_drop,List.length_cons,hmul,Nat.add_comm sz];simp,v.cells.toList,mid,rfl,hv.cells,hRm⟩
   simp only [List.map_cons,List.zipIdx_cons,Instr.fill]
   have hcond: ¬((decide (v.cells.size≠sz) || decide (i *sz+v.cells.size>cells.size))=true):=by simp;omega
   rw [if_neg hcond]
   exact hc
theorem qma {α:Type} {k:Kd α} {K:Ghost}: ∀m:Nat,RL (k.R K) (List.replicate m k.z) (List.replicate m k.zc).flatten
 | 0=>rfl
 | m+1=>⟨k.zc,(List.replicate m k.zc).flatten,rfl,k.hz K,qma m⟩
theorem qsX {P:Program} {α:Type} {k:Kd α} {e t:TypeId} {by_:Nat} {K:Ghost} {ρ:Env} {dst:Option Tmp} {ty:TypeId} {pos:String} {af:Array Edge} {g:Option (Nat×Bool)} {l:List (α×Value)} {ps:List (Nat×Operand)} {n:Nat} (hT0:TyOk P t (Kd.arr n k) by_) {by':Nat} (hT:TyOk P e k by') (hu:P.underlying t=some (.array n e)) (hps:ps.map (fun p=>(p.1,ev ρ p.2))=((l.map (·.2)).zipIdx.map fun p=>(p.2,p.1))) (hV: ∀p∈l,k.V K p.1 p.2) (hn:l.length≤n):
 ∃v,(∀w:World,(execOp (ev ρ) ⟨dst,.build t ps.toArray,ty,pos,af,g⟩).run P w= .ok (.value v) w)∧(Kd.arr n k).V K (l.map (·.1)++List.replicate (n - l.length) k.z) v:=by
 obtain ⟨i,z,hi,hsi,hz,hzc,hbi, -⟩:=hT0.info
 have hzr: ∀w:World,(zeroValue t).run P w= .ok z w:=fun w=>by simp [zeroValue,typeInfo,hi,hz]
 have hzl:k.zc.length=k.sz:=k.len (k.hz K)
 have hz1:z.cells.toList=(List.replicate l.length k.zc).flatten++(List.replicate (n - l.length) k.zc).flatten:=by
  rw [hzc,←List.flatten_append,List.replicate_append_replicate,show l.length+(n - l.length)=n from by omega]
  rfl
 have fl: ∀m:Nat,(List.replicate m k.zc).flatten.length=m *k.sz:=fun m=>by rw [List.length_flatten,List.map_replicate,List.sum_replicate_nat,hzl]
 obtain ⟨c,hc,mid,hm,hRm⟩:=qki (k:=k) (K:=K) k.sz l 0 [] z.cells.toList z.cells hV (by simp) rfl (by rw [hz1,List.length_append,fl];omega) rfl
 have hd:z.cells.toList.drop (l.length *k.sz)=(List.replicate (n - l.length) k.zc).flatten:=by
  rw [hz1,←fl l.length,List.drop_left]
 rw [hd] at hm
 refine ⟨.agg c,fun w=>?_,⟨c.toList,⟨by simp;omega,?_⟩,by simp [Kd.arr]⟩⟩
 ·unfold execOp
  simp only [List.map_toArray,hps]
  have key:(Instr.build t ((l.map (·.2)).zipIdx.map fun p=>(p.2,p.1)).toArray).run P w= .ok (.agg c) w:=by
   unfold Instr.build
   simp only [Sem.run_bind,hzr w,Result.andThen_ok,run_underlying hu,hT.size]
   simp [hc]
  simp [key]
 ·rw [hm]
  exact RL.append (by simpa using hRm) (qma _)
def qn3 (c:Seat) (s:St) (t:TypeId) (ps:Array (Nat×Operand)):MV:=
 match c.P.underlying t,c.ty false t with
 | some (.struct fs),some (k,_)=>bif k.kd.agg && infos c.P fs.toList then bif ps.toList.isEmpty && k.hidB then .pur (.zer k) else (match bldP c s fs k ps.toList k.kd.z with
   | some Z=> .pur (.of k Z)
   | none=> .no) else .no
 | some (.array n e),some (.arr n' k,_)=>bif Nat.beq n n' && (c.is e k).isSome then (match ps.toList with
   | []=>bif (c.P.info? e).isSome then .pur (.val (.arr n' k) (List.replicate n' k.kd.z)) else .no
   | l=>match bldA s k 0 l with
     | some xs=>bif Nat.beq l.length n then .pur (.val (.arr n' k) xs) else (bif Nat.blt l.length n then .pur (.val (.arr n' k) (xs++List.replicate (n' - l.length) k.kd.z)) else .no)
     | none=> .no) else .no
 | _,_=> .no
def Seat.atB (c:Seat) (n:Nat):Option Tmp→Bool
 | some d=>c.rwB (n+d)
 | none=>false
def oneB:SVal→Bool
 | .lit _ _ | .int _ _ _ | .byt _ | .bt _ | .bv _ | .snil | .str _=>true
 | _=>false
def zerL:List Value→Option (List SVal)
 | []=>some []
 | v::l=>match qkb v,zerL l with
   | some s,some r=>bif oneB s then some (s::r) else none
   | _,_=>none
def sz1 (c:Seat) (t:TypeId):Bool:=match c.P.info? t with
 | some i=>Nat.beq i.size 1
 | none=>false
def bldG (c:Seat) (s:St) (fs:Array Field):List (Nat×Operand)→List SVal→Option (List SVal)
 | [],l=>some l
 | (i,x)::r,l=>match fs[i]?,s.opd x with
   | some fd,some sv=>bif (oneB sv && Nat.blt fd.offset l.length) && sz1 c fd.type then bldG c s fs r (l.set fd.offset sv) else none
   | _,_=>none
def bldV (s:St):Nat→List (Nat×Operand)→Option (List SVal)
 | _,[]=>some []
 | j,(i,x)::l=>bif Nat.beq i j then (match s.opd x,bldV s (j+1) l with
   | some (.box r T t p),some m=>some (.box r T t p::m)
   | _,_=>none) else none
def qjC (c:Seat) (s:St) (t:TypeId) (ps:Array (Nat×Operand)):MV:=
 match c.P.underlying t,c.ty false t with
 | some (.array n e),some (.arr n' (.ptr _),_)=>(match c.ty true e,bldV s 0 ps.toList with
   | some (.ptr _,_),some l=>bif Nat.beq n n' && Nat.beq ps.toList.length n then .pur (.agg l) else .no
   | _,_=> .no)
 | _,_=> .no
def qjA (c:Seat) (s:St) (t:TypeId) (ps:Array (Nat×Operand)):MV:=
 match c.P.underlying t,c.P.info? t with
 | some (.struct fs),some i=>bif infos c.P fs.toList then (match i.zero with
   | some z=>(match zerL z.cells.toList with
     | some l0=>(match bldG c s fs ps.toList l0 with
       | some l=> .pur (.agg l)
       | none=> .no)
     | none=> .no)
   | none=> .no) else .no
 | _,_=> .no
def qr4 (s:St) (z x y:Operand):MV:=
 match s.opd z with
 | some (.bt b)=>match s.opd (bif b then x else y) with
   | some v=> .pur v
   | none=> .no
 | _=> .no
def vMM (s:St) (mx:Bool) (x y:Operand):MV:=
 match s.opdI x,s.opdI y with
 | some (k,a,_,_),some (k',b,_,_)=>if k=k' then .pur (.int k (bif mx then max a b else min a b) false) else .no
 | _,_=> .no
def qrX (c:Seat) (s:St) (l:Call):MV:=
 match l.callee,l.args.toList,l.argTypes.toList with
 | .builtin .len,[x],[t]=>vLen c s t x
 | .builtin .max,[x,y],_=>vMM s true x y
 | .builtin .min,[x,y],_=>vMM s false x y
 | _,_,_=> .no
def opV (c:Seat) (s:St) (o:Oper):MV:=
 match o.op with
 | .move x=>bif c.atB 8000000 o.dst then .no else qpS c s o.type x
 | .assign x=>qpS c s o.type x
 | .binOp b t x y _=>vBin c s b t x y
 | .unOp u _ x=>vUn c s u x
 | .convert a b x=>qrY c s a b x
 | .fieldAddr t x f=>qeJ c s t x f
 | .field t x f=>qn8 c s t x f
 | .indexAddr t x i=>qeK c s t x i
 | .index t x i=>qoa c s t x i
 | .nilCheck x=>qf3 s x
 | .load t x=>qr3 c s t x
 | .extract x i=>qhM s x i
 | .makeFunc f fs cs=>qr2 s f fs cs
 | .slice t x lo hi mx=>bif c.atB 5000000 o.dst then .no else qoe c s t x lo hi mx
 | .lookup t x y b=>bif b then qjE c s t x y else .no
 | .build t ps=>bif c.atB 4000000 o.dst then qjA c s t ps else (bif c.atB 6000000 o.dst then qjC c s t ps else qn3 c s t ps)
 | .pick z x y=>qr4 s z x y
 | .call l=>qrX c s l
 | _=> .no
section
variable {c:Seat} {G:Glob} {s:St} {ρ:Env} {θ:Th} {w:World} {K:Ghost} {x y i z:Operand} {n:Nat}
variable {dst:Option Tmp} {ty:TypeId} {pos:String} {af:Array Edge} {g:Option (Nat×Bool)} {t t1 t2:TypeId} {f:Nat}
theorem qiC (h:Rel G s θ ρ w K) {o:Oper} (hr: ∀w':World,(execOp (ev ρ) o).run c.P w'= .ok (.value (ev ρ x)) w'):(qpS c s ty x).snd c.P o ρ θ s.nx w K:=by
 unfold qpS
 split
 ·rename_i hX
  have hv:ev ρ x= .slice none 0 0:=h.opd hX
  split
  ·split
   ·exact qad (v:= .snl _ _ _) ⟨none,hv,fun _=>rfl⟩ hr
   ·exact qad (v:= .snil) hv hr
  ·exact qad (v:= .snil) hv hr
 ·rename_i v _ hX
  exact qad (h.opd hX) hr
 ·trivial
theorem SVal.asL_rel {v:SVal} {u:Value} {k:Ty} {l:List k.den} (h:v.asL=some ⟨k,l⟩) (hr:v.rel θ n K u):(Kd.sl k.kd).V K l u:=by
 cases v with
 | val T X=>
   cases T<;>simp only [SVal.asL,Option.some.injEq,Sigma.mk.injEq,reduceCtorEq] at h
   obtain ⟨rfl,h⟩:=h
   cases h
   exact hr
 | own r T X=>
   simp only [SVal.asL,Option.some.injEq,Sigma.mk.injEq] at h
   obtain ⟨rfl,h⟩:=h
   cases h
   exact hr.2.1
 | snl e T z=>
   simp only [SVal.asL,Option.some.injEq,Sigma.mk.injEq] at h
   obtain ⟨rfl,h⟩:=h
   cases h
   obtain ⟨A,rfl,_⟩:=hr
   exact qhK
 | _=>simp [SVal.asL] at h
theorem Rel.opdI (h:Rel G s θ ρ w K) {k:IntKind} {a:Int} {l lv:Bool} (hx:s.opdI x=some (k,a,l,lv)):ev ρ x= .int k a∧(Kd.int k).wf a:=by
 obtain ⟨X,h1,h2⟩:=qbs hx
 exact SVal.asI_rel h2 (h.opd h1)
theorem qqi {x:Operand} (h:isZ x=true): ∃ik,x= .const (.int ik 0):=by
 unfold isZ at h
 split at h
 ·rename_i ik m
  simp only [decide_eq_true_eq] at h
  subst h
  exact ⟨ik,rfl⟩
 ·cases h
theorem qs7 {α:Type} {k:Kd α} {P:Program} {ρ:Env} {K:Ghost} {e t1:TypeId} {by_:Nat} {x hi mx:Operand} {ik ik':IntKind} {b m:Int} {l:List α} {dst:Option Tmp} {ty:TypeId} {pos:String} {af:Array Edge} {g:Option (Nat×Bool)} (hV:(Kd.sl k).V K l (ev ρ x)) (hu:P.underlying t1=some (.slice e)) (hT:TyOk P e k by_) (hh:ev ρ hi= .int ik b) (hm:ev ρ mx= .int ik' m) (h0:0≤b) (h1:b≤m) (h2:m≤(l.length:Int)):
 ∃v,(∀w:World,(execOp (ev ρ) ⟨dst,.slice t1 x none (some hi) (some mx),ty,pos,af,g⟩).run P w= .ok (.value v) w)∧(Kd.sl k).V K (l.take b.toNat) v:=by
 obtain ⟨A,cap,hx,hc,hlm,hwf,hS⟩:=qbC hV
 have hlen:(l.take b.toNat).length=b.toNat:=by rw [List.length_take];omega
 have hrun: ∀w:World,(Instr.sliceBounds true l.length cap none (some (ev ρ hi)) (some (ev ρ mx))).run P w= .ok (0,b.toNat,m.toNat) w:=fun w=>by
  have b1: ∀c:BoundsCode,(Instr.sliceBound (.int ik' m) cap c).run P w= .ok m.toNat w:=fun c=>qb2 (by omega) (by omega)
  have b2: ∀c:BoundsCode,(Instr.sliceBound (.int ik b) m.toNat c).run P w= .ok b.toNat w:=fun c=>qb2 (by omega) (by omega)
  simp [Instr.sliceBounds,hh,hm,b1,b2]
 refine ⟨.slice A (l.take b.toNat).length m.toNat,fun w=>?_,?_⟩
 ·rw [hlen]
  unfold execOp
  simp only [hx]
  simp [Instr.sliceAt,Instr.slice,run_underlying hu,hrun w,hT.size]
  intro _
  cases A with
  | none=>rfl
  | some a=>cases a;simp [Addr.add]
 ·refine ⟨_,⟨_,m.toNat,rfl,by rw [hlen];omega,by rw [hlen];omega,fun y hy=>hwf y (List.mem_of_mem_take hy),?_⟩,rfl⟩
  rcases hS with rfl | ⟨bl,e2,pre,mid,post,rfl,hK,hR⟩
  ·exact .inl (by simp)
  ·have h3:=(RL.split (fun _ _=>k.len) b.toNat hR).1
   refine .inr ⟨bl,e2,pre,mid.take (b.toNat *k.sz),mid.drop (b.toNat *k.sz)++post,rfl,?_,h3⟩
   rw [hK]
   have e3:mid.take (b.toNat *k.sz)++(mid.drop (b.toNat *k.sz)++post)=mid++post:=by rw [←List.append_assoc,List.take_append_drop]
   simp only [List.append_assoc,e3]
theorem qn6 (hc:c.ok) (h:Rel G s θ ρ w K) {k:Ty} {l:List k.den} (hx:(Kd.sl k.kd).V K l (ev ρ x)) {lo hi mx:Option Operand}:(qrZ c s t k l lo hi mx).snd c.P ⟨dst,.slice t x lo hi mx,ty,pos,af,g⟩ ρ θ s.nx w K:=by
 unfold qrZ
 split
 ·rename_i e hu
  split
  ·rename_i b hb
   have hT:=hc.is_ok hb
   split
   ·obtain ⟨v,hr,hV⟩:=qs9 (dst:=dst) (ty:=ty) (pos:=pos) (af:=af) (g:=g) rfl hx hu hT
    exact qad (v:= .val _ _) hV hr
   ·split
    ·rename_i ha
     intro hp
     obtain ⟨v,hr,hV⟩:=qs8 (dst:=dst) (ty:=ty) (pos:=pos) (af:=af) (g:=g) rfl hx hu hT (h.opdI ha).1 hp.1 hp.2
     exact qad (v:= .val _ _) hV hr
    ·trivial
   ·split
    ·rename_i ha
     intro hp
     obtain ⟨v,hr,hV⟩:=quc (dst:=dst) (ty:=ty) (pos:=pos) (af:=af) (g:=g) rfl hx hu hT (h.opdI ha).1 hp.1 hp.2
     exact qad (v:= .val _ _) hV hr
    ·trivial
   ·split
    ·rename_i ha hb
     intro hp
     obtain ⟨v,hr,hV⟩:=qta (dst:=dst) (ty:=ty) (pos:=pos) (af:=af) (g:=g) rfl hx hu hT (h.opdI ha).1 (h.opdI hb).1 hp.1 hp.2.1 hp.2.2
     exact qad (v:= .val _ _) hV hr
    ·trivial
   ·rename_i b' m'
    cases hz:(isZ b' && isZ m') with
    | false=>
      simp only [cond_false]
      split
      ·rename_i ha hb
       intro hp
       obtain ⟨v,hr,hV⟩:=qs7 (dst:=dst) (ty:=ty) (pos:=pos) (af:=af) (g:=g) hx hu hT (h.opdI ha).1 (h.opdI hb).1 hp.1 hp.2.1 hp.2.2
       exact qad (v:= .val _ _) hV hr
      ·trivial
    | true=>
      simp only [Bool.and_eq_true] at hz
      obtain ⟨ik,rfl⟩:=qqi hz.1
      obtain ⟨ik',rfl⟩:=qqi hz.2
      obtain ⟨A,hr⟩:=qs6 (dst:=dst) (ty:=ty) (pos:=pos) (af:=af) (g:=g) (ik:=ik) (ik':=ik') rfl hx hu hT
      exact qad (v:= .snl _ _ _) ⟨A,rfl,fun h=>by cases h⟩ hr
   ·trivial
  ·trivial
 ·trivial
theorem qrz (h:Rel G s θ ρ w K) {lo:Option Operand} {a:Int} {l:Bool} (hl:qck s 0 lo=some (a,l)):qci ρ lo a:=by
 cases lo with
 | none=>cases hl;exact qci.no
 | some x=>
   simp only [qck] at hl
   split at hl
   ·rename_i h1
    cases hl
    exact qci.yes (h.opdI h1).1
   ·cases hl
theorem qnk (h:Rel G s θ ρ w K) {lo:Option Operand} {a d:Int} {l:Bool} (hl:qck s d lo=some (a,l)):qbp ρ d lo a:=by
 cases lo with
 | none=>cases hl;exact qbp.no
 | some x=>
   simp only [qck] at hl
   split at hl
   ·rename_i h1
    cases hl
    exact qbp.yes (h.opdI h1).1
   ·cases hl
theorem qn7 (h:Rel G s θ ρ w K) {l:List UInt8} (hx:ev ρ x= .string ⟨l.toArray⟩) (hl:l.length≤LM) {lo hi:Option Operand}:(qr0 c s t l lo hi).snd c.P ⟨dst,.slice t x lo hi none,ty,pos,af,g⟩ ρ θ s.nx w K:=by
 unfold qr0
 split
 ·rename_i hu h1 h2
  exact fun hp=>qad (v:= .str _) ⟨rfl,Nat.le_trans (by rw [List.length_drop,List.length_take];omega) hl⟩ fun w'=>qt7 hx hu (qrz h h1) (qnk h h2) hp.1 hp.2.1 hp.2.2
 ·trivial
theorem qo2 {a b:Int} {la lb:Bool} (h:qo1 a b n la lb=true):0≤a∧a≤b∧b≤(n:Int)∧a<(n:Int):=by
 simp only [qo1,Bool.and_eq_true,decide_eq_true_eq] at h
 exact ⟨h.1.1.1.2,h.1.1.2,h.1.2,h.2⟩
theorem qiA (hc:c.ok) (h:Rel G s θ ρ w K) {k:Ty} {lo hi:Option Operand} {f:Nat→Nat→SVal} {bl o:Nat} (hx:ev ρ x= .pointer (some ⟨bl,o,none⟩)) (hn:n≤LM→∀a b:Nat,a≤b→b≤n→(f a b).rel θ s.nx K (.slice (some ⟨bl,o+a *k.kd.sz,none⟩) (b - a) (n - a))):(qpQ c s t n k lo hi f).snd c.P ⟨dst,.slice t x lo hi none,ty,pos,af,g⟩ ρ θ s.nx w K:=by
 unfold qpQ
 split
 ·rename_i n' e a la b lb hu h1 h2
  split
  ·rename_i bb hb
   cases hz:(Nat.beq n n' && Nat.ble n LM) with
   | false=>trivial
   | true=>
     simp only [Bool.and_eq_true] at hz
     obtain rfl:=Nat.eq_of_beq_eq_true hz.1
     have key:(0≤a∧a≤b∧b≤(n:Int)∧a<(n:Int))→(MV.pur (f a.toNat b.toNat)).snd c.P ⟨dst,.slice t x lo hi none,ty,pos,af,g⟩ ρ θ s.nx w K:=fun hp=>
      qad (hn (Nat.le_of_ble_eq_true hz.2) _ _ (by omega) (by omega)) fun w'=>qud hx hu (hc.is_ok hb) (qrz h h1) (qnk h h2) hp.1 hp.2.1 hp.2.2.1 hp.2.2.2
     simp only [cond_true]
     cases hcut:qo1 a b n la lb with
     | true=>exact key (qo2 hcut)
     | false=>exact key
  ·trivial
 ·trivial
theorem qlu (hc:c.ok) (h:Rel G s θ ρ w K) {lo hi mx:Option Operand}:(qoe c s t x lo hi mx).snd c.P ⟨dst,.slice t x lo hi mx,ty,pos,af,g⟩ ρ θ s.nx w K:=by
 unfold qoe
 split
 ·rename_i l hX
  split
  ·exact qn7 h (h.opd hX).1 (h.opd hX).2
  ·trivial
 ·rename_i r T k0 p0 hX
  split
  ·rename_i n k p
   cases hz:(decide (T= .arr n k) && Nat.beq p.off 0) with
   | false=>trivial
   | true=>
     simp only [Bool.and_eq_true] at hz
     obtain ⟨hr,hp,bl,o,hk,hv⟩:=h.opd hX
     have h0:=Nat.eq_of_beq_eq_true hz.2
     rw [h0] at hv
     exact qiA hc h hv fun hn a b h1 h2=>⟨hr,⟨h1,h2,hn⟩,bl,o,hk,rfl⟩
  ·trivial
 ·rename_i n k X hX
  split
  ·have hP:(Ty.arr n k).kd.Pt K X (ev ρ x):=h.opd hX
   obtain ⟨bl,o,hv⟩:=hP.form
   rw [hv] at hP
   exact qiA hc h hv fun hn a b h1 h2=>Pt.cut hP h1 h2 hn
  ·trivial
 ·rename_i r hX
  split
  ·rename_i e' k l og lk e hres hu
   split
   ·rename_i by0 a la b lb hb hlo hhi
    cases hd:Nat.blt e' DPB with
    | false=>trivial
    | true=>
    intro hp
    obtain ⟨hr,hkey⟩:=h.opd hX
    obtain ⟨hn,l0,hO⟩:=((RwX.flat hd).1 (h.res _ _ hres).2.1).1
    obtain ⟨A,cap,he,hc1,_⟩:=qbC hO.V
    have hk:θ.key r= .slice A l.length cap:=he
    exact qad (v:= .rcut _ _ _ _) ⟨hr,by omega,A,l.length,cap,hk,by omega,rfl⟩ fun w'=>qq4 (hkey.symm.trans hk) hc1 hu (hc.is_ok hb) (qrz h hlo) (qnk h hhi) hp.1 hp.2.1 hp.2.2 w'
   ·trivial
  ·trivial
 ·rename_i v _ _ _ hX
  split
  ·rename_i k l hl
   exact qn6 hc h (SVal.asL_rel hl (h.opd hX))
  ·trivial
 ·trivial
theorem qno (hc:c.ok) {kt:TypeId} {kk:Ty} (h:keyB c kt kk=true): @KeyOk _ c.P kt kk.kd kk.deq:=by
 unfold keyB at h
 split at h
 ·rename_i n n' e hu
  simp only [Bool.and_eq_true] at h
  obtain ⟨⟨h1,h2⟩,h3⟩:=h
  obtain rfl:=Nat.eq_of_beq_eq_true h1
  obtain ⟨b,hb⟩:=Option.isSome_iff_exists.1 h3
  split at h2
  ·rename_i he
   exact qcq hu he (hc.is_ok hb)
  ·cases h2
 ·cases h
theorem qjF (hc:c.ok) (h:Rel G s θ ρ w K):(qjE c s t x y).snd c.P ⟨dst,.lookup t x y true,ty,pos,af,g⟩ ρ θ s.nx w K:=by
 unfold qjE
 split
 ·rename_i r Y kt vt hX hY hu
  split
  ·rename_i kk kv m nn o l hr
   split
   ·rename_i a b ha hb
    cases hk:keyB c kt kk with
    | false=>trivial
    | true=>
      letI:=kk.deq
      obtain ⟨hm,hf,_⟩:=(h.res _ _ hr).2.1
      have hkey:θ.key r=ev ρ x:=(h.opd hX).2
      have hkO:KeyOk c.P kt kk.kd:=qno hc hk
      rw [hkey] at hm hf
      obtain ⟨v,hrun,hV⟩:=qml (dst:=dst) (ty:=ty) (pos:=pos) (af:=af) (g:=g) (Z:=fun g=>mb (ev ρ x)≠some g) (kk:=kk.kd) (kv:=kv.kd) rfl rfl hm (SVal.to_rel ha (h.opd hY)) hu hkO (hc.is_ok hb) (fun q hq hne=>hne hq)
      refine ⟨_,⟨[v,.bool (mfind a m).isSome],rfl,v,_,rfl,SVal.of_rel hV,_,_,rfl,rfl,rfl⟩,fun Z hZ w' K' hE hM=>?_⟩
      refine hrun w' K' (hE.weak fun g _ hg hne=>?_) hM
      exact hZ r rfl g ((hf g).2 hne) hg
   ·trivial
  ·trivial
 ·trivial
theorem qmE (hc:c.ok) (h:Rel G s θ ρ w K) {fs:Array Field} {k:Ty}: ∀ {l:List (Nat×Operand)} {X Z:k.den},bldP c s fs k l X=some Z→Parts c.P K fs k.kd (l.map fun p=>(p.1,ev ρ p.2)) X Z
 | [],X,Z,hb=>by cases hb;exact Parts.nil
 | (j,x)::l,X,Z,hb=>by
   simp only [bldP] at hb
   split at hb
   ·rename_i fd k' q v hf hq hv
    split at hb
    ·rename_i y b hy hT
     cases ho:Nat.beq fd.offset q.off with
     | true=>
       rw [ho] at hb
       exact Parts.cons hf (Nat.eq_of_beq_eq_true ho) (hc.is_ok hT) (q.ok (qgv hq)) (SVal.to_rel hy (h.opd hv)) (qmE hc h hb)
     | false=>rw [ho] at hb;cases hb
    ·cases hb
   ·cases hb
theorem qi0 (h:Rel G s θ ρ w K) {k:Ty}: ∀ {l:List (Nat×Operand)} {j:Nat} {xs:List k.den},bldA s k j l=some xs→∃zs:List (k.den×Value),zs.map (·.1)=xs∧zs.length=l.length∧l.map (fun p=>(p.1,ev ρ p.2))=((zs.map (·.2)).zipIdx j).map (fun p=>(p.2,p.1))∧∀p∈zs,k.kd.V K p.1 p.2
 | [],j,xs,hb=>by cases hb;exact ⟨[],rfl,rfl,rfl,by simp⟩
 | (i,x)::l,j,xs,hb=>by
   simp only [bldA] at hb
   cases ho:Nat.beq i j with
   | false=>rw [ho] at hb;cases hb
   | true=>
     obtain rfl:=Nat.eq_of_beq_eq_true ho
     rw [ho] at hb
     simp only [cond_true] at hb
     split at hb
     ·rename_i v hv
      split at hb
      ·rename_i y r hy hr
       cases hb
       obtain ⟨zs,h1,h2,h3,h4⟩:=qi0 h hr
       refine ⟨(y,ev ρ x)::zs,by simp [h1],by simp [h2],by simp [h3,List.zipIdx_cons],?_⟩
       intro p hp
       rcases List.mem_cons.1 hp with rfl | hp
       ·exact SVal.to_rel hy (h.opd hv)
       ·exact h4 p hp
      ·cases hb
     ·cases hb
theorem qfa {P:Program}: ∀ {l:List Field},infos P l=true→∀f∈l,∃i,P.info? f.type=some i
 | [],_,f,hf=>by cases hf
 | f'::l,h,f,hf=>by
   simp only [infos,Bool.and_eq_true] at h
   rcases List.mem_cons.1 hf with rfl | hf
   ·exact Option.isSome_iff_exists.1 h.1
   ·exact qfa h.2 f hf
theorem quf {P:Program} {fs:Array Field} {α:Type} {k:Kd α} {by_:Nat} (hT:TyOk P t k by_) (ha:k.agg=true) (hu:P.underlying t=some (.struct fs)) (hfs: ∀f∈fs.toList,∃i,P.info? f.type=some i) (w:World):(execOp (ev ρ) ⟨dst,.build t #[],ty,pos,af,g⟩).run P w= .ok (.value (.agg k.zc.toArray)) w:=by
 obtain ⟨i,z,hi,hsi,hz,hzc,hbi,hzv⟩:=hT.info
 obtain ⟨l,hl,hq⟩:=qdN (P:=P) hfs
 have hzr:(zeroValue t).run P w= .ok z w:=by simp [zeroValue,typeInfo,hi,hz]
 have hcs:z.cells=k.zc.toArray:=by rw [←hzc]
 have key:(Instr.build t #[]).run P w= .ok (.agg z.cells) w:=by
  unfold Instr.build
  have hm:(fs.mapM fun f=>do pure (f.offset,←sizeOf f.type):Sem (Array (Nat×Nat))).run P w= .ok l.toArray w:=by
   rw [Array.mapM_eq_mapM_toList]
   rw [←bind_pure_comp]
   simp only [Sem.run_bind,hl,Result.andThen_ok,Sem.run_pure]
  simp only [Sem.run_bind,hzr,Result.andThen_ok,run_underlying hu,hm]
  simp [Instr.fill]
 unfold execOp
 simp [key,hcs]
theorem qny {sv:SVal} {v:Value} (h:oneB sv=true) (hr:sv.rel θ n K v):v.oneCell'=true:=by
 cases sv with
 | lit _ _=>rw [hr.1];rfl
 | int _ _ _=>rw [hr.1];rfl
 | byt _=>rw [show v=_ from hr];rfl
 | bt _=>rw [show v=_ from hr];rfl
 | bv _=>rw [show v=_ from hr];rfl
 | snil=>rw [show v=_ from hr];rfl
 | str _=>rw [hr.1];rfl
 | _=>cases h
theorem qoi: ∀ {vs:List Value} {l:List SVal},zerL vs=some l→SVal.relL θ n K l vs∧∀u∈vs,u.oneCell'=true
 | [],l,h=>by cases h;exact ⟨rfl,by simp⟩
 | v::vs,l,h=>by
   simp only [zerL] at h
   split at h
   ·rename_i s r hs hr
    cases hb:oneB s with
    | false=>rw [hb] at h;cases h
    | true=>
      rw [hb] at h
      cases h
      have h1:s.rel θ n K v:=qgt hs
      obtain ⟨h2,h3⟩:=qoi hr
      exact ⟨⟨v,vs,rfl,h1,h2⟩,fun u hu=>by
       rcases List.mem_cons.1 hu with rfl | hu
       ·exact qny hb h1
       ·exact h3 u hu⟩
   ·cases h
theorem qkz: ∀ {l:List SVal} {vs:List Value} {i:Nat} {s:SVal} {v:Value},SVal.relL θ n K l vs→s.rel θ n K v→SVal.relL θ n K (l.set i s) (vs.set i v)
 | [],vs,i,s,v,h,hs=>by have h:vs=[]:=h;subst h;exact rfl
 | z::l,vs,0,s,v,⟨u,r,e,h1,h2⟩,hs=>by subst e;exact ⟨v,r,rfl,hs,h2⟩
 | z::l,vs,i+1,s,v,⟨u,r,e,h1,h2⟩,hs=>by subst e;exact ⟨u,_,rfl,h1,qkz h2 hs⟩
theorem qip: ∀ {l:List SVal} {vs:List Value},SVal.relL θ n K l vs→vs.length=l.length
 | [],vs,h=>by have h:vs=[]:=h;subst h;rfl
 | z::l,vs,⟨u,r,e,h1,h2⟩=>by subst e;simp [qip h2]
theorem qmD (h:Rel G s θ ρ w K) {fs:Array Field} (place:Nat→Option (Nat×Nat)) (hpl: ∀i fd inf,fs[i]?=some fd→c.P.info? fd.type=some inf→place i=some (fd.offset,inf.size)): ∀ {ps:List (Nat×Operand)} {l l':List SVal} {cs:Array Value},bldG c s fs ps l=some l'→SVal.relL θ s.nx K l cs.toList→(∀u∈cs.toList,u.oneCell'=true)→
 ∃cs',Instr.fill place cs (ps.map fun p=>(p.1,ev ρ p.2))=some cs'∧SVal.relL θ s.nx K l' cs'.toList∧∀u∈cs'.toList,u.oneCell'=true
 | [],l,l',cs,hb,hr,ho=>by cases hb;exact ⟨cs,rfl,hr,ho⟩
 | (i,x)::ps,l,l',cs,hb,hr,ho=>by
   simp only [bldG] at hb
   split at hb
   ·rename_i fd sv hfd hsv
    cases hq:((oneB sv && Nat.blt fd.offset l.length) && sz1 c fd.type) with
    | false=>rw [hq] at hb;cases hb
    | true=>
      rw [hq] at hb
      simp only [cond_true] at hb
      simp only [Bool.and_eq_true] at hq
      obtain ⟨⟨q1,q2⟩,q3⟩:=hq
      have q2:=Nat.le_of_ble_eq_true q2
      obtain ⟨inf,hinf,hsz⟩: ∃inf,c.P.info? fd.type=some inf∧inf.size=1:=by
       unfold sz1 at q3
       split at q3
       ·rename_i inf hinf;exact ⟨inf,hinf,Nat.eq_of_beq_eq_true q3⟩
       ·cases q3
      have hv:=h.opd hsv
      have h1:=qny q1 hv
      have hlen:=qip hr
      have hlt:fd.offset<cs.toList.length:=by omega
      have hc:cs.toList=cs.toList.take fd.offset++ [cs.toList[fd.offset]]++cs.toList.drop (fd.offset+1):=by
       rw [List.append_assoc,List.singleton_append,List.getElem_cons_drop,List.take_append_drop]
      obtain ⟨c',hc',hfill⟩:=qh9 (off:=fd.offset) (v:=ev ρ x) hc (by rw [List.length_take];omega) (by rw [qct h1];rfl) place (by rw [hpl i fd inf hfd hinf,hsz];simp) (ps.map fun p=>(p.1,ev ρ p.2))
      have e:c'.toList=cs.toList.set fd.offset (ev ρ x):=by
       rw [hc',qct h1,List.set_eq_take_append_cons_drop,if_pos hlt]
       simp
      obtain ⟨cs',g1,g2,g3⟩:=qmD h place hpl hb (by rw [e];exact qkz hr hv) (fun u hu=>by
       rw [e] at hu
       rcases List.mem_or_eq_of_mem_set hu with hu | rfl
       ·exact ho u hu
       ·exact h1)
      refine ⟨cs',?_,g2,g3⟩
      rw [List.map_cons,hfill]
      exact g1
   ·cases hb
theorem qmF (h:Rel G s θ ρ w K): ∀ {l:List (Nat×Operand)} {j:Nat} {m:List SVal},bldV s j l=some m→∃zs:List (Value×Value),SVal.relL θ s.nx K m (zs.map (·.1))∧zs.length=l.length∧l.map (fun p=>(p.1,ev ρ p.2))=((zs.map (·.2)).zipIdx j).map (fun p=>(p.2,p.1))∧∀p∈zs,Kd.vptr.V K p.1 p.2
 | [],j,m,hb=>by cases hb;exact ⟨[],rfl,rfl,by simp,by simp⟩
 | (i,x)::l,j,m,hb=>by
   simp only [bldV] at hb
   cases ho:Nat.beq i j with
   | false=>rw [ho] at hb;cases hb
   | true=>
     obtain rfl:=Nat.eq_of_beq_eq_true ho
     rw [ho] at hb
     simp only [cond_true] at hb
     split at hb
     ·rename_i r T t p m' hv hr
      cases hb
      obtain ⟨zs,h1,h2,h3,h4⟩:=qmF h hr
      refine ⟨(ev ρ x,ev ρ x)::zs,⟨_,_,rfl,h.opd hv,h1⟩,by simp [h2],by simp [h3,List.zipIdx_cons],?_⟩
      intro q hq
      rcases List.mem_cons.1 hq with rfl | hq
      ·obtain ⟨_,_,b,o,_,hx⟩:=h.opd hv
       exact ⟨[ev ρ x],⟨rfl,by rw [hx];rfl⟩,rfl⟩
      ·exact h4 q hq
     ·cases hb
theorem qjD (hc:c.ok) (h:Rel G s θ ρ w K) {ps:Array (Nat×Operand)}:(qjC c s t ps).snd c.P ⟨dst,.build t ps,ty,pos,af,g⟩ ρ θ s.nx w K:=by
 unfold qjC
 have eps:ps=ps.toList.toArray:=by simp
 split
 ·rename_i n e n' T b hu hk
  split
  ·rename_i T' b' l hk' hl
   cases hz:(Nat.beq n n' && Nat.beq ps.toList.length n) with
   | false=>trivial
   | true=>
     simp only [Bool.and_eq_true] at hz
     obtain rfl:=Nat.eq_of_beq_eq_true hz.1
     obtain ⟨zs,h1,h2,h3,h4⟩:=qmF h hl
     rw [eps]
     obtain ⟨v,hr,hV⟩:=qp7 (dst:=dst) (ty:=ty) (pos:=pos) (af:=af) (g:=g) (K:=K) (k:=Kd.vptr) (TyOk.varr (hc.ty_ok hk)) (TyOk.vptr (hc.ty_ok hk')) hu h3 h4 (h2.trans (Nat.eq_of_beq_eq_true hz.2))
     obtain ⟨v1,_,v3⟩:=qjG hV
     exact qad (v:= .agg l) ⟨_,v1,h1,v3⟩ hr
  ·trivial
 ·trivial
theorem qjB (h:Rel G s θ ρ w K) {ps:Array (Nat×Operand)}:(qjA c s t ps).snd c.P ⟨dst,.build t ps,ty,pos,af,g⟩ ρ θ s.nx w K:=by
 unfold qjA
 have eps:ps=ps.toList.toArray:=by simp
 split
 ·rename_i fs i hu hi
  cases hif:infos c.P fs.toList with
  | false=>trivial
  | true=>
    simp only [cond_true]
    split
    ·rename_i z hz
     split
     ·rename_i l0 hl0
      split
      ·rename_i l hl
       obtain ⟨pl,hpl,hq⟩:=qdN (P:=c.P) (qfa hif)
       obtain ⟨hr0,ho0⟩:=qoi (θ:=θ) (n:=s.nx) (K:=K) hl0
       obtain ⟨cs',hfill,hr',ho'⟩:=qmD h (fun j=>pl.toArray[j]?) (fun j fd inf hj hinf=>by simpa using hq j fd inf (by simpa using hj) hinf) hl hr0 ho0
       refine qad (v:= .agg l) (val:= .agg cs') ⟨cs'.toList,by simp,hr',ho'⟩ fun w=>?_
       have hzr:(zeroValue t).run c.P w= .ok z w:=by simp [zeroValue,typeInfo,hi,hz]
       have key:(Instr.build t (ps.toList.map fun p=>(p.1,ev ρ p.2)).toArray).run c.P w= .ok (.agg cs') w:=by
        unfold Instr.build
        have hm:(fs.mapM fun f=>do pure (f.offset,←sizeOf f.type):Sem (Array (Nat×Nat))).run c.P w= .ok pl.toArray w:=by
         rw [Array.mapM_eq_mapM_toList]
         rw [←bind_pure_comp]
         simp only [Sem.run_bind,hpl,Result.andThen_ok,Sem.run_pure]
        simp only [Sem.run_bind,hzr,Result.andThen_ok,run_underlying hu,hm]
        rw [hfill]
        rfl
       rw [eps]
       unfold execOp
       simp only [List.map_toArray]
       simp [key]
      ·trivial
     ·trivial
    ·trivial
 ·trivial
theorem qlr (hc:c.ok) (h:Rel G s θ ρ w K) {ps:Array (Nat×Operand)}:(qn3 c s t ps).snd c.P ⟨dst,.build t ps,ty,pos,af,g⟩ ρ θ s.nx w K:=by
 unfold qn3
 have eps:ps=ps.toList.toArray:=by simp
 split
 ·rename_i fs k b hu hk
  cases hz:(k.kd.agg && infos c.P fs.toList) with
  | false=>trivial
  | true=>
    simp only [Bool.and_eq_true] at hz
    simp only [cond_true]
    cases hq:(ps.toList.isEmpty && k.hidB) with
    | true=>
      simp only [Bool.and_eq_true] at hq
      have e0:ps= #[]:=by
       have:=List.isEmpty_iff.1 hq.1
       cases ps
       simp at this
       rw [this]
      subst e0
      exact qad (v:= .zer k) ⟨rfl,hz.1⟩ (quf (dst:=dst) (ty:=ty) (pos:=pos) (af:=af) (g:=g) (hc.ty_ok hk) hz.1 hu (qfa hz.2))
    | false=>
    simp only [cond_false]
    split
    ·rename_i Z hZ
     rw [eps]
     obtain ⟨v,hr,hV⟩:=qq9 (dst:=dst) (ty:=ty) (pos:=pos) (af:=af) (g:=g) (hc.ty_ok hk) hz.1 hu (qfa hz.2) rfl (qmE hc h hZ)
     exact qad (SVal.of_rel hV) hr
    ·trivial
 ·rename_i n e n' k b hu hk
  cases hz:(Nat.beq n n' && (c.is e k).isSome) with
  | false=>trivial
  | true=>
    simp only [Bool.and_eq_true] at hz
    obtain rfl:=Nat.eq_of_beq_eq_true hz.1
    obtain ⟨b',hb'⟩:=Option.isSome_iff_exists.1 hz.2
    simp only [cond_true]
    split
    ·rename_i hnil
     cases hi:(c.P.info? e).isSome with
     | false=>trivial
     | true=>
       obtain ⟨inf,hinf⟩:=Option.isSome_iff_exists.1 hi
       have e0:ps= #[]:=by cases ps;simp at hnil;rw [hnil]
       subst e0
       obtain ⟨v,hr,hV⟩:=qtb (dst:=dst) (ty:=ty) (pos:=pos) (af:=af) (g:=g) (K:=K) (hc.ty_ok hk) hu rfl hinf
       exact qad (v:= .val _ _) hV hr
    ·split
     ·rename_i xs hxs
      cases hlen:Nat.beq ps.toList.length n with
      | false=>
        cases hlt:Nat.blt ps.toList.length n with
        | false=>trivial
        | true=>
          obtain ⟨zs,h1,h2,h3,h4⟩:=qi0 h hxs
          simp only [cond_true,cond_false]
          obtain ⟨v,hr,hV⟩:=qsX (dst:=dst) (ty:=ty) (pos:=pos) (af:=af) (g:=g) (K:=K) (ps:=ps.toList) (hc.ty_ok hk) (hc.is_ok hb') hu h3 h4 (by rw [h2];exact Nat.le_of_lt (Nat.le_of_ble_eq_true hlt))
          rw [h1,h2] at hV
          rw [←eps] at hr
          exact qad (v:= .val _ _) hV hr
      | true=>
        obtain ⟨zs,h1,h2,h3,h4⟩:=qi0 h hxs
        rw [eps]
        obtain ⟨v,hr,hV⟩:=qp7 (dst:=dst) (ty:=ty) (pos:=pos) (af:=af) (g:=g) (K:=K) (hc.ty_ok hk) (hc.is_ok hb') hu h3 h4 (h2.trans (Nat.eq_of_beq_eq_true hlen))
        rw [h1] at hV
        exact qad (v:= .val _ _) hV hr
     ·trivial
 ·trivial
theorem qod (h:Rel G s θ ρ w K):(qr4 s z x y).snd c.P ⟨dst,.pick z x y,ty,pos,af,g⟩ ρ θ s.nx w K:=by
 unfold qr4
 split
 ·rename_i b hZ
  have hz:ev ρ z= .bool b:=h.opd hZ
  split
  ·rename_i v hv
   refine qad (h.opd hv) fun w'=>?_
   unfold execOp
   cases b<;>simp [hz,asBool]
  ·trivial
 ·trivial
theorem qoc (h:Rel G s θ ρ w K) {mx:Bool} {ts:Array TypeId}:(vMM s mx x y).snd c.P ⟨dst,.call { callee:= .builtin (bif mx then .max else .min),args:= #[x,y],argTypes:=ts },ty,pos,af,g⟩ ρ θ s.nx w K:=by
 unfold vMM
 split
 ·rename_i k a l lv k' b l' lv' h1 h2
  split
  ·rename_i hk
   subst hk
   obtain ⟨e1,w1⟩:=h.opdI h1
   obtain ⟨e2,w2⟩:=h.opdI h2
   cases mx with
   | true=>
     refine qad (v:= .int _ _ _) (val:= .int k (max a b)) ⟨rfl,?_⟩ fun w'=>?_
     ·show (Kd.int k).wf (max a b)
      rw [Int.max_def];split<;>assumption
     ·have e3:(if b>a then b else a)=max a b:=by rw [Int.max_def];split<;>split<;>omega
      have e3':(if a<b then b else a)=max a b:=e3
      unfold execOp
      simp [resolve,invoke,builtin,e1,e2,Builtin.max_,Builtin.max2,e3']
   | false=>
     refine qad (v:= .int _ _ _) (val:= .int k (min a b)) ⟨rfl,?_⟩ fun w'=>?_
     ·show (Kd.int k).wf (min a b)
      rw [Int.min_def];split<;>assumption
     ·have e3:(if b<a then b else a)=min a b:=by rw [Int.min_def];split<;>split<;>omega
      unfold execOp
      simp [resolve,invoke,builtin,e1,e2,Builtin.min_,Builtin.min2,e3]
  ·trivial
 ·trivial
theorem qn4 (h:Rel G s θ ρ w K) {l:Call}:(qrX c s l).snd c.P ⟨dst,.call l,ty,pos,af,g⟩ ρ θ s.nx w K:=by
 obtain ⟨cal,args,ts⟩:=l
 unfold qrX
 have ea:args=args.toList.toArray:=by simp
 have et:ts=ts.toList.toArray:=by simp
 split
 ·rename_i x t hcal ha ht
  simp only at hcal ha ht
  subst hcal
  rw [ea,et,ha,ht]
  exact qpR h
 ·rename_i x y hcal ha
  simp only at hcal ha
  subst hcal
  rw [ea,ha]
  exact qoc h (mx:=true)
 ·rename_i x y hcal ha
  simp only at hcal ha
  subst hcal
  rw [ea,ha]
  exact qoc h (mx:=false)
 ·trivial
theorem qnz (hc:c.ok) (h:Rel G s θ ρ w K) (o:Oper):(opV c s o).snd c.P o ρ θ s.nx w K:=by
 obtain ⟨dst,op,ty,pos,af,g⟩:=o
 unfold opV
 split
 ·rename_i x hop;simp only at hop;subst hop
  cases hb:c.atB 8000000 dst with
  | true=>trivial
  | false=>exact qiC h fun w'=>R_mv rfl
 ·rename_i x hop;simp only at hop;subst hop;exact qiC h fun w'=>R_as rfl
 ·rename_i hop;simp only at hop;subst hop;exact qpP hc h
 ·rename_i hop;simp only at hop;subst hop;exact qr5 h
 ·rename_i hop;simp only at hop;subst hop;exact qn5 h
 ·rename_i hop;simp only at hop;subst hop;exact qge hc h
 ·rename_i hop;simp only at hop;subst hop;exact qls hc h
 ·rename_i hop;simp only at hop;subst hop;exact qgf hc h
 ·rename_i hop;simp only at hop;subst hop;exact qlt hc h
 ·rename_i hop;simp only at hop;subst hop;exact qhN h
 ·rename_i hop;simp only at hop;subst hop;exact qob hc h
 ·rename_i hop;simp only at hop;subst hop;exact qiB h
 ·rename_i hop;simp only at hop;subst hop;exact qn9 h
 ·rename_i hop;simp only at hop;subst hop
  cases hb:c.atB 5000000 dst with
  | true=>trivial
  | false=>exact qlu hc h
 ·rename_i b hop
  simp only at hop;subst hop
  cases b with
  | true=>exact qjF hc h
  | false=>trivial
 ·rename_i t ps hop;simp only at hop;subst hop;exact (match hq:c.atB 4000000 dst with
   | true=>qjB h
   | false=>(match hq:c.atB 6000000 dst with
     | true=>qjD hc h
     | false=>qlr hc h))
 ·rename_i hop;simp only at hop;subst hop;exact qod h
 ·rename_i hop;simp only at hop;subst hop;exact qn4 h
 ·trivial
end
end Go.Inc

set_option linter.unusedVariables false
namespace Go.Inc
open Go Go.RowKit
inductive PM where
 | v (t:Ty) | nil | snil | bx (t:Ty) (u:Bool) | bk (e:Nat) (u:Bool) | rw (e:Nat) (t:Ty) (u:Bool) | fn (f:Nat) (cs:List PM)
mutual
def PM.den:PM→Type
 | .v t=>t.den
 | .nil=>Unit
 | .snil=>Unit
 | .bx t _=>t.den
 | .bk _ _=>qav
 | .rw _ t _=>List t.den
 | .fn _ cs=>PM.denL cs
def PM.denL:List PM→Type
 | []=>Unit
 | m::l=>PM.den m×PM.denL l
end
mutual
def PM.res:(m:PM)→m.den→List (Res×Bool)
 | .v t,a=> []
 | .nil,a=> []
 | .snil,a=> []
 | .bx t u,a=> [(.bx t a [],u)]
 | .bk e u,a=> [(.bk e a,u)]
 | .rw e t u,a=> [(.rw e t a,u)]
 | .fn _ cs,a=>PM.resL cs a
def PM.resL:(l:List PM)→PM.denL l→List (Res×Bool)
 | [],a=> []
 | m::l,a=>PM.res m a.1++PM.resL l a.2
end
mutual
def PM.sv:(m:PM)→m.den→Nat→SVal
 | .v t,a,n=> .of t a
 | .nil,a,n=> .nil
 | .snil,a,n=> .snil
 | .bx t u,a,n=> .box n t t (Pth.id t)
 | .bk e u,a,n=> .obj n
 | .rw e t u,a,n=> .rw n
 | .fn f cs,a,n=> .fn f (PM.svL cs a n)
def PM.svL:(l:List PM)→PM.denL l→Nat→List SVal
 | [],a,n=> []
 | m::l,a,n=>PM.sv m a.1 n::PM.svL l a.2 (n+(PM.res m a.1).length)
end
inductive RM where
 | v (t:Ty) | ow (e:Nat) (t:Ty) | bx (t:Ty) | rw (e:Nat) (t:Ty)
abbrev RM.den:RM→Type
 | .v t=>t.den
 | .ow _ t=>List t.den
 | .bx t=>t.den
 | .rw _ t=>List t.den
abbrev RM.denL:List RM→Type
 | []=>Unit
 | m::l=>RM.den m×RM.denL l
def RM.res:(m:RM)→m.den→List Res
 | .v t,a=> []
 | .ow e t,a=> [.ow e t a]
 | .rw e t,a=> [.rw e t a]
 | .bx t,a=> [.bx t a []]
def RM.sv:(m:RM)→m.den→Nat→SVal
 | .v t,a,n=> .of t a
 | .ow e t,a,n=> .own n t a
 | .rw e t,a,n=> .rw n
 | .bx t,a,n=> .box n t t (Pth.id t)
def RM.resL:(l:List RM)→RM.denL l→List Res
 | [],a=> []
 | m::l,a=>RM.res m a.1++RM.resL l a.2
def RM.svL:(l:List RM)→RM.denL l→Nat→List SVal
 | [],a,n=> []
 | m::l,a,n=>RM.sv m a.1 n::RM.svL l a.2 (n+(RM.res m a.1).length)
def RM.wfI:(l:List RM)→RM.denL l→Prop→Prop
 | [],_,p=>p
 | .v .bool::l,a,p=>RM.wfI l a.2 p
 | .v t::l,a,p=>t.kd.wf a.1→RM.wfI l a.2 p
 | .ow e t::l,a,p=>(Kd.sl t.kd).wf a.1→RM.wfI l a.2 p
 | .rw e t::l,a,p=>(Kd.sl t.kd).wf a.1→RM.wfI l a.2 p
 | .bx t::l,a,p=>t.kd.wf a.1→RM.wfI l a.2 p
abbrev PM.MD:List PM→Type
 | []=>Unit
 | .bx t true::l=>t.den×PM.MD l
 | .bk _ true::l=>qav×PM.MD l
 | .rw _ t true::l=>List t.den×PM.MD l
 | _::l=>PM.MD l
def PM.aft:(l:List PM)→PM.denL l→PM.MD l→List Res
 | [],_,_=> []
 | .bx t true::l,a,b=> .bx t b.1 []::PM.aft l a.2 b.2
 | .bk e true::l,a,b=> .bk e b.1::PM.aft l a.2 b.2
 | .rw e t true::l,a,b=> .rw e t b.1::PM.aft l a.2 b.2
 | .bx t false::l,a,b=> .bx t a.1 []::PM.aft l a.2 b
 | .bk e false::l,a,b=> .bk e a.1::PM.aft l a.2 b
 | .rw e t false::l,a,b=> .rw e t a.1::PM.aft l a.2 b
 | .v t::l,a,b=>PM.aft l a.2 b
 | .nil::l,a,b=>PM.aft l a.2 b
 | .snil::l,a,b=>PM.aft l a.2 b
 | .fn f cs::l,a,b=>(PM.res (.fn f cs) a.1).map (·.1)++PM.aft l a.2 b
structure Ctr where
 pm:List PM
 rm:List RM
 pr:Option (PM.denL pm→Prop)
 out:(a:PM.denL pm)→RM.denL rm×PM.MD pm
def Ctr.pre (C:Ctr) (a:PM.denL C.pm):Prop:=match C.pr with
 | some p=>p a
 | none=>True
def Ctr.preAnd (C:Ctr) (a:PM.denL C.pm) (X:Prop):Prop:=match C.pr with
 | some p=>p a∧X
 | none=>X
theorem Ctr.preAnd_ok {C:Ctr} {a:PM.denL C.pm} {X:Prop} (h:C.preAnd a X):C.pre a∧X:=by
 unfold Ctr.preAnd at h
 unfold Ctr.pre
 split at h
 ·exact h
 ·exact ⟨trivial,h⟩
def tupV:List Value→Value
 | [v]=>v
 | vs=> .tuple vs.toArray
def tupS:List SVal→SVal
 | [v]=>v
 | vs=> .tup vs
def Apart (θ:Th) (n:Nat):Prop:=∀r r',r<n→r'<n→r≠r'→∀g,θ.fp r g→¬θ.fp r' g
structure ArgsOk (pm:List PM) (a:PM.denL pm) (θ:Th) (vs:List Value) (w:World) (K:Ghost):Prop where
 vals:SVal.relL θ (PM.resL pm a).length K (PM.svL pm a 0) vs
 sat: ∀(r:Nat) (R:Res) (m:Bool),(PM.resL pm a)[r]?=some (R,m)→R.sat θ r (PM.resL pm a).length w K
 apart:Apart θ (PM.resL pm a).length
def qkK (l:List (Res×Bool)) (θ:Th):Nat→Prop:=fun g=> ∃r R,l[r]?=some (R,true)∧θ.fp r g
def Ctr.ends (C:Ctr) (a:PM.denL C.pm):List Res:=PM.aft C.pm a (C.out a).2++RM.resL C.rm (C.out a).1
structure OutOk (C:Ctr) (a:PM.denL C.pm) (θ:Th) (w:World) (K:Ghost) (v:Value) (w':World) (K':Ghost) (θ':Th):Prop where
 ext:Ext (qkK (PM.resL C.pm a) θ) w K w' K'
 mod:Models w' K'
 upto:θ.upto θ' (PM.resL C.pm a).length
 val: ∃vs,v=tupV vs∧SVal.relL θ' (C.ends a).length K' (RM.svL C.rm (C.out a).1 (PM.resL C.pm a).length) vs
 sat: ∀(r:Nat) (R:Res),(C.ends a)[r]?=some R→R.sat θ' r (C.ends a).length w' K'
 old: ∀r,r<(PM.resL C.pm a).length→∀g,θ'.fp r g→θ.fp r g∨w.heap.size≤g
 new: ∀r,(PM.resL C.pm a).length≤r→r<(C.ends a).length→∀g,θ'.fp r g→w.heap.size≤g
 apart:Apart θ' (C.ends a).length
def Ctr.valid (P:Program) (f:FuncId) (C:Ctr):Prop:=∀(a:PM.denL C.pm),C.pre a→∀(θ:Th) (vs:List Value) (w:World) (K:Ghost),Models w K→ArgsOk C.pm a θ vs w K→
 Calls P f vs.toArray w fun e w'=> ∃v K' θ',e= .returned v∧OutOk C a θ w K v w' K' θ'
theorem PM.aft_len: ∀ {l:List PM} {a:PM.denL l} {b:PM.MD l},(PM.aft l a b).length=(PM.resL l a).length
 | [],a,b=>rfl
 | .v t::l,a,b=>by
   rw [PM.aft,PM.resL,PM.res,List.nil_append]
   exact PM.aft_len
 | .nil::l,a,b=>by
   rw [PM.aft,PM.resL,PM.res,List.nil_append]
   exact PM.aft_len
 | .snil::l,a,b=>by
   rw [PM.aft,PM.resL,PM.res,List.nil_append]
   exact PM.aft_len
 | .bx t true::l,a,b=>by
   rw [PM.aft,PM.resL,PM.res,List.length_cons,List.singleton_append,List.length_cons,PM.aft_len]
 | .rw e t true::l,a,b=>by
   rw [PM.aft,PM.resL,PM.res,List.length_cons,List.singleton_append,List.length_cons,PM.aft_len]
 | .rw e t false::l,a,b=>by
   rw [PM.aft,PM.resL,PM.res,List.length_cons,List.singleton_append,List.length_cons,PM.aft_len]
 | .bk e true::l,a,b=>by
   rw [PM.aft,PM.resL,PM.res,List.length_cons,List.singleton_append,List.length_cons,PM.aft_len]
 | .bx t false::l,a,b=>by
   rw [PM.aft,PM.resL,PM.res,List.length_cons,List.singleton_append,List.length_cons,PM.aft_len]
 | .bk e false::l,a,b=>by
   rw [PM.aft,PM.resL,PM.res,List.length_cons,List.singleton_append,List.length_cons,PM.aft_len]
 | .fn f cs::l,a,b=>by
   rw [PM.aft,PM.resL,List.length_append,List.length_append,List.length_map,PM.aft_len]
end Go.Inc

set_option linter.unusedVariables false
namespace Go.Inc
open Go Go.RowKit
def Res.objB:Res→Bool
 | .bk _ _=>true
 | .rw _ _ _=>true
 | _=>false
theorem Res.sat.mvO {θ θ':Th} {r r' n n':Nat} {w:World} {K:Ghost}: ∀ {R:Res},R.objB=true→θ'.key r'=θ.key r→θ'.fp r'=θ.fp r→θ'.sur r'=θ.sur r→R.sat θ r n w K→R.sat θ' r' n' w K
 | .bk e x,_,hk,hf,_,h=>by
   show qaE _ _ _ _ _ _
   rw [hk,hf];exact h
 | .rw e t x,_,hk,hf,hs,h=>by
   show RwX _ _ _ _ _ _ _ _
   rw [hk,hf,hs];exact h
 | .bx _ _ _,h,_,_,_,_=>by cases h
 | .ow _ _ _,h,_,_,_,_=>by cases h
 | .mp _ _ _ _,h,_,_,_,_=>by cases h
 | .cl _ _,h,_,_,_,_=>by cases h
inductive Arg where
 | no (e:Nat)
 | bx (q:Nat) (T t:Ty) (p:Pth T t) (X:T.den) (u:Bool)
 | ob (q:Nat) (R:Res) (u:Bool)
def qaS (org:Org) (lk:Bool):Bool:= !lk && (match org with
 | .ro=>false
 | _=>true)
mutual
def PM.fit (s:St):(m:PM)→SVal→Option (PM.den m×List Arg)
 | .v t,sv=>match sv.to t with
   | some x=>some (x,[])
   | none=>none
 | .nil,sv=>match sv with
   | .nil=>some ((),[])
   | _=>none
 | .snil,sv=>match sv with
   | .snil=>some ((),[])
   | _=>none
 | .bx t u,sv=>match sv with
   | .box r T k p=>(match s.res r with
     | some ⟨.bx T' X [],org,lk⟩=>if h:T'=T then (if h':k=t then (bif !u || qaS org lk then some (Ty.cast h' (p.get (Ty.cast h X)),[.bx r T k p (Ty.cast h X) u]) else none) else none) else none
     | _=>none)
   | _=>none
 | .bk e u,sv=>match sv with
   | .obj r=>(match s.res r with
     | some ⟨.bk e' x,org,lk⟩=>bif Nat.beq e' e && (!u || qaS org lk) then some (x,[.ob r (.bk e' x) u]) else none
     | _=>none)
   | .nil=>some ((none:qav),[.no e])
   | _=>none
 | .rw e t u,sv=>match sv with
   | .rw r=>(match s.res r with
     | some ⟨.rw e' t' x,org,lk⟩=>if h:t'=t then (bif Nat.beq e' e && (!u || qaS org lk) then some (qbI h x,[.ob r (.rw e' t' x) u]) else none) else none
     | _=>none)
   | _=>none
 | .fn f cs,sv=>match sv with
   | .fn f' vs=>bif Nat.beq f f' then PM.fitL s cs vs else none
   | _=>none
def PM.fitL (s:St):(l:List PM)→List SVal→Option (PM.denL l×List Arg)
 | [],vs=>match vs with
   | []=>some ((),[])
   | _=>none
 | m::l,vs=>match vs with
   | x::xs=>(match PM.fit s m x,PM.fitL s l xs with
     | some (a,i),some (b,j)=>some ((a,b),i++j)
     | _,_=>none)
   | []=>none
end
def shift (o:Nat):Value→Value
 | .pointer (some ⟨b,p,none⟩)=> .pointer (some ⟨b,p+o,none⟩)
 | v=>v
def Arg.rid:Arg→Option Nat
 | .no _=>none
 | .bx q _ _ _ _ _=>some q
 | .ob q _ _=>some q
def Arg.mu:Arg→Option Nat
 | .no _=>none
 | .bx q _ _ _ _ u=>bif u then some q else none
 | .ob q _ u=>bif u then some q else none
def Arg.key (θ:Th):Arg→Value
 | .no _=> .pointer none
 | .bx q _ _ p _ _=>shift p.off (θ.key q)
 | .ob q _ _=>θ.key q
def Arg.fp (θ:Th):Arg→Nat→Prop
 | .no _=>NX
 | .bx q _ _ _ _ _=>θ.fp q
 | .ob q _ _=>θ.fp q
def Arg.R:Arg→Res
 | .no e=> .bk e none
 | .bx _ _ t p X _=> .bx t (p.get X) []
 | .ob _ R _=>R
def Arg.up:Arg→Res→Option Res
 | .bx _ T t p X _,.bx t' y []=>if h:t'=t then some (.bx T (p.put X (Ty.cast h y)) []) else none
 | .ob _ _ _,R=>bif R.objB then some R else none
 | _,_=>none
def Arg.ok (s:St):Arg→Prop
 | .no _=>True
 | .bx q T _ p X u=>p.cnd∧∃org lk,s.res q=some ⟨.bx T X [],org,lk⟩∧(u=true→qaS org lk=true)
 | .ob q R u=>R.objB=true∧∃org lk,s.res q=some ⟨R,org,lk⟩∧(u=true→qaS org lk=true)
def Arg.sur (θ:Th) (w:World) (K:Ghost) (sr:List Value×List Value):Arg→Prop
 | .bx q T t p X _=> ∃b,θ.key q= .pointer (some ⟨b,(θ.sur q).1.length,none⟩)∧sr.1.length=(θ.sur q).1.length+p.off∧Bx t.kd w K b sr.1 sr.2 (p.get X)∧
    ∀(w':World) (K':Ghost) (y:t.den),K.le K'→Bx t.kd w' K' b sr.1 sr.2 y→Bx T.kd w' K' b (θ.sur q).1 (θ.sur q).2 (p.put X y)
 | .ob q _ _=>sr=θ.sur q
 | _=>True
def distinct:List Arg→Bool
 | []=>true
 | a::l=>(match a.rid with
   | some q=>l.all fun b=>match b.rid with
     | some q'=> !(Nat.beq q q')
     | none=>true
   | none=>true) && distinct l
def qbN:List Arg→List Res→Nat→Option Res
 | a::l,R::m,r=>match a.mu with
   | some q=>bif Nat.beq q r then a.up R else qbN l m r
   | none=>qbN l m r
 | _,_,_=>none
def upsB:List Arg→List Res→Bool
 | [],[]=>true
 | a::l,R::m=>(match a.mu with
   | some _=>(a.up R).isSome
   | none=>true) && upsB l m
 | _,_=>false
def qfB (s:St) (args:List Arg) (aft rs:List Res) (r:Nat):Option RE:=
 match qbN args aft r with
 | some R=>(match s.res r with
   | some e=>some { e with r:=R }
   | none=>none)
 | none=>bif Nat.ble s.nx r then (match rs[r - s.nx]? with
   | some R=>some ⟨R,.new,false⟩
   | none=>none) else s.res r
def St.behind (s:St) (args:List Arg) (aft rs:List Res):St:={ s with res:=qfB s args aft rs,nx:=s.nx+rs.length }
def qo0 (C:Ctr) (s:St) (vs:List SVal) (k:List Nat→St→SVal→Prop):Option Prop:=
 match PM.fitL s C.pm vs with
 | some (a,args)=>bif distinct args && upsB args (PM.aft C.pm a (C.out a).2) then
    some (C.preAnd a (RM.wfI C.rm (C.out a).1 (k (args.filterMap Arg.mu) (s.behind args (PM.aft C.pm a (C.out a).2) (RM.resL C.rm (C.out a).1)) (tupS (RM.svL C.rm (C.out a).1 s.nx))))) else none
 | none=>none
section
variable {G:Glob} {s:St} {θ:Th} {ρ:Env} {w:World} {K:Ghost} {n:Nat}
theorem qaI {org:Org} {lk:Bool} {R:Res} (h:qaS org lk=true):RE.free ⟨R,org,lk⟩:=by
 cases lk<;>cases org<;>simp_all [qaS,RE.free]
def Tells (θ θc:Th) (w:World) (K:Ghost) (args:List Arg) (n0:Nat):Prop:=∀j A,args[j]?=some A→θc.key (n0+j)=A.key θ∧θc.fp (n0+j)=A.fp θ∧A.sur θ w K (θc.sur (n0+j))
theorem Tells.left {θc:Th} {a b:List Arg} {n0:Nat} (h:Tells θ θc w K (a++b) n0):Tells θ θc w K a n0:=fun j A hj=>by
 have hlt:=(List.getElem?_eq_some_iff.1 hj).1
 exact h j A (by rw [List.getElem?_append_left hlt];exact hj)
theorem Tells.right {θc:Th} {a b:List Arg} {n0:Nat} (h:Tells θ θc w K (a++b) n0):Tells θ θc w K b (n0+a.length):=fun j A hj=>by
 rw [Nat.add_assoc]
 exact h (a.length+j) A (by rw [List.getElem?_append_right (by omega)];simpa using hj)
mutual
theorem PM.fit_ok (h:Rel G s θ ρ w K): ∀ {m:PM} {sv:SVal} {a:PM.den m} {args:List Arg},PM.fit s m sv=some (a,args)→(∀A∈args,A.ok s∨∀u,sv.rel θ s.nx K u→A.ok s)∧(PM.res m a).map (·.1)=args.map Arg.R∧
 (∀(j:Nat) (A:Arg),args[j]?=some A→∀(R:Res),(PM.res m a)[j]?=some (R,true)→A.mu=A.rid)
 | .v t,sv,a,args,hf=>by
   simp only [PM.fit] at hf
   split at hf
   ·cases hf
    exact ⟨by simp,rfl,by simp⟩
   ·cases hf
 | .nil,sv,a,args,hf=>by
   simp only [PM.fit] at hf
   split at hf
   ·cases hf
    exact ⟨by simp,rfl,by simp⟩
   ·cases hf
 | .snil,sv,a,args,hf=>by
   simp only [PM.fit] at hf
   split at hf
   ·cases hf
    exact ⟨by simp,rfl,by simp⟩
   ·cases hf
 | .bx t u,sv,a,args,hf=>by
   simp only [PM.fit] at hf
   split at hf
   ·rename_i r T k p
    split at hf
    ·rename_i T' X org lk hr
     split at hf
     ·rename_i hT
      subst hT
      split at hf
      ·rename_i hk
       subst hk
       cases hb:(!u || qaS org lk) with
       | false=>rw [hb] at hf;cases hf
       | true=>
         rw [hb] at hf
         cases hf
         refine ⟨?_,rfl,?_⟩
         ·intro A hA
          obtain rfl:=List.mem_singleton.1 hA
          refine .inr fun v hv=>⟨hv.2.1,org,lk,hr,fun hu=>?_⟩
          rw [hu] at hb
          simpa using hb
         ·intro j A hj R hR
          cases j with
          | zero=>
            simp at hj
            subst hj
            simp [PM.res] at hR
            simp [Arg.mu,Arg.rid,hR.2]
          | succ j=>simp at hj
      ·cases hf
     ·cases hf
    ·cases hf
   ·cases hf
 | .bk e u,sv,a,args,hf=>by
   simp only [PM.fit] at hf
   split at hf
   ·rename_i r
    split at hf
    ·rename_i e' x org lk hr
     cases hb:(Nat.beq e' e && (!u || qaS org lk)) with
     | false=>rw [hb] at hf;cases hf
     | true=>
       rw [hb] at hf
       cases hf
       simp only [Bool.and_eq_true] at hb
       obtain rfl:=Nat.eq_of_beq_eq_true hb.1
       refine ⟨?_,rfl,?_⟩
       ·intro A hA
        obtain rfl:=List.mem_singleton.1 hA
        refine .inl ⟨rfl,org,lk,hr,fun hu=>?_⟩
        have hb2:=hb.2
        rw [hu] at hb2
        simpa using hb2
       ·intro j A hj R hR
        cases j with
        | zero=>
          simp at hj
          subst hj
          simp [PM.res] at hR
          simp [Arg.mu,Arg.rid,hR.2]
        | succ j=>simp at hj
    ·cases hf
   ·cases hf
    refine ⟨?_,rfl,?_⟩
    ·intro A hA
     obtain rfl:=List.mem_singleton.1 hA
     exact .inl trivial
    ·intro j A hj R hR
     cases j with
     | zero=>
       simp at hj
       subst hj
       rfl
     | succ j=>simp at hj
   ·cases hf
 | .rw e t u,sv,a,args,hf=>by
   simp only [PM.fit] at hf
   split at hf
   ·rename_i r
    split at hf
    ·rename_i e' t' x org lk hr
     split at hf
     ·rename_i ht
      subst ht
      cases hb:(Nat.beq e' e && (!u || qaS org lk)) with
      | false=>rw [hb] at hf;cases hf
      | true=>
        rw [hb] at hf
        cases hf
        simp only [Bool.and_eq_true] at hb
        obtain rfl:=Nat.eq_of_beq_eq_true hb.1
        refine ⟨?_,rfl,?_⟩
        ·intro A hA
         obtain rfl:=List.mem_singleton.1 hA
         refine .inl ⟨rfl,org,lk,hr,fun hu=>?_⟩
         have hb2:=hb.2
         rw [hu] at hb2
         simpa using hb2
        ·intro j A hj R hR
         cases j with
         | zero=>
           simp at hj
           subst hj
           simp [PM.res] at hR
           simp [Arg.mu,Arg.rid,hR.2]
         | succ j=>simp at hj
     ·cases hf
    ·cases hf
   ·cases hf
 | .fn f cs,sv,a,args,hf=>by
   simp only [PM.fit] at hf
   split at hf
   ·rename_i f' vs
    cases hb:Nat.beq f f' with
    | false=>rw [hb] at hf;cases hf
    | true=>
      rw [hb] at hf
      obtain ⟨h1,h2,h3⟩:=PM.fitL_ok h hf
      refine ⟨fun A hA=>(h1 A hA).imp (fun h=>h) fun hh u hu=>?_,h2,h3⟩
      obtain ⟨us,_,hus⟩:=hu
      exact hh us hus
   ·cases hf
theorem PM.fitL_ok (h:Rel G s θ ρ w K): ∀ {l:List PM} {svs:List SVal} {a:PM.denL l} {args:List Arg},PM.fitL s l svs=some (a,args)→(∀A∈args,A.ok s∨∀us,SVal.relL θ s.nx K svs us→A.ok s)∧(PM.resL l a).map (·.1)=args.map Arg.R∧
 (∀(j:Nat) (A:Arg),args[j]?=some A→∀(R:Res),(PM.resL l a)[j]?=some (R,true)→A.mu=A.rid)
 | [],svs,a,args,hf=>by
   simp only [PM.fitL] at hf
   split at hf
   ·cases hf
    exact ⟨by simp,rfl,by simp⟩
   ·cases hf
 | m::l,svs,a,args,hf=>by
   simp only [PM.fitL] at hf
   split at hf
   ·rename_i v vs
    split at hf
    ·rename_i a1 i b j h1 h2
     cases hf
     obtain ⟨x1,x2,x3⟩:=PM.fit_ok h h1
     obtain ⟨y1,y2,y3⟩:=PM.fitL_ok h h2
     have hlen:(PM.res m a1).length=i.length:=by
      have:=congrArg List.length x2
      simpa using this
     refine ⟨?_,?_,?_⟩
     ·intro A hA
      rcases List.mem_append.1 hA with hA | hA
      ·exact (x1 A hA).imp (fun h=>h) fun hh us hus=>by
        obtain ⟨u,r,_,hu,hr⟩:=hus
        exact hh u hu
      ·exact (y1 A hA).imp (fun h=>h) fun hh us hus=>by
        obtain ⟨u,r,_,hu,hr⟩:=hus
        exact hh r hr
     ·show (PM.res m a1++PM.resL l b).map (·.1)=(i++j).map Arg.R
      rw [List.map_append,List.map_append,x2,y2]
     ·intro q A hq R hR
      have hR':(PM.res m a1++PM.resL l b)[q]?=some (R,true):=hR
      rcases Nat.lt_or_ge q i.length with hlt | hge
      ·rw [List.getElem?_append_left hlt] at hq
       rw [List.getElem?_append_left (by omega)] at hR'
       exact x3 q A hq R hR'
      ·rw [List.getElem?_append_right hge] at hq
       rw [List.getElem?_append_right (by omega),hlen] at hR'
       exact y3 _ A hq R hR'
    ·cases hf
   ·cases hf
end
mutual
theorem PM.fit_val (h:Rel G s θ ρ w K) {θc:Th} {N:Nat}: ∀ {m:PM} {sv:SVal} {a:PM.den m} {args:List Arg} {n0:Nat} {u:Value},PM.fit s m sv=some (a,args)→sv.rel θ s.nx K u→Tells θ θc w K args n0→n0+args.length≤N→(PM.sv m a n0).rel θc N K u
 | .v t,sv,a,args,n0,u,hf,hr,ht,hN=>by
   simp only [PM.fit] at hf
   split at hf
   ·rename_i x hx
    cases hf
    exact SVal.of_rel (SVal.to_rel hx hr)
   ·cases hf
 | .nil,sv,a,args,n0,u,hf,hr,ht,hN=>by
   simp only [PM.fit] at hf
   split at hf
   ·exact hr
   ·cases hf
 | .snil,sv,a,args,n0,u,hf,hr,ht,hN=>by
   simp only [PM.fit] at hf
   split at hf
   ·exact hr
   ·cases hf
 | .bx t b,sv,a,args,n0,u,hf,hr,ht,hN=>by
   simp only [PM.fit] at hf
   split at hf
   ·rename_i r T k p
    split at hf
    ·rename_i T' X org lk hres
     split at hf
     ·rename_i hT
      subst hT
      split at hf
      ·rename_i hk
       subst hk
       cases hb:(!b || qaS org lk) with
       | false=>rw [hb] at hf;cases hf
       | true=>
         rw [hb] at hf
         cases hf
         obtain ⟨hk,_,_⟩:=ht 0 _ rfl
         obtain ⟨_,_,bl,o,h1,h2⟩:=hr
         have hk':θc.key n0= .pointer (some ⟨bl,o+p.off,none⟩):=by
          rw [show n0=n0+0 from rfl,hk]
          show shift p.off (θ.key r)=_
          rw [h1]
          rfl
         exact ⟨Nat.lt_of_lt_of_le (Nat.lt_succ_self _) hN,trivial,bl,o+p.off,hk',h2⟩
      ·cases hf
     ·cases hf
    ·cases hf
   ·cases hf
 | .bk e b,sv,a,args,n0,u,hf,hr,ht,hN=>by
   simp only [PM.fit] at hf
   split at hf
   ·rename_i r
    split at hf
    ·rename_i e' x org lk hres
     cases hb:(Nat.beq e' e && (!b || qaS org lk)) with
     | false=>rw [hb] at hf;cases hf
     | true=>
       rw [hb] at hf
       cases hf
       obtain ⟨hk,_,_⟩:=ht 0 _ rfl
       exact ⟨Nat.lt_of_lt_of_le (Nat.lt_succ_self _) hN,hk.trans hr.2⟩
    ·cases hf
   ·cases hf
    obtain ⟨hk,_,_⟩:=ht 0 _ rfl
    have hr':u= .pointer none:=hr
    exact ⟨Nat.lt_of_lt_of_le (Nat.lt_succ_self _) hN,hk.trans hr'.symm⟩
   ·cases hf
 | .rw e t b,sv,a,args,n0,u,hf,hr,ht,hN=>by
   simp only [PM.fit] at hf
   split at hf
   ·rename_i r
    split at hf
    ·rename_i e' t' x org lk hres
     split at hf
     ·rename_i hT
      subst hT
      cases hb:(Nat.beq e' e && (!b || qaS org lk)) with
      | false=>rw [hb] at hf;cases hf
      | true=>
        rw [hb] at hf
        cases hf
        obtain ⟨hk,_,_⟩:=ht 0 _ rfl
        exact ⟨Nat.lt_of_lt_of_le (Nat.lt_succ_self _) hN,hk.trans hr.2⟩
     ·cases hf
    ·cases hf
   ·cases hf
 | .fn f cs,sv,a,args,n0,u,hf,hr,ht,hN=>by
   simp only [PM.fit] at hf
   split at hf
   ·rename_i f' vs
    cases hb:Nat.beq f f' with
    | false=>rw [hb] at hf;cases hf
    | true=>
      rw [hb] at hf
      obtain rfl:=Nat.eq_of_beq_eq_true hb
      obtain ⟨us,hu,hus⟩:=hr
      exact ⟨us,hu,PM.fitL_val h hf hus ht hN⟩
   ·cases hf
theorem PM.fitL_val (h:Rel G s θ ρ w K) {θc:Th} {N:Nat}: ∀ {l:List PM} {svs:List SVal} {a:PM.denL l} {args:List Arg} {n0:Nat} {us:List Value},PM.fitL s l svs=some (a,args)→SVal.relL θ s.nx K svs us→Tells θ θc w K args n0→n0+args.length≤N→SVal.relL θc N K (PM.svL l a n0) us
 | [],svs,a,args,n0,us,hf,hr,ht,hN=>by
   simp only [PM.fitL] at hf
   split at hf
   ·exact hr
   ·cases hf
 | m::l,svs,a,args,n0,us,hf,hr,ht,hN=>by
   simp only [PM.fitL] at hf
   split at hf
   ·rename_i v vs
    split at hf
    ·rename_i a1 i b j h1 h2
     cases hf
     obtain ⟨u,r,e,hu,hr⟩:=hr
     have hlen:(PM.res m a1).length=i.length:=by
      have:=congrArg List.length (PM.fit_ok h h1).2.1
      simpa using this
     rw [List.length_append] at hN
     refine ⟨u,r,e,PM.fit_val h h1 hu ht.left (by omega),?_⟩
     show SVal.relL θc N K (PM.svL l b (n0+(PM.res m a1).length)) r
     rw [hlen]
     exact PM.fitL_val h h2 hr ht.right (by omega)
    ·cases hf
   ·cases hf
end
end
end Go.Inc

set_option linter.unusedVariables false
namespace Go.Inc
open Go Go.RowKit
theorem qmN {α:Type} {n:Nat} {P:Nat→α→Prop} [Inhabited α] (h: ∀j,j<n→∃x,P j x): ∃f:Nat→α,∀j,j<n→P j (f j):=by
 classical
 refine ⟨fun j=>if hj:j<n then Classical.choose (h j hj) else default,fun j hj=>?_⟩
 simp only [hj,dif_pos]
 exact Classical.choose_spec (h j hj)
theorem qdK: ∀ {l:List Arg},distinct l=true→∀ {i j:Nat} {A B:Arg} {q:Nat},i<j→l[i]?=some A→l[j]?=some B→A.rid=some q→B.rid≠some q
 | [],_,i,j,A,B,q,_,hi,_,_=>by simp at hi
 | a::l,h,0,0,A,B,q,hij,_,_,_=>absurd hij (Nat.lt_irrefl _)
 | a::l,h,i+1,0,A,B,q,hij,_,_,_=>absurd hij (Nat.not_lt_zero _)
 | a::l,h,0,j+1,A,B,q,hij,hi,hj,hA=>fun hB=>by
   simp at hi
   subst hi
   simp only [distinct,hA,Bool.and_eq_true,List.all_eq_true] at h
   have hm:B∈l:=List.mem_of_getElem? (by simpa using hj)
   have:=h.1 B hm
   simp [hB] at this
 | a::l,h,i+1,j+1,A,B,q,hij,hi,hj,hA=>by
   simp only [distinct,Bool.and_eq_true] at h
   exact qdK h.2 (Nat.lt_of_succ_lt_succ hij) (by simpa using hi) (by simpa using hj) hA
theorem qfG {l:List Arg} (h:distinct l=true) {i j:Nat} {A B:Arg} {q:Nat} (hi:l[i]?=some A) (hj:l[j]?=some B) (hA:A.rid=some q) (hB:B.rid=some q):i=j:=by
 rcases Nat.lt_trichotomy i j with hlt | he | hgt
 ·exact absurd hB (qdK h hlt hi hj hA)
 ·exact he
 ·exact absurd hA (qdK h hgt hj hi hB)
theorem Arg.mu_rid {A:Arg} {q:Nat} (h:A.mu=some q):A.rid=some q:=by
 cases A with
 | no e=>cases h
 | bx q' T t p X u=>cases u<;>simp_all [Arg.mu,Arg.rid]
 | ob q' R u=>cases u<;>simp_all [Arg.mu,Arg.rid]
theorem qbW: ∀ {l:List Arg} {m:List Res} {r:Nat} {R:Res},qbN l m r=some R→∃(j:Nat) (A:Arg) (B:Res),l[j]?=some A∧m[j]?=some B∧A.mu=some r∧A.up B=some R
 | [],m,r,R,h=>by simp [qbN] at h
 | a::l,[],r,R,h=>by simp [qbN] at h
 | a::l,B::m,r,R,h=>by
   simp only [qbN] at h
   split at h
   ·rename_i q hq
    cases hb:Nat.beq q r with
    | true=>
      rw [hb] at h
      obtain rfl:=Nat.eq_of_beq_eq_true hb
      exact ⟨0,a,B,rfl,rfl,hq,h⟩
    | false=>
      rw [hb] at h
      obtain ⟨j,A,B',h1,h2,h3⟩:=qbW (show qbN l m r=some R from h)
      exact ⟨j+1,A,B',by simpa using h1,by simpa using h2,h3⟩
   ·obtain ⟨j,A,B',h1,h2,h3⟩:=qbW h
    exact ⟨j+1,A,B',by simpa using h1,by simpa using h2,h3⟩
theorem qcH: ∀ {l:List Arg} {m:List Res} {r:Nat},upsB l m=true→qbN l m r=none→∀(j:Nat) (A:Arg),l[j]?=some A→A.mu≠some r
 | [],m,r,hu,h,j,A,hj=>by simp at hj
 | a::l,[],r,hu,h,j,A,hj=>by simp [upsB] at hu
 | a::l,B::m,r,hu,h,j,A,hj=>by
   simp only [upsB,Bool.and_eq_true] at hu
   simp only [qbN] at h
   split at h
   ·rename_i q hq
    rw [hq] at hu
    cases hb:Nat.beq q r with
    | true=>
      rw [hb] at h
      have h':a.up B=none:=h
      rw [h'] at hu
      exact absurd hu.1 (by simp)
    | false=>
      rw [hb] at h
      cases j with
      | zero=>
        simp at hj
        subst hj
        intro he
        rw [hq] at he
        cases he
        simp at hb
      | succ j=>exact qcH hu.2 h j A (by simpa using hj)
   ·rename_i hq
    cases j with
    | zero=>
      simp at hj
      subst hj
      rw [hq]
      exact fun h=>by cases h
    | succ j=>exact qcH hu.2 h j A (by simpa using hj)
def Res.plain:Res→Prop
 | .bx _ _ ps=>ps=[]
 | .cl _ _=>False
 | _=>True
theorem Res.sat.move {θ θ':Th} {r r' n n':Nat} {w:World} {K:Ghost} (hk:θ'.key r'=θ.key r) (hf:θ'.fp r'=θ.fp r) (hs:θ'.sur r'=θ.sur r): ∀ {R:Res},R.plain→R.sat θ r n w K→R.sat θ' r' n' w K
 | .bx t x ps,hp,⟨b,h1,h2,h3,h4⟩=>by
   have hp':ps=[]:=hp
   subst hp'
   exact ⟨b,by rw [hk,hs];exact h1,by rw [hf];exact h2,by rw [hs];exact h3,by simp⟩
 | .ow e t x,_,h=>by
   show Own _ _ _ _ _ _∧_
   rw [hk,hf];exact h
 | .rw e t x,_,h=>by
   show RwX _ _ _ _ _ _ _ _
   rw [hk,hf,hs];exact h
 | .mp kk kv m nn,_,h=>by
   show Mp _ _ _ _ _ _∧_
   rw [hk,hf];exact h
 | .bk e x,_,h=>by
   show qaE _ _ _ _ _ _
   rw [hk,hf];exact h
 | .cl _ _,h,_=>h.elim
theorem RM.plain: ∀ {l:List RM} {a:RM.denL l},∀R∈RM.resL l a,R.plain
 | [],a,R,h=>by simp [RM.resL] at h
 | m::l,a,R,h=>by
   rcases List.mem_append.1 (show R∈RM.res m a.1++RM.resL l a.2 from h) with h | h
   ·cases m with
    | v t=>simp [RM.res] at h
    | ow e t=>simp [RM.res] at h;subst h;trivial
    | bx t=>simp [RM.res] at h;subst h;exact rfl
    | rw e t=>simp [RM.res] at h;subst h;trivial
   ·exact RM.plain R h
theorem RM.sv_move {θ θ':Th} {N N':Nat} {K:Ghost}: ∀ {l:List RM} {a:RM.denL l} {n n':Nat} {vs:List Value},(∀i,i<(RM.resL l a).length→θ'.key (n'+i)=θ.key (n+i))→n'+(RM.resL l a).length≤N'→SVal.relL θ N K (RM.svL l a n) vs→SVal.relL θ' N' K (RM.svL l a n') vs
 | [],a,n,n',vs,hk,hN,h=>h
 | m::l,a,n,n',vs,hk,hN,⟨u0,r,e,h1,h2⟩=>by
   have hlen:(RM.resL (m::l) a).length=(RM.res m a.1).length+(RM.resL l a.2).length:=by
    show (RM.res m a.1++RM.resL l a.2).length=_
    rw [List.length_append]
   rw [hlen] at hN
   refine ⟨u0,r,e,?_,?_⟩
   ·cases m with
    | v t=>
      have h1':(SVal.of t a.1).rel θ N K u0:=h1
      exact (SVal.of_rel (K:=K) (θ:=θ') (n:=N') (by
       have: ∀ {t:Ty} {x:t.den},(SVal.of t x).rel θ N K u0→t.kd.V K x u0:=fun {t x} h=>by
        cases t with
        | int ik=>obtain ⟨rfl,hw⟩:=h;exact qe0 hw
        | byte=>have h':u0= .int .u8 (bI _):=h;subst h';exact bI_V
        | bool=>have h':u0= .bool _:=h;subst h';exact qcp
        | str=>obtain ⟨rfl,hw⟩:=h;exact qrP hw
        | _=>exact h
       exact this h1'))
    | ow e t=>
      obtain ⟨_,hV,hkey⟩:=h1
      refine ⟨by simp [RM.res] at hN;omega,hV,?_⟩
      have:=hk 0 (by rw [hlen];simp [RM.res];omega)
      exact this.trans hkey
    | bx t=>
      obtain ⟨_,_,b,o,h3,h4⟩:=h1
      refine ⟨by simp [RM.res] at hN;omega,trivial,b,o,?_,h4⟩
      have:=hk 0 (by rw [hlen];simp [RM.res];omega)
      exact this.trans h3
    | rw e t=>
      obtain ⟨_,hkey⟩:=h1
      refine ⟨by simp [RM.res] at hN;omega,?_⟩
      have:=hk 0 (by rw [hlen];simp [RM.res];omega)
      exact this.trans hkey
   ·refine RM.sv_move (fun i hi=>?_) (by omega) h2
    have:=hk ((RM.res m a.1).length+i) (by rw [hlen];omega)
    rw [Nat.add_assoc,Nat.add_assoc]
    exact this
theorem qnY {θ:Th} {n:Nat} {K:Ghost}: ∀ {l:List SVal} {vs:List Value},SVal.relL θ n K l vs→(tupS l).rel θ n K (tupV vs)
 | [],vs,h=>by
   have h':vs=[]:=h
   subst h'
   exact ⟨[],rfl,rfl⟩
 | [s],vs,⟨v,r,e,h1,h2⟩=>by
   have h2':r=[]:=h2
   subst h2'
   subst e
   exact h1
 | s::s'::l,vs,h=>by
   obtain ⟨v,r,e,h1,v',r',e',h2,h3⟩:=h
   subst e'
   subst e
   exact ⟨v::v'::r',rfl,v,_,rfl,h1,v',r',rfl,h2,h3⟩
theorem qd9 {θ:Th} {N:Nat} {K:Ghost} {t:Ty} {x:t.den} {u0:Value} (h:(SVal.of t x).rel θ N K u0):t.kd.V K x u0:=by
 cases t with
 | int ik=>obtain ⟨rfl,hw⟩:=h;exact qe0 hw
 | byte=>have h':u0= .int .u8 (bI _):=h;subst h';exact bI_V
 | bool=>have h':u0= .bool _:=h;subst h';exact qcp
 | str=>obtain ⟨rfl,hw⟩:=h;exact qrP hw
 | _=>exact h
theorem RM.wfI_of {θ:Th} {N:Nat} {K:Ghost} {w:World} {p:Prop}: ∀ {l:List RM} {a:RM.denL l} {n:Nat} {vs:List Value},SVal.relL θ N K (RM.svL l a n) vs→(∀(j:Nat) (R:Res),(RM.resL l a)[j]?=some R→R.sat θ (n+j) N w K)→RM.wfI l a p→p
 | [],a,n,vs,hr,hs,h=>h
 | .v t::l,a,n,vs,⟨u,r,e,h1,h2⟩,hs,h=>by
   have hV:t.kd.V K a.1 u:=qd9 h1
   have rest:RM.wfI l a.2 p→p:=fun h=>RM.wfI_of h2 (fun j R hj=>by
    have:=hs j R hj
    simpa [RM.res] using this) h
   have hw:=hV.wf
   cases t with
   | bool=>exact rest h
   | _=>exact rest (h hw)
 | .ow e t::l,a,n,vs,⟨u,r,e',h1,h2⟩,hs,h=>by
   have hs': ∀(j:Nat) (R:Res),(RM.resL l a.2)[j]?=some R→R.sat θ (n+1+j) N w K:=fun j R hj=>by
    have:=hs (1+j) R (by rw [Nat.add_comm 1 j];simpa [RM.resL,RM.res] using hj)
    rw [Nat.add_assoc]
    exact this
   exact RM.wfI_of h2 hs' (h h1.2.1.wf)
 | .bx t::l,a,n,vs,⟨u,r,e',h1,h2⟩,hs,h=>by
   have h0:(Res.bx t a.1 []).sat θ n N w K:=hs 0 _ rfl
   obtain ⟨b,_,_,hB,_⟩:=h0
   have hs': ∀(j:Nat) (R:Res),(RM.resL l a.2)[j]?=some R→R.sat θ (n+1+j) N w K:=fun j R hj=>by
    have:=hs (1+j) R (by rw [Nat.add_comm 1 j];simpa [RM.resL,RM.res] using hj)
    rw [Nat.add_assoc]
    exact this
   exact RM.wfI_of h2 hs' (h hB.wf)
 | .rw e t::l,a,n,vs,⟨u,r,e',h1,h2⟩,hs,h=>by
   have h0:(Res.rw e t a.1).sat θ n N w K:=hs 0 _ rfl
   have hs': ∀(j:Nat) (R:Res),(RM.resL l a.2)[j]?=some R→R.sat θ (n+1+j) N w K:=fun j R hj=>by
    have:=hs (1+j) R (by rw [Nat.add_comm 1 j];simpa [RM.resL,RM.res] using hj)
    rw [Nat.add_assoc]
    exact this
   exact RM.wfI_of h2 hs' (h (RwX.wf h0))
section
variable {G:Glob} {s:St} {θ:Th} {ρ:Env} {w:World} {K:Ghost} {n:Nat}
theorem Arg.sur_ex (h:Rel G s θ ρ w K): ∀ {A:Arg},A.ok s→∃sr,A.sur θ w K sr
 | .no e,_=>⟨([],[]),trivial⟩
 | .ob q R u,_=>⟨θ.sur q,rfl⟩
 | .bx q T t p X u,⟨hp,org,lk,hr,_⟩=>by
   obtain ⟨b,hk,hf,hB,_⟩:=(h.res _ _ hr).2.1
   obtain ⟨p',q',hl,hB',hback⟩:=Bx.sub (p.ok hp) hB
   exact ⟨((θ.sur q).1++p',q'++(θ.sur q).2),b,hk,by rw [List.length_append,hl],hB',fun w' K' y hle hy=>hback hle hy⟩
theorem Arg.sat_of (h:Rel G s θ ρ w K) {θc:Th} {j N:Nat}: ∀ {A:Arg},A.ok s→θc.key j=A.key θ→θc.fp j=A.fp θ→A.sur θ w K (θc.sur j)→A.R.sat θc j N w K
 | .no e,_,hk,hf,_=>by
   show qaE e w K (θc.key j) (θc.fp j) none
   rw [hk,hf]
   exact qaE.nil
 | .ob q R u,⟨ho,org,lk,hr,_⟩,hk,hf,hs=>(h.res _ _ hr).2.1.mvO ho hk hf hs
 | .bx q T t p X u,⟨hp,org,lk,hr,_⟩,hk,hf,⟨b,h1,h2,h3,h4⟩=>by
   obtain ⟨b',hk',hf',hB,_⟩:=(h.res _ _ hr).2.1
   rw [h1] at hk'
   cases hk'
   refine ⟨b,?_,?_,h3,by simp⟩
   ·rw [hk]
    show shift p.off (θ.key q)=_
    rw [h1,h2]
    rfl
   ·rw [hf];exact hf'
theorem qh0 (hG:G.fine) (h:Rel G s θ ρ w K) {P:Program} {f:FuncId} {C:Ctr} (hC:C.valid P f) {svs:List SVal} {vs:List Value} {k:List Nat→St→SVal→Prop} {Φ:Prop} (hc:qo0 C s svs k=some Φ) (hΦ:Φ) (hvs:SVal.relL θ s.nx K svs vs):
 Calls P f vs.toArray w fun e w'=> ∃v K' θ' s' sv tn,e= .returned v∧k tn s' sv∧Rel G s' θ' ρ w' K'∧sv.rel θ' s'.nx K' v∧s'.env=s.env∧(∀r∈tn,∃e,s.res r=some e)∧Ext (fun g=> ∃r∈tn,θ.fp r g) w K w' K'∧Moved s s' θ θ' w tn:=by
 classical
 unfold qo0 at hc
 split at hc
 ·rename_i a args hfit
  cases hb:(distinct args && upsB args (PM.aft C.pm a (C.out a).2)) with
  | false=>rw [hb] at hc;cases hc
  | true=>
    rw [hb] at hc
    simp only [cond_true,Option.some.injEq] at hc
    subst hc
    simp only [Bool.and_eq_true] at hb
    obtain ⟨hdis,hups⟩:=hb
    obtain ⟨hpre,hk⟩:=Ctr.preAnd_ok hΦ
    obtain ⟨f1,f2,f3⟩:=PM.fitL_ok h hfit
    have hok: ∀A∈args,A.ok s:=fun A hA=>(f1 A hA).elim (fun h=>h) (fun h=>h vs hvs)
    have hlen:(PM.resL C.pm a).length=args.length:=by
     have:=congrArg List.length f2
     simpa using this
    obtain ⟨sr,hsr⟩:=qmN (n:=args.length) (P:=fun j sr=> ∀A,args[j]?=some A→A.sur θ w K sr) fun j hj=>by
     obtain ⟨sr,hs⟩:=Arg.sur_ex h (hok args[j] (List.getElem_mem hj))
     exact ⟨sr,fun A hA=>by
      rw [List.getElem?_eq_getElem hj] at hA
      cases hA
      exact hs⟩
    let θc:Th:=⟨fun j=>match args[j]? with
     | some A=>A.key θ
     | none=> .pointer none,fun j=>match args[j]? with
     | some A=>A.fp θ
     | none=>NX,sr⟩
    have htell:Tells θ θc w K args 0:=fun j A hj=>by
     rw [Nat.zero_add]
     have hlt:=(List.getElem?_eq_some_iff.1 hj).1
     refine ⟨?_,?_,hsr j hlt A hj⟩
     ·show (match args[j]? with
       | some A=>A.key θ
       | none=> .pointer none)=_
      rw [hj]
     ·show (match args[j]? with
       | some A=>A.fp θ
       | none=>NX)=_
      rw [hj]
    have hresA: ∀(r:Nat) (R:Res) (m:Bool),(PM.resL C.pm a)[r]?=some (R,m)→∃A,args[r]?=some A∧R=A.R:=fun r R m hr=>by
     have h1:((PM.resL C.pm a).map (·.1))[r]?=some R:=by rw [List.getElem?_map,hr];rfl
     rw [f2,List.getElem?_map] at h1
     cases hA:args[r]? with
     | none=>rw [hA] at h1;cases h1
     | some A=>rw [hA] at h1;cases h1;exact ⟨A,rfl,rfl⟩
    have hargs:ArgsOk C.pm a θc vs w K:=by
     refine ⟨?_,?_,?_⟩
     ·exact PM.fitL_val h hfit hvs htell (by omega)
     ·intro r R m hr
      obtain ⟨A,hA,rfl⟩:=hresA r R m hr
      obtain ⟨t1,t2,t3⟩:=htell r A hA
      rw [Nat.zero_add] at t1 t2 t3
      exact Arg.sat_of h (hok A (List.mem_of_getElem? hA)) t1 t2 t3
     ·intro r r' hr hr' hne g hg hg'
      rw [hlen] at hr hr'
      have e1:args[r]?=some args[r]:=List.getElem?_eq_getElem hr
      have e2:args[r']?=some args[r']:=List.getElem?_eq_getElem hr'
      have t1:=(htell r _ e1).2.1
      have t2:=(htell r' _ e2).2.1
      rw [Nat.zero_add] at t1 t2
      rw [t1] at hg
      rw [t2] at hg'
      have o1:=hok _ (List.mem_of_getElem? e1)
      have o2:=hok _ (List.mem_of_getElem? e2)
      have gen: ∀ {A B:Arg},args[r]?=some A→args[r']?=some B→A.ok s→B.ok s→A.fp θ g→B.fp θ g→False:=fun {A B} e1 e2 o1 o2 hg hg'=>by
       have hr1: ∀ {A:Arg},A.ok s→A.fp θ g→∃q e,A.rid=some q∧s.res q=some e∧θ.fp q g:=fun {A} o hg=>by
        cases A with
        | no e=>exact hg.elim
        | bx q T t p X u=>obtain ⟨_,org,lk,hr,_⟩:=o;exact ⟨q,_,rfl,hr,hg⟩
        | ob q R u=>obtain ⟨_,org,lk,hr,_⟩:=o;exact ⟨q,_,rfl,hr,hg⟩
       obtain ⟨q1,ea,i1,i2,i3⟩:=hr1 o1 hg
       obtain ⟨q2,eb,j1,j2,j3⟩:=hr1 o2 hg'
       by_cases hq:q1=q2
       ·subst hq
        exact hne (qfG hdis e1 e2 i1 j1)
       ·exact h.sep q1 q2 ea eb i2 j2 hq g i3 j3
      exact gen e1 e2 o1 o2 hg hg'
    refine (hC a hpre θc vs w K h.mod hargs).mono ?_
    rintro e w' ⟨v,K',θd,rfl,hO⟩
    have hT: ∀r,(∃(j:Nat) (A:Arg),args[j]?=some A∧A.mu=some r)→r<s.nx∧∃e,s.res r=some e∧e.free:=fun r ⟨j,A,hj,hm⟩=>by
     have o:=hok A (List.mem_of_getElem? hj)
     cases A with
     | no e=>cases hm
     | bx q T t p X u=>
       obtain ⟨_,org,lk,hr,hu⟩:=o
       cases u with
       | false=>cases hm
       | true=>cases hm;exact ⟨(h.res _ _ hr).1,_,hr,qaI (hu rfl)⟩
     | ob q R u=>
       obtain ⟨_,org,lk,hr,hu⟩:=o
       cases u with
       | false=>cases hm
       | true=>cases hm;exact ⟨(h.res _ _ hr).1,_,hr,qaI (hu rfl)⟩
    let T:Nat→Prop:=fun r=> ∃(j:Nat) (A:Arg),args[j]?=some A∧A.mu=some r
    let θ':Th:=⟨fun r=>if r<s.nx then θ.key r else θd.key ((PM.resL C.pm a).length+(r - s.nx)),fun r=>if hr:T r then θd.fp (Classical.choose hr) else if r<s.nx then θ.fp r else θd.fp ((PM.resL C.pm a).length+(r - s.nx)),
     fun r=>if r<s.nx then θ.sur r else θd.sur ((PM.resL C.pm a).length+(r - s.nx))⟩
    have kfp: ∀ {j:Nat} {A:Arg} {r:Nat},args[j]?=some A→A.mu=some r→θ'.fp r=θd.fp j:=fun {j A r} hj hm=>by
     have hr:T r:=⟨j,A,hj,hm⟩
     show (if hr:T r then _ else _)=_
     rw [dif_pos hr]
     obtain ⟨A',hj',hm'⟩:=Classical.choose_spec hr
     rw [qfG hdis hj' hj (Arg.mu_rid hm') (Arg.mu_rid hm)]
    have kold: ∀ {r:Nat},r<s.nx→¬T r→θ'.fp r=θ.fp r:=fun {r} hr hn=>by
     show (if hr:T r then _ else _)=_
     rw [dif_neg hn,if_pos hr]
    have knew: ∀ {r:Nat},s.nx≤r→θ'.fp r=θd.fp ((PM.resL C.pm a).length+(r - s.nx))∧θ'.key r=θd.key ((PM.resL C.pm a).length+(r - s.nx))∧θ'.sur r=θd.sur ((PM.resL C.pm a).length+(r - s.nx)):=fun {r} hr=>by
     have h1: ¬T r:=fun ht=>absurd (hT r ht).1 (by omega)
     have h2: ¬r<s.nx:=by omega
     refine ⟨?_,?_,?_⟩
     ·show (if hr:T r then _ else _)=_
      rw [dif_neg h1,if_neg h2]
     ·exact if_neg h2
     ·exact if_neg h2
    have kkey: ∀ {r:Nat},r<s.nx→θ'.key r=θ.key r∧θ'.sur r=θ.sur r:=fun {r} hr=>⟨if_pos hr,if_pos hr⟩
    have haft:(PM.aft C.pm a (C.out a).2).length=args.length:=by rw [PM.aft_len,hlen]
    have hends:(C.ends a).length=args.length+(RM.resL C.rm (C.out a).1).length:=by
     unfold Ctr.ends
     rw [List.length_append,haft]
    let s':=s.behind args (PM.aft C.pm a (C.out a).2) (RM.resL C.rm (C.out a).1)
    have hnx':s'.nx=s.nx+(RM.resL C.rm (C.out a).1).length:=rfl
    have hExt:Ext (fun g=> ∃r,T r∧θ.fp r g) w K w' K':=hO.ext.weak fun g _ ⟨j,R,hj,hg⟩=>by
     obtain ⟨A,hA,rfl⟩:=hresA j R true hj
     have hmu:=f3 j A hA _ hj
     have t2:=(htell j A hA).2.1
     rw [Nat.zero_add] at t2
     rw [t2] at hg
     cases A with
     | no e=>exact hg.elim
     | bx q T' t p X u=>exact ⟨q,⟨j,_,hA,hmu⟩,hg⟩
     | ob q R u=>exact ⟨q,⟨j,_,hA,hmu⟩,hg⟩
    have hbeh: ∀(r:Nat) (e:RE),s'.res r=some e→(∃(j:Nat) (A:Arg) (B:Res) (R:Res) (e0:RE),args[j]?=some A∧(PM.aft C.pm a (C.out a).2)[j]?=some B∧A.mu=some r∧A.up B=some R∧s.res r=some e0∧e={ e0 with r:=R })∨
     (¬T r∧r<s.nx∧s.res r=some e)∨(¬T r∧s.nx≤r∧∃R,(RM.resL C.rm (C.out a).1)[r - s.nx]?=some R∧e=⟨R,.new,false⟩):=fun r e hr=>by
     have hr':qfB s args (PM.aft C.pm a (C.out a).2) (RM.resL C.rm (C.out a).1) r=some e:=hr
     unfold qfB at hr'
     split at hr'
     ·rename_i R hfb
      obtain ⟨j,A,B,b1,b2,b3,b4⟩:=qbW hfb
      split at hr'
      ·rename_i e0 he0
       cases hr'
       exact .inl ⟨j,A,B,R,e0,b1,b2,b3,b4,he0,rfl⟩
      ·cases hr'
     ·rename_i hfb
      have hnT: ¬T r:=fun ⟨j,A,hj,hm⟩=>qcH hups hfb j A hj hm
      cases hle:Nat.ble s.nx r with
      | true=>
        rw [hle] at hr'
        simp only [cond_true] at hr'
        split at hr'
        ·rename_i R hR
         cases hr'
         exact .inr (.inr ⟨hnT,Nat.le_of_ble_eq_true hle,R,hR,rfl⟩)
        ·cases hr'
      | false=>
        rw [hle] at hr'
        have hlt:r<s.nx:=Nat.lt_of_not_le fun hh=>by
         rw [Nat.ble_eq_true_of_le hh] at hle
         cases hle
        exact .inr (.inl ⟨hnT,hlt,hr'⟩)
    have hfpT: ∀ {j:Nat} {A:Arg},args[j]?=some A→∀g,θd.fp j g→(∃q,A.rid=some q∧θ.fp q g)∨w.heap.size≤g:=fun {j A} hj g hg=>by
     have hlt:=(List.getElem?_eq_some_iff.1 hj).1
     rcases hO.old j (by omega) g hg with h1 | h1
     ·have t2:=(htell j A hj).2.1
      rw [Nat.zero_add] at t2
      rw [t2] at h1
      cases A with
      | no e=>exact h1.elim
      | bx q T' t p X u=>exact .inl ⟨q,rfl,h1⟩
      | ob q R u=>exact .inl ⟨q,rfl,h1⟩
     ·exact .inr h1
    have hrel:Rel G s' θ' ρ w' K':=by
     refine h.step hG (T:=T) (fun r hr=>(hT r hr).2) hExt hO.mod (Nat.le_add_right _ _) (fun r hr=>kkey hr) rfl ?_ ?_ ?_ ?_
     ·intro r e hr hlt' hnT'
      rcases hbeh r e hr with ⟨j,A,B,R,e0,b1,_,b3,_⟩ | ⟨b1,b2,b3⟩ | ⟨b1,b2,_⟩
      ·exact absurd ⟨j,A,b1,b3⟩ hnT'
      ·exact ⟨b3,kold b2 b1⟩
      ·exact absurd hlt' (by omega)
     ·intro r e hr hl
      have hnT: ¬T r:=fun ht=>by
       obtain ⟨_,e',he',hf⟩:=hT r ht
       rw [hr] at he'
       cases he'
       rw [hf.1] at hl
       cases hl
      have hlt:=(h.res r e hr).1
      show qfB s args (PM.aft C.pm a (C.out a).2) (RM.resL C.rm (C.out a).1) r=some e
      unfold qfB
      split
      ·rename_i R hfb
       obtain ⟨j,A,B,b1,_,b3,_⟩:=qbW hfb
       exact absurd ⟨j,A,b1,b3⟩ hnT
      ·have:Nat.ble s.nx r=false:=by
        cases hh:Nat.ble s.nx r with
        | true=>exact absurd (Nat.le_of_ble_eq_true hh) (by omega)
        | false=>rfl
       rw [this]
       exact hr
     ·intro r e hr hC'
      rcases hbeh r e hr with ⟨j,A,B,R,e0,b1,b2,b3,b4,b5,rfl⟩ | ⟨b1,b2,b3⟩ | ⟨b1,b2,R,b3,rfl⟩
      ·have hjlt:=(List.getElem?_eq_some_iff.1 b1).1
       have hBs:B.sat θd j (C.ends a).length w' K':=hO.sat j B (by
        unfold Ctr.ends
        rw [List.getElem?_append_left (by omega)]
        exact b2)
       have hrlt:=(h.res r e0 b5).1
       have ekey:=(htell j A b1).1
       have esur:=(htell j A b1).2.2
       rw [Nat.zero_add] at ekey esur
       have hupj:=hO.upto j (by omega)
       have hfpr:=kfp b1 b3
       have hkr:=kkey hrlt
       have o:=hok A (List.mem_of_getElem? b1)
       refine ⟨by omega,?_,?_,?_⟩
       ·show R.sat θ' r s'.nx w' K'
        cases A with
        | no e=>cases b3
        | ob q R0 u=>
          obtain rfl:q=r:=by
           have:=Arg.mu_rid b3
           cases this
           rfl
          cases hob:B.objB with
          | false=>simp [Arg.up,hob] at b4
          | true=>
            simp only [Arg.up,hob,cond_true,Option.some.injEq] at b4
            subst b4
            exact hBs.mvO hob (hkr.1.trans (hupj.1.trans ekey).symm) hfpr (hkr.2.trans (hupj.2.trans esur).symm)
        | bx q T' t p X u=>
          obtain rfl:q=r:=by
           have:=Arg.mu_rid b3
           cases this
           rfl
          cases B with
          | bx t' y ps=>
            cases ps with
            | cons _ _=>simp [Arg.up] at b4
            | nil=>
              simp only [Arg.up] at b4
              split at b4
              ·rename_i ht
               subst ht
               simp only [Option.some.injEq] at b4
               subst b4
               obtain ⟨b',k1,k2,k3,_⟩:=hBs
               obtain ⟨b,s1,s2,s3,s4⟩:=esur
               have h1:θd.key j= .pointer (some ⟨b,(θ.sur q).1.length+p.off,none⟩):=by
                rw [hupj.1,ekey]
                show shift p.off (θ.key q)=_
                rw [s1]
                rfl
               rw [k1] at h1
               simp only [Value.pointer.injEq,Option.some.injEq,Addr.mk.injEq] at h1
               obtain rfl:=h1.1
               rw [hupj.2] at k3
               refine ⟨b',?_,?_,?_,by simp⟩
               ·rw [hkr.1,hkr.2];exact s1
               ·rw [hfpr];exact k2
               ·rw [hkr.2];exact s4 w' K' y hO.ext.le k3
              ·cases b4
          | _=>simp [Arg.up] at b4
       ·show e0.org.ok G (θ'.fp r)
        have ho:=(h.res _ _ b5).2.2
        rw [hfpr]
        have sub: ∀g,θd.fp j g→θ.fp r g∨w.heap.size≤g:=fun g hg=>(hfpT b1 g hg).imp (fun ⟨q,hq,hh⟩=>by
         rw [Arg.mu_rid b3] at hq
         cases hq
         exact hh) (fun h=>h)
        cases hoo:e0.org with
        | new=>
          rw [hoo] at ho
          exact fun g hg=>(sub g hg).elim (ho g) (Nat.le_trans h.ext.size)
        | par j=>
          rw [hoo] at ho
          exact fun g hg=>(sub g hg).elim (ho g) (fun hx=> .inr (Nat.le_trans h.ext.size hx))
        | ro=>trivial
       ·rw [hfpr]
        exact fun g hg=>(hfpT b1 g hg).imp (fun ⟨q,hq,hh⟩=>by
         rw [Arg.mu_rid b3] at hq
         cases hq
         exact ⟨_,⟨j,A,b1,b3⟩,hh⟩) (fun h=>h)
      ·exact absurd hC' (by rintro (hh | hh);exact b1 hh;omega)
      ·have hi:=(List.getElem?_eq_some_iff.1 b3).1
       obtain ⟨k1,k2,k3⟩:=knew b2
       have hRs:=hO.sat ((PM.resL C.pm a).length+(r - s.nx)) R (by
        unfold Ctr.ends
        rw [List.getElem?_append_right (by omega),haft,hlen]
        rw [Nat.add_sub_cancel_left]
        exact b3)
       have hnew:=hO.new ((PM.resL C.pm a).length+(r - s.nx)) (by omega) (by omega)
       refine ⟨by omega,hRs.move k2 k1 k3 (RM.plain R (List.mem_of_getElem? b3)),?_,?_⟩
       ·show ∀g,θ'.fp r g→_
        rw [k1]
        exact fun g hg=>Nat.le_trans h.ext.size (hnew g hg)
       ·rw [k1]
        exact fun g hg=> .inr (hnew g hg)
     ·intro r r' e e' hr hr' hC1 hC2 hne g hg hg'
      have pos: ∀r e,s'.res r=some e→(T r∨s.nx≤r)→∃i,i<(C.ends a).length∧θ'.fp r=θd.fp i∧((∃A,args[i]?=some A∧A.mu=some r)∨i=(PM.resL C.pm a).length+(r - s.nx)∧s.nx≤r):=fun r e hr hCr=>by
       rcases hbeh r e hr with ⟨j,A,B,R,e0,b1,b2,b3,b4,b5,rfl⟩ | ⟨b1,b2,b3⟩ | ⟨b1,b2,R,b3,rfl⟩
       ·have hjlt:=(List.getElem?_eq_some_iff.1 b1).1
        exact ⟨j,by omega,kfp b1 b3,.inl ⟨A,b1,b3⟩⟩
       ·exact absurd hCr (by rintro (hh | hh);exact b1 hh;omega)
       ·have hi:=(List.getElem?_eq_some_iff.1 b3).1
        exact ⟨_,by omega,(knew b2).1,.inr ⟨rfl,b2⟩⟩
      obtain ⟨i,i1,i2,i3⟩:=pos r e hr hC1
      obtain ⟨j,j1,j2,j3⟩:=pos r' e' hr' hC2
      rw [i2] at hg
      rw [j2] at hg'
      refine hO.apart i j i1 j1 ?_ g hg hg'
      rintro rfl
      rcases i3 with ⟨A,a1,a2⟩ | ⟨a1,a2⟩<;>rcases j3 with ⟨A',c1,c2⟩ | ⟨c1,c2⟩
      ·rw [a1] at c1
       cases c1
       rw [a2] at c2
       cases c2
       exact hne rfl
      ·have:=(List.getElem?_eq_some_iff.1 a1).1
       omega
      ·have:=(List.getElem?_eq_some_iff.1 c1).1
       omega
      ·omega
    obtain ⟨us,hv,hus⟩:=hO.val
    have hk':=RM.wfI_of (w:=w') hus (fun j R hj=>hO.sat _ R (by
     unfold Ctr.ends
     rw [List.getElem?_append_right (by omega),haft,hlen,Nat.add_sub_cancel_left]
     exact hj)) hk
    refine ⟨v,K',θ',s',tupS (RM.svL C.rm (C.out a).1 s.nx),args.filterMap Arg.mu,rfl,hk',hrel,?_,rfl,?_,?_,?_⟩
    ·rw [hv]
     refine qnY (RM.sv_move (fun i hi=>?_) (Nat.le_refl _) hus)
     have:=(knew (r:=s.nx+i) (by omega)).2.1
     rw [this]
     congr 2
     omega
    ·intro r hr
     obtain ⟨A,hA,hm⟩:=List.mem_filterMap.1 hr
     obtain ⟨j,hj⟩:=List.getElem?_of_mem hA
     obtain ⟨_,e,he,_⟩:=hT r ⟨j,A,hj,hm⟩
     exact ⟨e,he⟩
    ·refine hExt.weak fun g _ ⟨r,⟨j,A,hj,hm⟩,hg⟩=>⟨r,List.mem_filterMap.2 ⟨A,List.mem_of_getElem? hj,hm⟩,hg⟩
    ·refine ⟨Nat.le_add_right _ _,fun r e hr=>?_⟩
     rcases hbeh r e hr with ⟨j,A,B,R,e0,b1,b2,b3,b4,b5,rfl⟩ | ⟨b1,b2,b3⟩ | ⟨b1,b2,R,b3,rfl⟩
     ·have hmem:r∈args.filterMap Arg.mu:=List.mem_filterMap.2 ⟨A,List.mem_of_getElem? b1,b3⟩
      refine .inr ⟨.inl hmem,?_⟩
      rw [kfp b1 b3]
      exact fun g hg=>(hfpT b1 g hg).imp (fun ⟨q,hq,hh⟩=>by
       rw [Arg.mu_rid b3] at hq
       cases hq
       exact ⟨_,hmem,hh⟩) (fun h=>h)
     ·exact .inl ⟨kold b2 b1,e,b3⟩
     ·have hi:=(List.getElem?_eq_some_iff.1 b3).1
      refine .inr ⟨.inr b2,?_⟩
      rw [(knew b2).1]
      exact fun g hg=> .inr (hO.new _ (by omega) (by omega) g hg)
 ·cases hc
end
end Go.Inc

set_option linter.unusedVariables false
namespace Go.Inc
open Go Go.RowKit
def quv:Ty:= .pr (.arr 32 .byte) (.sl .byte)
def qmH:Ty:= .pr (.pr (.sl quv) .anm) (.int .i64)
def Ty.dflB:Ty→Bool
 | .sl q=>q.flatB
 | .pr a b=>a.dflB && b.dflB
 | .st a=>a.dflB
 | t=>t.flatB
structure Drop (D:Nat→Prop) (K1 K2:Ghost):Prop where
 gone: ∀b,D b→K2 b=none
 keep: ∀b,¬D b→K2 b=K1 b
section
variable {D:Nat→Prop} {K1 K2:Ghost} {w:World} {α:Type} {k:Kd α} {e:TypeId} {x:List α} {v:Value}
theorem Own.drop {L1 L2:Ghost} (hf:k.Flat) (h:Own k e w L1 x v) (hL: ∀g,ob v=some g→L2 g=L1 g):Own k e w L2 x v:=by
 obtain ⟨hwf,hlm,h⟩:=h
 refine ⟨hwf,hlm,?_⟩
 rcases h with h | ⟨g,cap,c,pre,l,rfl,hg,hnc,hcm,hcs,hK,hp,hR⟩
 ·exact .inl h
 ·cases cap with
  | zero=>
    have hx:x=[]:=List.eq_nil_of_length_eq_zero (by omega)
    subst hx
    exact .inl ⟨_,rfl,rfl⟩
  | succ cap=>exact .inr ⟨g,cap+1,c,pre,l,rfl,hg,hnc,hcm,hcs,(hL g rfl).trans hK,hp,RL.mono (fun _ _=>hf _ _ _ _) hR⟩
theorem Rw.drop (hD:Drop D K1 K2) (hf:k.Flat) (h:Rw k e w K1 x v):Rw k e w K2 x v:=by
 obtain ⟨hn,l,hO⟩:=h
 refine ⟨fun g hg=>?_,l,hO.drop hf fun g hg=>by simp [kset,hg]⟩
 by_cases hd:D g
 ·exact hD.gone g hd
 ·rw [hD.keep g hd];exact hn g hg
theorem DR.drop (hD:Drop D K1 K2): ∀ {t:Ty} {x:t.den} {cs:List Value} {F:Nat→Prop},t.dflB=true→DR w K1 t x cs F→DR w K2 t x cs F:=by
 intro t
 induction t with
 | sl t _=>rintro x cs F ht ⟨e,v,h2,h3,h4⟩;exact ⟨e,v,h2,h3.drop hD (Ty.flat_ok ht),h4⟩
 | pr a b iha ihb=>
   rintro x cs F ht ⟨c1,c2,F1,F2,h1,h2,h3,h4,h5⟩
   simp only [Ty.dflB,Bool.and_eq_true] at ht
   exact ⟨c1,c2,F1,F2,h1,iha ht.1 h2,ihb ht.2 h3,h4,h5⟩
 | st a ih=>intro x cs F ht h;exact ih ht h
 | _=>rintro x cs F ht ⟨h1,h2⟩;exact ⟨Ty.flat_ok ht _ _ _ _ h1,h2⟩
theorem DRL.drop (hD:Drop D K1 K2) {t:Ty} (ht:t.dflB=true): ∀ {x:List t.den} {Y:List (List Value)} {F:Nat→Prop},DRL w K1 t x Y F→DRL w K2 t x Y F
 | [],Y,F,h=>h
 | a::x,Y,F,⟨c,X',F1,F2,h1,h2,h3,h4,h5⟩=>⟨c,X',F1,F2,h1,h2.drop hD ht,DRL.drop hD ht h3,h4,h5⟩
end
def Res.indB:Res→Bool
 | .ow _ t _=>t.flatB
 | .rw e t _=>bif Nat.blt e DPB then t.flatB else t.dflB
 | _=>false
theorem Res.sat.drop {D:Nat→Prop} {K1 K2:Ghost} (hD:Drop D K1 K2) {θ:Th} {r n:Nat} {w:World}: ∀ {R:Res},R.indB=true→(∀g,θ.fp r g→¬D g)→R.sat θ r n w K1→R.sat θ r n w K2
 | .ow e t x,hi,hf,h=>⟨h.1.drop (Ty.flat_ok hi) fun g hg=>hD.keep g (hf g ((h.2 g).2 hg)),h.2⟩
 | .rw e t x,hi,hf,h=>by
   have h':RwX e t w K1 x (θ.sur r) (θ.key r) (θ.fp r):=h
   show RwX e t w K2 x (θ.sur r) (θ.key r) (θ.fp r)
   cases hb:Nat.blt e DPB with
   | true=>
     simp only [Res.indB,hb,cond_true] at hi
     rw [RwX.flat hb] at h'⊢
     exact ⟨h'.1.drop hD (Ty.flat_ok hi),h'.2⟩
   | false=>
     simp only [Res.indB,hb,cond_false] at hi
     rw [RwX.deep hb] at h'⊢
     obtain ⟨X,F',h'⟩:=h'
     exact ⟨X,F',h'.cs,h'.hd.drop hD Kd.raws_flat,h'.el.drop hD hi,h'.ap,h'.fp⟩
def retell (s:St):SVal→Option SVal
 | .lit ik a=>some (.lit ik a)
 | .int ik a b=>some (.int ik a b)
 | .byt c=>some (.byt c)
 | .bt b=>some (.bt b)
 | .bv b=>some (.bv b)
 | .str l=>some (.str l)
 | .val t x=>bif t.flatB then some (.val t x) else none
 | .rw r=>some (.rw r)
 | .own r _ _=>(match s.res r with
   | some ⟨.ow _ t x,_,_⟩=>bif t.flatB then some (.own r t x) else none
   | _=>none)
 | _=>none
def qhH (s:St):List SVal→Option (List SVal)
 | []=>some []
 | v::l=>(match retell s v,qhH s l with
   | some a,some b=>some (a::b)
   | _,_=>none)
def qju (s:St) (v:SVal):Option SVal:=match v with
 | .tup l=>(match qhH s l with
   | some m=>some (.tup m)
   | none=>none)
 | v=>retell s v
def qnu (n:Nat) (s:St):Bool:=(List.range s.nx).all fun r=>Nat.blt r n || (match s.res r with
 | some e=>e.r.indB && decide (e.org= .new)
 | none=>true)
def qps (s:St) (t:Ty) (sv:SVal):Option (t.den×List Nat):=match sv.to t with
 | some x=>some (x,[])
 | none=>(match sv with
   | .rw r=>(match s.res r with
     | some ⟨.rw _ q x,_,_⟩=>if h:Ty.sl q=t then some (Ty.cast h (x:(Ty.sl q).den),[r]) else none
     | _=>none)
   | .obj r=>(match s.res r with
     | some ⟨.bk _ x,_,_⟩=>if h:Ty.ptr qmH=t then some (Ty.cast h (x.map fun y=>((y.1,()),y.2):Option qmH.den),[r]) else none
     | _=>none)
   | _=>none)
def qpr (s:St) (t:Ty):List SVal→Option (List t.den×List Nat)
 | []=>some ([],[])
 | v::l=>(match qps s t v,qpr s t l with
   | some (x,rs),some (y,qs)=>some (x::y,rs++qs)
   | _,_=>none)
def qeB (s:St):(l:List PM)→List SVal→Option (PM.denL l×List Nat)
 | [],vs=>(match vs with
   | []=>some ((),[])
   | _=>none)
 | .v t::l,vs=>(match vs with
   | v::vs=>(match v,t with
     | .psl m,.sl (.ptr T)=>(match qpr s (.ptr T) m,qeB s l vs with
       | some (x,rs),some (y,qs)=>some ((x,y),rs++qs)
       | _,_=>none)
     | v,t=>(match qps s t v,qeB s l vs with
       | some (x,rs),some (y,qs)=>some ((x,y),rs++qs)
       | _,_=>none))
   | []=>none)
 | _::_,_=>none
def blank (n:Nat):St:=⟨fun _=>none,fun _=>none,n⟩
def qkt (s s':St):St:=⟨s.env,fun r=>bif Nat.blt r s.nx then s.res r else s'.res r,s'.nx⟩
def qmR:List Nat→Bool
 | []=>true
 | a::l=> !(l.any (Nat.beq a)) && qmR l
def qry (C:Ctr) (s:St) (vs:List SVal) (k:List Nat→St→SVal→Prop):Option Prop:=
 match qeB s C.pm vs with
 | some (a,rs)=>bif qmR rs && !rs.isEmpty then qo0 C (blank s.nx) (PM.svL C.pm a 0) (fun _ s' sv=>bif qnu s.nx s' then (match qju s' sv with
    | some z=>k [] (qkt s s') z
    | none=>False) else False) else none
 | none=>none
theorem qnG {T:Ty} {K:Ghost}: ∀ {zs:List ((Ty.ptr T).den×Value)},(∀p∈zs,(Ty.ptr T).kd.V K p.1 p.2)→RL ((Ty.ptr T).kd.R K) (zs.map (·.1)) (zs.map (·.2))
 | [],_=>rfl
 | z::zs,h=>by
   obtain ⟨cs,h1,h2⟩:=h z (by simp)
   have hl:=(Ty.ptr T).kd.len h1
   have e:cs=[z.2]:=by
    match cs,hl,h2 with
    | [v],_,h2=>rw [h2];rfl
   rw [e] at h1
   exact ⟨[z.2],zs.map (·.2),rfl,h1,qnG fun p hp=>h p (by simp [hp])⟩
section
variable {G:Glob} {s:St} {θ:Th} {ρ:Env} {w:World} {K:Ghost}
structure Lent (θ:Th) (w:World) (K:Ghost) (rs:List Nat) (K1:Ghost):Prop where
 ext:Ext (fun g=> ∃r∈rs,θ.fp r g) w K w K1
 mod:Models w K1
 ex: ∀b,K b≠none→K1 b=K b
theorem Lent.nil (h:Rel G s θ ρ w K):Lent θ w K [] K:=⟨Ext.refl _ _ _,h.mod,fun _ _=>rfl⟩
theorem Lent.one (h:Rel G s θ ρ w K) {rs:List Nat} {K1:Ghost} (hL:Lent θ w K rs K1) {r:Nat} {e:RE} (hr:s.res r=some e) (hrs: ∀q∈rs,∃e',s.res q=some e') (hn:r∉rs) {Φ:Ghost→Prop} (hf:e.r.sat θ r s.nx w K1→∃K2,Ext (θ.fp r) w K1 w K2∧Models w K2∧Φ K2∧∀b,K1 b≠none→K2 b=K1 b):
 ∃K2,Lent θ w K (rs++ [r]) K2∧K1.le K2∧Φ K2:=by
 have hs:=(h.res r e hr).2.1.ext (θ':=θ) (n:=s.nx) (n':=s.nx) (Th.upto.refl _ _) (h.res r e hr).1 rfl (Nat.le_refl _) hL.ext fun g hg ⟨q,hq,hgq⟩=>by
  obtain ⟨e',he'⟩:=hrs q hq
  exact h.sep r q e e' hr he' (fun hh=>hn (hh▸hq)) g hg hgq
 obtain ⟨K2,h1,h2,h3,h4⟩:=hf hs
 exact ⟨K2,⟨(hL.ext.weak fun g _ ⟨q,hq,hg⟩=>⟨q,List.mem_append.2 (.inl hq),hg⟩).trans (h1.weak fun g _ hg=>⟨r,List.mem_append.2 (.inr (List.mem_singleton.2 rfl)),hg⟩),h2,fun b hb=>by rw [h4 b (by rw [hL.ex b hb];exact hb),hL.ex b hb]⟩,h1.le,h3⟩
theorem qkq (h:Rel G s θ ρ w K) {t:Ty} {sv:SVal} {x:t.den} {rs rs1:List Nat} {K1:Ghost} {v:Value} (hL:Lent θ w K rs1 K1) (hrs: ∀q∈rs1,∃e',s.res q=some e') (hl:qps s t sv=some (x,rs)) (hv:sv.rel θ s.nx K v) (hd: ∀r∈rs,r∉rs1):
 ∃K2,Lent θ w K (rs1++rs) K2∧K1.le K2∧t.kd.V K2 x v∧∀q∈rs,∃e',s.res q=some e':=by
 unfold qps at hl
 split at hl
 ·rename_i y hy
  cases hl
  exact ⟨K1,by rw [List.append_nil];exact hL,Ghost.le.refl _,(SVal.to_rel hy hv).mono hL.ext.le,by simp⟩
 ·split at hl
  ·rename_i r _
   split at hl
   ·rename_i e q y org lk hr
    split at hl
    ·rename_i ht
     subst ht
     cases hl
     obtain ⟨K2,h1,h2,h3⟩:=Lent.one h hL hr hrs (hd r (by simp)) (Φ:=fun K2=>(Ty.sl q).kd.V K2 y v) fun hs=>by
      have hs':RwX e q w K1 y (θ.sur r) (θ.key r) (θ.fp r):=hs
      obtain ⟨K2,a1,a2,a3,a4⟩:=hs'.freeze hL.mod
      rw [hv.2] at a3
      exact ⟨K2,a1,a2,a3,a4⟩
     exact ⟨K2,h1,h2,h3,fun z hz=>by rw [List.mem_singleton.1 hz];exact ⟨_,hr⟩⟩
    ·cases hl
   ·cases hl
  ·rename_i r _
   split at hl
   ·rename_i e y org lk hr
    split at hl
    ·rename_i ht
     subst ht
     cases hl
     obtain ⟨K2,h1,h2,h3⟩:=Lent.one h hL hr hrs (hd r (by simp)) (Φ:=fun K2=>(Ty.ptr qmH).kd.V K2 (y.map fun y=>((y.1,()),y.2)) v) fun hs=>by
      have hs':qaE e w K1 (θ.key r) (θ.fp r) y:=hs
      obtain ⟨K2,a1,a2,a3,a4⟩:=hs'.freezeX hL.mod
      rw [hv.2] at a3
      exact ⟨K2,a1,a2,a3,a4⟩
     exact ⟨K2,h1,h2,h3,fun z hz=>by rw [List.mem_singleton.1 hz];exact ⟨_,hr⟩⟩
    ·cases hl
   ·cases hl
  ·cases hl
theorem qkp (h:Rel G s θ ρ w K) {t:Ty}: ∀ {l:List SVal} {x:List t.den} {rs rs1:List Nat} {K1:Ghost} {vs:List Value},Lent θ w K rs1 K1→(∀q∈rs1,∃e',s.res q=some e')→qpr s t l=some (x,rs)→SVal.relL θ s.nx K l vs→(rs1++rs).Nodup→
 ∃K2,Lent θ w K (rs1++rs) K2∧K1.le K2∧(∀q∈rs,∃e',s.res q=some e')∧∃zs:List (t.den×Value),zs.map (·.1)=x∧zs.map (·.2)=vs∧∀p∈zs,t.kd.V K2 p.1 p.2
 | [],x,rs,rs1,K1,vs,hL,hrs,hl,hv,hd=>by
   cases hl
   rw [show vs=[] from hv]
   exact ⟨K1,by rw [List.append_nil];exact hL,Ghost.le.refl _,by simp,[],rfl,rfl,by simp⟩
 | v::l,x,rs,rs1,K1,vs,hL,hrs,hl,⟨u,us,e,hv,hvl⟩,hd=>by
   simp only [qpr] at hl
   split at hl
   ·rename_i y qs ys qs2 hl1 hl2
    cases hl
    rw [←List.append_assoc] at hd
    have hd1:=(List.nodup_append.1 hd).1
    obtain ⟨K2,a1,a2,a3,a4⟩:=qkq h hL hrs hl1 hv (fun r hr hr1=>(List.nodup_append.1 hd1).2.2 r hr1 r hr rfl)
    obtain ⟨K3,b1,b2,b3,zs,b4,b5,b6⟩:=qkp h a1 (fun q hq=>(List.mem_append.1 hq).elim (hrs q) (a4 q)) hl2 hvl hd
    rw [←List.append_assoc]
    refine ⟨K3,b1,a2.trans b2,fun q hq=>(List.mem_append.1 hq).elim (a4 q) (b3 q),(y,u)::zs,by simp [b4],by simp [b5,e],fun p hp=>?_⟩
    rcases List.mem_cons.1 hp with rfl | hp
    ·exact a3.mono b2
    ·exact b6 p hp
   ·cases hl
theorem qko (h:Rel G s θ ρ w K): ∀ {pm:List PM} {svs:List SVal} {a:PM.denL pm} {rs rs1:List Nat} {K1:Ghost} {vs:List Value},Lent θ w K rs1 K1→(∀q∈rs1,∃e',s.res q=some e')→qeB s pm svs=some (a,rs)→SVal.relL θ s.nx K svs vs→(rs1++rs).Nodup→
 ∃K2,Lent θ w K (rs1++rs) K2∧K1.le K2∧(∀q∈rs,∃e',s.res q=some e')∧∀n m,SVal.relL θ n K2 (PM.svL pm a m) vs
 | [],svs,a,rs,rs1,K1,vs,hL,hrs,hl,hv,hd=>by
   simp only [qeB] at hl
   split at hl
   ·cases hl
    rw [show vs=[] from hv]
    exact ⟨K1,by rw [List.append_nil];exact hL,Ghost.le.refl _,by simp,fun _ _=>rfl⟩
   ·cases hl
 | .v t::pm,svs,a,rs,rs1,K1,vs,hL,hrs,hl,hv,hd=>by
   have fin: ∀ {y:t.den} {ys:PM.denL pm} {qs qs2:List Nat} {svs':List SVal} {u:Value} {us:List Value},qeB s pm svs'=some (ys,qs2)→SVal.relL θ s.nx K svs' us→vs=u::us→rs=qs++qs2→a=(y,ys)→(∃K2,Lent θ w K (rs1++qs) K2∧K1.le K2∧t.kd.V K2 y u∧∀q∈qs,∃e',s.res q=some e')→
    ∃K2,Lent θ w K (rs1++rs) K2∧K1.le K2∧(∀q∈rs,∃e',s.res q=some e')∧∀n m,SVal.relL θ n K2 (PM.svL (.v t::pm) a m) vs:=fun {y ys qs qs2 svs' u us} h2 hus hvs hr ha ⟨K2,a1,a2,a3,a4⟩=>by
    subst hvs;subst hr;subst ha
    rw [←List.append_assoc] at hd⊢
    obtain ⟨K3,b1,b2,b3,b4⟩:=qko h a1 (fun q hq=>(List.mem_append.1 hq).elim (hrs q) (a4 q)) h2 hus hd
    exact ⟨K3,b1,a2.trans b2,fun q hq=>(List.mem_append.1 hq).elim (a4 q) (b3 q),fun n m=>⟨u,us,rfl,SVal.of_rel (a3.mono b2),b4 n _⟩⟩
   have nd: ∀ {qs qs2:List Nat},rs=qs++qs2→(rs1++qs).Nodup:=fun {qs qs2} e=>by
    rw [e,←List.append_assoc] at hd
    exact (List.nodup_append.1 hd).1
   simp only [qeB] at hl
   split at hl
   ·rename_i v svs'
    obtain ⟨u,us,rfl,hv1,hv2⟩:=hv
    split at hl
    ·rename_i m T
     split at hl
     ·rename_i y qs ys qs2 hl1 hl2
      cases hl
      obtain ⟨ws,hV,hml⟩:=hv1
      obtain ⟨K2,a1,a2,a3,zs,z1,z2,z3⟩:=qkp h hL hrs hl1 hml (nd rfl)
      refine fin hl2 hv2 rfl rfl rfl ⟨K2,a1,a2,?_,a3⟩
      obtain ⟨A,cap,hv,hcap,hlm,_,hS⟩:=qbC hV
      have hlen:y.length=ws.length:=by rw [←z1,←z2,List.length_map,List.length_map]
      show (Kd.sl (Ty.ptr T).kd).V K2 y u
      rw [hv,←hlen]
      refine ⟨_,⟨A,cap,rfl,by omega,by omega,fun z hz=>?_,?_⟩,rfl⟩
      ·rw [←z1] at hz
       obtain ⟨p,hp,rfl⟩:=List.mem_map.1 hz
       exact (z3 p hp).wf
      ·rcases hS with rfl | ⟨bl,e4,pre,mid,post,rfl,hK,hR⟩
       ·exact .inl (List.eq_nil_of_length_eq_zero (by rw [hlen];rfl))
       ·obtain ⟨hm,_⟩:=qfi hR
        obtain ⟨l',h1,tl,h2⟩:=(hL.ext.le.trans a2) _ _ _ hK
        refine .inr ⟨bl,e4,pre,mid,post++tl,rfl,by rw [h1,←h2];simp only [List.append_assoc],?_⟩
        have:=qnG z3
        rwa [z1,z2,←hm] at this
     ·cases hl
    ·split at hl
     ·rename_i y qs ys qs2 hl1 hl2
      cases hl
      exact fin hl2 hv2 rfl rfl rfl (qkq h hL hrs hl1 hv1 (fun r hr hr1=>(List.nodup_append.1 (nd rfl)).2.2 r hr1 r hr rfl))
     ·cases hl
   ·cases hl
 | .nil::pm,svs,a,rs,rs1,K1,vs,hL,hrs,hl,hv,hd=>by simp [qeB] at hl
 | .snil::pm,svs,a,rs,rs1,K1,vs,hL,hrs,hl,hv,hd=>by simp [qeB] at hl
 | .bx _ _::pm,svs,a,rs,rs1,K1,vs,hL,hrs,hl,hv,hd=>by simp [qeB] at hl
 | .bk _ _::pm,svs,a,rs,rs1,K1,vs,hL,hrs,hl,hv,hd=>by simp [qeB] at hl
 | .rw _ _ _::pm,svs,a,rs,rs1,K1,vs,hL,hrs,hl,hv,hd=>by simp [qeB] at hl
 | .fn _ _::pm,svs,a,rs,rs1,K1,vs,hL,hrs,hl,hv,hd=>by simp [qeB] at hl
theorem qkd: ∀ {l:List Nat},qmR l=true→l.Nodup
 | [],_=>List.nodup_nil
 | a::l,h=>by
   simp only [qmR,Bool.and_eq_true,Bool.not_eq_true'] at h
   refine List.nodup_cons.2 ⟨fun hm=>?_,qkd h.2⟩
   have:l.any (Nat.beq a)=true:=List.any_eq_true.2 ⟨a,hm,Nat.beq_refl a⟩
   rw [this] at h
   cases h.1
end
section
variable {G:Glob} {s:St} {θ:Th} {ρ:Env} {w:World} {K:Ghost}
theorem qir {D:Nat→Prop} {K1 K2:Ghost} {θ1 θ2:Th} {s':St} {n:Nat} (hD:Drop D K1 K2) (hk: ∀r,θ2.key r=θ1.key r) (hr: ∀r e t x org lk,s'.res r=some ⟨.ow e t x,org,lk⟩→t.flatB=true→r<n∧∃e',Own t.kd e' w K2 x (θ2.key r)): ∀ {v z:SVal} {u:Value},retell s' v=some z→v.rel θ1 n K1 u→z.rel θ2 n K2 u:=by
 intro v z u hz hv
 cases v with
 | lit ik a=>cases hz;exact hv
 | int ik a b=>cases hz;exact hv
 | byt c=>cases hz;exact hv
 | bt b=>cases hz;exact hv
 | bv b=>cases hz;exact hv
 | str l=>cases hz;exact hv
 | val t x=>
   simp only [retell] at hz
   cases ht:t.flatB with
   | false=>rw [ht] at hz;cases hz
   | true=>
     rw [ht] at hz
     cases hz
     obtain ⟨cs,h1,h2⟩:=(show t.kd.V K1 x u from hv)
     exact ⟨cs,Ty.flat_ok ht _ _ _ _ h1,h2⟩
 | rw r=>cases hz;exact ⟨hv.1,(hk r).trans hv.2⟩
 | own r t0 x0=>
   simp only [retell] at hz
   split at hz
   ·rename_i e t x org lk hres
    cases ht:t.flatB with
    | false=>rw [ht] at hz;cases hz
    | true=>
      rw [ht] at hz
      cases hz
      obtain ⟨h1,e',h2⟩:=hr r e t x org lk hres ht
      have hkv:θ2.key r=u:=(hk r).trans hv.2.2
      exact ⟨h1,by rw [←hkv];exact h2.V,hkv⟩
   ·cases hz
 | _=>cases hz
theorem qgH {D:Nat→Prop} {K1 K2:Ghost} {θ1 θ2:Th} {s':St} {n:Nat} (hD:Drop D K1 K2) (hk: ∀r,θ2.key r=θ1.key r) (hr: ∀r e t x org lk,s'.res r=some ⟨.ow e t x,org,lk⟩→t.flatB=true→r<n∧∃e',Own t.kd e' w K2 x (θ2.key r)): ∀ {l m:List SVal} {us:List Value},qhH s' l=some m→SVal.relL θ1 n K1 l us→SVal.relL θ2 n K2 m us
 | [],m,us,hz,h=>by cases hz;exact h
 | v::l,m,us,hz,⟨u,r,e,h1,h2⟩=>by
   simp only [qhH] at hz
   split at hz
   ·rename_i a b ha hb
    cases hz
    exact ⟨u,r,e,qir hD hk hr ha h1,qgH hD hk hr hb h2⟩
   ·cases hz
theorem qli {D:Nat→Prop} {K1 K2:Ghost} {θ1 θ2:Th} {s':St} {n:Nat} (hD:Drop D K1 K2) (hk: ∀r,θ2.key r=θ1.key r) (hr: ∀r e t x org lk,s'.res r=some ⟨.ow e t x,org,lk⟩→t.flatB=true→r<n∧∃e',Own t.kd e' w K2 x (θ2.key r)) {v z:SVal} {u:Value} (hz:qju s' v=some z) (h:v.rel θ1 n K1 u):z.rel θ2 n K2 u:=by
 unfold qju at hz
 split at hz
 ·rename_i l
  split at hz
  ·rename_i m hm
   cases hz
   obtain ⟨vs,h1,h2⟩:=h
   exact ⟨vs,h1,qgH hD hk hr hm h2⟩
  ·cases hz
 ·exact qir hD hk hr hz h
theorem qnv {n:Nat} {s':St} (h:qnu n s'=true) {r:Nat} (h1:n≤r) (h2:r<s'.nx) {e:RE} (he:s'.res r=some e):e.r.indB=true∧e.org= .new:=by
 have:=List.all_eq_true.1 h r (List.mem_range.2 h2)
 rw [he] at this
 have hb:Nat.blt r n=false:=by
  cases hb:Nat.blt r n with
  | false=>rfl
  | true=>exact absurd (Nat.le_of_ble_eq_true hb) (by omega)
 rw [hb] at this
 simpa using this
theorem qnq (hG:G.fine) (h:Rel G s θ ρ w K) {P:Program} {f:FuncId} {C:Ctr} (hC:C.valid P f) {svs:List SVal} {vs:List Value} {k:List Nat→St→SVal→Prop} {Φ:Prop} (hc:qry C s svs k=some Φ) (hΦ:Φ) (hvs:SVal.relL θ s.nx K svs vs):
 Calls P f vs.toArray w fun e w'=> ∃v K' θ' s' sv tn,e= .returned v∧k tn s' sv∧Rel G s' θ' ρ w' K'∧sv.rel θ' s'.nx K' v∧s'.env=s.env∧(∀r∈tn,∃e,s.res r=some e)∧Ext (fun g=> ∃r∈tn,θ.fp r g) w K w' K'∧Moved s s' θ θ' w tn:=by
 classical
 unfold qry at hc
 split at hc
 ·rename_i a rs hl
  cases hz:(qmR rs && !rs.isEmpty) with
  | false=>rw [hz] at hc;cases hc
  | true=>
    rw [hz] at hc
    simp only [Bool.and_eq_true] at hz
    simp only [cond_true] at hc
    obtain ⟨K1,hL,hle1,hrs,hrel⟩:=qko h (Lent.nil h) (by simp) hl hvs (by rw [List.nil_append];exact qkd hz.1)
    rw [List.nil_append] at hL
    let G1:Glob:=⟨w,K1,NX,fun _ _=>False,fun _ _ h=>h.elim,K1,θ,s.nx,fun _=>none⟩
    have hG1:G1.fine:=⟨fun r e h=>by cases h⟩
    have hR1:Rel G1 (blank s.nx) θ ρ w K1:=⟨hL.mod,Ext.refl _ _ _,Ghost.le.refl _,Th.upto.refl _ _,Nat.le_refl _,fun r e h=>(by cases h),fun t v h=>(by cases h),fun r e h=>(by cases h),fun r r' e e' h=>(by cases h)⟩
    refine (qh0 hG1 hR1 hC hc hΦ (hrel _ _)).mono ?_
    rintro e w' ⟨v,K',θ1,s1,sv,tn,rfl,hk,hR,hv,henv,htn,hE,hmv⟩
    have htn0: ∀r,r∈tn→False:=fun r hr=>by obtain ⟨e,he⟩:=htn r hr;cases he
    have hE:Ext NX w K1 w' K':=hE.weak fun g _ ⟨r,hr,_⟩=>(htn0 r hr).elim
    cases hni:qnu s.nx s1 with
    | false=>rw [hni] at hk;exact hk.elim
    | true=>
      rw [hni] at hk
      simp only [cond_true] at hk
      split at hk
      ·rename_i z hzz
       let D:Nat→Prop:=fun b=>K b=none∧K1 b≠none
       let K2:Ghost:=fun b=>if D b then none else K' b
       have hD:Drop D K' K2:=⟨fun b hb=>if_pos hb,fun b hb=>if_neg hb⟩
       have hDlt: ∀b,D b→b<w.heap.size:=fun b hb=>by
        cases hk1:K1 b with
        | none=>exact absurd hk1 hb.2
        | some p=>exact hL.mod.lt (t:=p.1) (l:=p.2) hk1
       have hle:K.le K2:=fun b t l hb=>by
        have hne:K b≠none:=by rw [hb];exact fun h=>by cases h
        have hnD: ¬D b:=fun hd=>hne hd.1
        obtain ⟨l',h1,h2⟩:=hE.le b t l (by rw [hL.ex b hne];exact hb)
        exact ⟨l',by rw [hD.keep b hnD];exact h1,h2⟩
       have hM2:Models w' K2:=fun b t l hb=>by
        by_cases hd:D b
        ·rw [hD.gone b hd] at hb;cases hb
        ·rw [hD.keep b hd] at hb;exact hR.mod b t l hb
       have hE2:Ext NX w K w' K2:=⟨hle,hE.heap,fun b hb hx=>by
        by_cases hd:D b
        ·rw [hD.gone b hd,hd.1]
        ·rw [hD.keep b hd,hE.ghost b hb hx]
         by_cases hkb:K b=none
         ·rw [hkb]
          exact Decidable.byContradiction fun hh=>hd ⟨hkb,hh⟩
         ·exact hL.ex b hkb,hE.size,hE.os,hE.tape,hE.output⟩
       have hnx:s.nx≤s1.nx:=hmv.nx
       let θ2:Th:=⟨θ1.key,fun r=>if r<s.nx then θ.fp r else θ1.fp r,θ1.sur⟩
       have f1: ∀ {r},r<s.nx→θ2.fp r=θ.fp r:=fun hr=>if_pos hr
       have f2: ∀ {r},¬r<s.nx→θ2.fp r=θ1.fp r:=fun hr=>if_neg hr
       have hup:θ.upto θ2 s.nx:=fun r hr=>hR.old r hr
       have hnew: ∀r e,s1.res r=some e→s.nx≤r:=fun r e hr=>by
        rcases hmv.from_ r e hr with ⟨_,_,hq⟩ | ⟨hq | hq,_⟩
        ·cases hq
        ·exact (htn0 r hq).elim
        ·exact hq
       have hfresh: ∀r e,s1.res r=some e→∀g,θ1.fp r g→w.heap.size≤g:=fun r e hr g hg=>by
        rcases hmv.from_ r e hr with ⟨_,_,hq⟩ | ⟨_,hq⟩
        ·cases hq
        ·exact (hq g hg).elim (fun ⟨q,hq,_⟩=>(htn0 q hq).elim) (fun h=>h)
       have sat2: ∀r e,s1.res r=some e→e.r.sat θ2 r s1.nx w' K2∧e.org= .new:=fun r e hr=>by
        obtain ⟨i1,i2,i3⟩:=hR.res r e hr
        obtain ⟨j1,j2⟩:=qnv hni (hnew r e hr) i1 hr
        have hs:e.r.sat θ1 r s1.nx w' K2:=i2.drop hD j1 (fun g hg hd=>absurd (hDlt g hd) (Nat.not_lt.2 (hfresh r e hr g hg)))
        exact ⟨Res.sat.ext (θ:=θ1) (θ':=θ2) (n:=s1.nx) (fun q _=>⟨rfl,rfl⟩) i1 (f2 (Nat.not_lt.2 (hnew r e hr))) (Nat.le_refl _) (Ext.refl NX w' K2) (fun _ _ h=>h) hs,j2⟩
       have hres2: ∀r e,(qkt s s1).res r=some e→(r<s.nx∧s.res r=some e)∨(s.nx≤r∧s1.res r=some e):=fun r e hr=>by
        have hr':(bif Nat.blt r s.nx then s.res r else s1.res r)=some e:=hr
        cases hb:Nat.blt r s.nx with
        | true=>rw [hb] at hr';exact .inl ⟨Nat.le_of_ble_eq_true hb,hr'⟩
        | false=>rw [hb] at hr';exact .inr ⟨hnew r e hr',hr'⟩
       have hrel2:Rel G (qkt s s1) θ2 ρ w' K2:=by
        refine h.step hG (T:=fun _=>False) (fun _ h=>h.elim) (hE2.weak fun _ _ h=>h.elim) hM2 hnx hup rfl ?_ ?_ ?_ ?_
        ·intro r e hr hlt _
         rcases hres2 r e hr with ⟨_,hr⟩ | ⟨hr,_⟩
         ·exact ⟨hr,f1 hlt⟩
         ·exact absurd hlt (Nat.not_lt.2 hr)
        ·intro r e hr _
         have hlt:=(h.res r e hr).1
         show (bif Nat.blt r s.nx then s.res r else s1.res r)=some e
         have hb:Nat.blt r s.nx=true:=Nat.ble_eq_true_of_le hlt
         rw [hb];exact hr
        ·intro r e hr hc'
         have hge:s.nx≤r:=hc'.elim (fun h=>h.elim) (fun h=>h)
         rcases hres2 r e hr with ⟨hlt,_⟩ | ⟨_,hr⟩
         ·exact absurd hlt (Nat.not_lt.2 hge)
         ·obtain ⟨hs,ho⟩:=sat2 r e hr
          refine ⟨(hR.res r e hr).1,hs,?_,fun g hg=> .inr ?_⟩
          ·rw [ho,f2 (Nat.not_lt.2 hge)]
           exact fun g hg=>Nat.le_trans h.ext.size (hfresh r e hr g hg)
          ·rw [f2 (Nat.not_lt.2 hge)] at hg
           exact hfresh r e hr g hg
        ·intro r r' e e' hr hr' hc1 hc2 hne g hg hg'
         have hge:s.nx≤r:=hc1.elim (fun h=>h.elim) (fun h=>h)
         have hge':s.nx≤r':=hc2.elim (fun h=>h.elim) (fun h=>h)
         rcases hres2 r e hr with ⟨hlt,_⟩ | ⟨_,hr⟩
         ·exact absurd hlt (Nat.not_lt.2 hge)
         ·rcases hres2 r' e' hr' with ⟨hlt,_⟩ | ⟨_,hr'⟩
          ·exact absurd hlt (Nat.not_lt.2 hge')
          ·rw [f2 (Nat.not_lt.2 hge)] at hg
           rw [f2 (Nat.not_lt.2 hge')] at hg'
           exact hR.sep r r' e e' hr hr' hne g hg hg'
       refine ⟨v,K2,θ2,qkt s s1,z,[],rfl,hk,hrel2,?_,rfl,by simp,hE2.weak fun _ _ h=>h.elim,hnx,fun r e hr=>?_⟩
       ·refine qli (w:=w') (θ1:=θ1) (θ2:=θ2) (s':=s1) (n:=s1.nx) hD (fun r=>rfl) (fun r e t x org lk hr ht=>?_) hzz hv
        exact ⟨(hR.res r _ hr).1,e,(sat2 r _ hr).1.1⟩
       ·rcases hres2 r e hr with ⟨hlt,hr⟩ | ⟨hge,hr⟩
        ·exact .inl ⟨f1 hlt,e,hr⟩
        ·refine .inr ⟨.inr hge,?_⟩
         rw [f2 (Nat.not_lt.2 hge)]
         exact fun g hg=> .inr (hfresh r e hr g hg)
      ·exact hk.elim
 ·cases hc
end
end Go.Inc
