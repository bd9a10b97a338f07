/- E18, E19, E20, T1, P5, P6, P8, P9, P10, G1, K1, E21, E22, B23, E23, E24, E25, E26, E27, E28, P11, P12, P13, P15, P16, P17, E29, E30, P14, S1, S2, S3, K2, B24. -/
import Derived.Test.YtmjjkpiglbpkhaaM3
import Derived.Test.YtmjjkpiglbpkhaaChecked
import Derived.Test.YtmjjkpiglbpkhaaM1
import Derived.RangeFuncRecord
import Derived.RangeFuncSeq
import Derived.Lib.Bytealg
import Derived.Laws.Externs
set_option linter.unusedVariables false
namespace Go.Inc
open Go Go.RowKit
mutual
def PM.still:PM→Option Nat
 | .v _=>some 0
 | .nil=>some 0
 | .snil=>some 0
 | .bx _ u=>bif u then none else some 1
 | .bk _ u=>bif u then none else some 1
 | .rw _ _ u=>bif u then none else some 1
 | .fn _ cs=>PM.stillL cs
def PM.stillL:List PM→Option Nat
 | []=>some 0
 | m::l=>match PM.still m,PM.stillL l with
   | some a,some b=>some (a+b)
   | _,_=>none
end
def PM.wfP:(l:List PM)→PM.denL l→Prop→Prop
 | [],_,p=>p
 | .v .bool::l,a,p=>PM.wfP l a.2 p
 | .v t::l,a,p=>t.kd.wf a.1→PM.wfP l a.2 p
 | .bx t _::l,a,p=>t.kd.wf a.1→PM.wfP l a.2 p
 | .nil::l,a,p=>PM.wfP l a.2 p
 | .snil::l,a,p=>PM.wfP l a.2 p
 | .bk _ _::l,a,p=>PM.wfP l a.2 p
 | .rw _ t _::l,a,p=>(Kd.sl t.kd).wf a.1→PM.wfP l a.2 p
 | .fn _ _::l,a,p=>PM.wfP l a.2 p
def entF (pm:List PM) (a:PM.denL pm):St:=
 { env:=fun t=>(PM.svL pm a 0)[t]?,
   res:=fun r=>match (PM.resL pm a)[r]? with
    | some (R,u)=>some ⟨R,bif u then .par r else .ro, !u⟩
    | none=>none,
   nx:=(PM.resL pm a).length }
def qcT (s:St):(l:List RM)→List SVal→Option (RM.denL l×List Nat)
 | [],vs=>match vs with
   | []=>some ((),[])
   | _=>none
 | .v t::l,vs=>match vs with
   | v::vs=>(match v.to t,qcT s l vs with
     | some x,some (y,ids)=>some ((x,y),ids)
     | _,_=>none)
   | []=>none
 | .ow e t::l,vs=>match vs with
   | .own r _ _::vs=>(match s.res r,qcT s l vs with
     | some ⟨.ow e' t' x,.new,_⟩,some (y,ids)=>if h:t'=t then (bif Nat.beq e' e then some ((qbI h x,y),r::ids) else none) else none
     | _,_=>none)
   | _=>none
 | .bx t::l,vs=>match vs with
   | .box r T k p::vs=>(match s.res r,qcT s l vs with
     | some ⟨.bx T' x [],.new,_⟩,some (y,ids)=>if h:T'=t then (bif Nat.beq p.off 0 then some ((Ty.cast h x,y),r::ids) else none) else none
     | _,_=>none)
   | _=>none
 | .rw e t::l,vs=>match vs with
   | .rw r::vs=>(match s.res r,qcT s l vs with
     | some ⟨.rw e' t' x,.new,_⟩,some (y,ids)=>if h:t'=t then (bif Nat.beq e' e then some ((qbI h x,y),r::ids) else none) else none
     | _,_=>none)
   | _=>none
def qbQ (s:St):(l:List PM)→Nat→Option (PM.MD l)
 | [],n=>some ()
 | .v _::l,n=>qbQ s l n
 | .nil::l,n=>qbQ s l n
 | .snil::l,n=>qbQ s l n
 | .bx t true::l,n=>match s.res n,qbQ s l (n+1) with
   | some ⟨.bx t' y [],org,_⟩,some m=>if h:t'=t then (bif decide (org= .par n) then some (Ty.cast h y,m) else none) else none
   | _,_=>none
 | .bk e true::l,n=>match s.res n,qbQ s l (n+1) with
   | some ⟨.bk e' x,org,_⟩,some m=>bif Nat.beq e' e && decide (org= .par n) then some (x,m) else none
   | _,_=>none
 | .bx t false::l,n=>qbQ s l (n+1)
 | .bk e false::l,n=>qbQ s l (n+1)
 | .rw e t true::l,n=>match s.res n,qbQ s l (n+1) with
   | some ⟨.rw e' t' x,org,_⟩,some m=>if h:t'=t then (bif Nat.beq e' e && decide (org= .par n) then some (qbI h x,m) else none) else none
   | _,_=>none
 | .rw e t false::l,n=>qbQ s l (n+1)
 | .fn f cs::l,n=>match PM.stillL cs with
   | some c=>qbQ s l (n+c)
   | none=>none
def finF (X:Fx) (C:Ctr) (rs:Array ResultVar) (s:St) (Q:RM.denL C.rm→PM.MD C.pm→Prop):Prop:=
 match (matS X.c (qgN rs.toList) s).outs X.c rs.toList with
 | some vs=>(match qcT (matS X.c (qgN rs.toList) s) C.rm vs,qbQ (matS X.c (qgN rs.toList) s) C.pm 0 with
   | some (o,ids),some m=>bif qa6 ids then Q o m else False
   | _,_=>False)
 | none=>False
def fvc (X:Fx) (fuel f:Nat) (C:Ctr) (a:PM.denL C.pm) (Q:RM.denL C.rm→PM.MD C.pm→Prop):Prop:=
 match X.c.P.funcs[f]? with
 | some fn=>(match fn.body with
   | some code=>bif Nat.ble (PM.svL C.pm a 0).length fn.ntmps then exec X (qrv X) fuel fn.ntmps code (entF C.pm a) (fun e s=>match e with
      | .normal=>finF X C fn.results s Q
      | .ret=>finF X C fn.results s Q
      | _=>False) else False
   | none=>False)
 | none=>False
theorem PM.wfP_ok {θ:Th} {N:Nat} {w:World} {K:Ghost} {p:Prop}: ∀ {l:List PM} {a:PM.denL l} {n:Nat} {vs:List Value},SVal.relL θ N K (PM.svL l a n) vs→(∀(j:Nat) (R:Res) (u:Bool),(PM.resL l a)[j]?=some (R,u)→R.sat θ (n+j) N w K)→PM.wfP l a p→p
 | [],a,n,vs,hr,hs,h=>h
 | m::l,a,n,vs,⟨u,r,e,h1,h2⟩,hs,h=>by
   have rest:PM.wfP l a.2 p→p:=fun h=>PM.wfP_ok h2 (fun j R u hj=>by
    have:=hs ((PM.res m a.1).length+j) R u (by
     show (PM.res m a.1++PM.resL l a.2)[_]?=_
     rw [List.getElem?_append_right (by omega),Nat.add_sub_cancel_left]
     exact hj)
    rw [Nat.add_assoc]
    exact this) h
   cases m with
   | v t=>
     have hw:=(qd9 h1).wf
     cases t with
     | bool=>exact rest h
     | _=>exact rest (h hw)
   | bx t b=>
     obtain ⟨_,_,_,hB,_⟩:=hs 0 (.bx t a.1 []) b rfl
     exact rest (h hB.wf)
   | nil=>exact rest h
   | snil=>exact rest h
   | bk e b=>exact rest h
   | rw e t b=>
     have hR:(Res.rw e t a.1).sat θ n N w K:=hs 0 (.rw e t a.1) b rfl
     exact rest (h (RwX.wf hR))
   | fn f cs=>exact rest h
mutual
theorem PM.still_ok: ∀ {m:PM} {a:PM.den m} {n:Nat},PM.still m=some n→(PM.res m a).length=n∧∀(j:Nat) (R:Res) (u:Bool),(PM.res m a)[j]?=some (R,u)→u=false
 | .v _,a,n,h=>by
   simp only [PM.still,Option.some.injEq] at h
   exact ⟨h,fun j R u hj=>by simp [PM.res] at hj⟩
 | .nil,a,n,h=>by
   simp only [PM.still,Option.some.injEq] at h
   exact ⟨h,fun j R u hj=>by simp [PM.res] at hj⟩
 | .snil,a,n,h=>by
   simp only [PM.still,Option.some.injEq] at h
   exact ⟨h,fun j R u hj=>by simp [PM.res] at hj⟩
 | .bx _ b,a,n,h=>by
   cases b with
   | true=>cases h
   | false=>
     cases h
     refine ⟨rfl,fun j R u hj=>?_⟩
     cases j with
     | zero=>simp [PM.res] at hj;exact hj.2
     | succ j=>simp [PM.res] at hj
 | .bk _ b,a,n,h=>by
   cases b with
   | true=>cases h
   | false=>
     cases h
     refine ⟨rfl,fun j R u hj=>?_⟩
     cases j with
     | zero=>simp [PM.res] at hj;exact hj.2
     | succ j=>simp [PM.res] at hj
 | .rw _ _ b,a,n,h=>by
   cases b with
   | true=>cases h
   | false=>
     cases h
     refine ⟨rfl,fun j R u hj=>?_⟩
     cases j with
     | zero=>simp [PM.res] at hj;exact hj.2
     | succ j=>simp [PM.res] at hj
 | .fn f cs,a,n,h=>PM.stillL_ok (l:=cs) h
theorem PM.stillL_ok: ∀ {l:List PM} {a:PM.denL l} {n:Nat},PM.stillL l=some n→(PM.resL l a).length=n∧∀(j:Nat) (R:Res) (u:Bool),(PM.resL l a)[j]?=some (R,u)→u=false
 | [],a,n,h=>by
   simp only [PM.stillL,Option.some.injEq] at h
   exact ⟨h,fun j R u hj=>by simp [PM.resL] at hj⟩
 | m::l,a,n,h=>by
   simp only [PM.stillL] at h
   split at h
   ·rename_i x y h1 h2
    cases h
    obtain ⟨a1,a2⟩:=PM.still_ok (a:=a.1) h1
    obtain ⟨b1,b2⟩:=PM.stillL_ok (a:=a.2) h2
    refine ⟨?_,fun j R u hj=>?_⟩
    ·show (PM.res m a.1++PM.resL l a.2).length=_
     rw [List.length_append,a1,b1]
    ·have hj':(PM.res m a.1++PM.resL l a.2)[j]?=some (R,u):=hj
     rcases Nat.lt_or_ge j (PM.res m a.1).length with hlt | hge
     ·rw [List.getElem?_append_left hlt] at hj'
      exact a2 j R u hj'
     ·rw [List.getElem?_append_right hge] at hj'
      exact b2 _ R u hj'
   ·cases h
end
theorem qbg {s:St}: ∀ {l:List PM} {a:PM.denL l} {n:Nat} {m:PM.MD l},qbQ s l n=some m→(∀(j:Nat) (R:Res),(PM.resL l a)[j]?=some (R,false)→∃e,s.res (n+j)=some e∧e.r=R∧e.org= .ro)→
 ∀(j:Nat) (R:Res),(PM.aft l a m)[j]?=some R→∃e,s.res (n+j)=some e∧e.r=R∧((e.org= .par (n+j)∧∃R0,(PM.resL l a)[j]?=some (R0,true))∨(e.org= .ro∧∃R0,(PM.resL l a)[j]?=some (R0,false)))
 | [],a,n,m,h,hro,j,R,hj=>by simp [PM.aft] at hj
 | .v _::l,a,n,m,h,hro,j,R,hj=>qbg (l:=l) (a:=a.2) h hro j R hj
 | .nil::l,a,n,m,h,hro,j,R,hj=>qbg (l:=l) (a:=a.2) h hro j R hj
 | .snil::l,a,n,m,h,hro,j,R,hj=>qbg (l:=l) (a:=a.2) h hro j R hj
 | .bx t true::l,a,n,m,h,hro,j,R,hj=>by
   simp only [qbQ] at h
   split at h
   ·rename_i t' y org lk m2 hs h2
    split at h
    ·rename_i ht
     subst ht
     cases hd:decide (org=Org.par n) with
     | false=>rw [hd] at h;cases h
     | true=>
       rw [hd] at h
       simp only [cond_true,Option.some.injEq] at h
       subst h
       have ho:org= .par n:=by simpa using hd
       cases j with
       | zero=>
         simp [PM.aft] at hj
         subst hj
         exact ⟨_,hs,rfl,.inl ⟨ho,_,rfl⟩⟩
       | succ j=>
         obtain ⟨e,e1,e2,e3⟩:=qbg (l:=l) (a:=a.2) h2 (fun j R hj=>by
          have:=hro (j+1) R hj
          rwa [show n+(j+1)=n+1+j from by omega] at this) j R hj
         refine ⟨e,by rw [show n+(j+1)=n+1+j from by omega];exact e1,e2,?_⟩
         rw [show n+(j+1)=n+1+j from by omega]
         exact e3
    ·cases h
   ·cases h
 | .bk e true::l,a,n,m,h,hro,j,R,hj=>by
   simp only [qbQ] at h
   split at h
   ·rename_i e' x org lk m2 hs h2
    cases hd:(Nat.beq e' e && decide (org=Org.par n)) with
    | false=>rw [hd] at h;cases h
    | true=>
      rw [hd] at h
      simp only [cond_true,Option.some.injEq] at h
      subst h
      simp only [Bool.and_eq_true,decide_eq_true_eq] at hd
      obtain rfl:=Nat.eq_of_beq_eq_true hd.1
      cases j with
      | zero=>
        simp [PM.aft] at hj
        subst hj
        exact ⟨_,hs,rfl,.inl ⟨hd.2,_,rfl⟩⟩
      | succ j=>
        obtain ⟨e,e1,e2,e3⟩:=qbg (l:=l) (a:=a.2) h2 (fun j R hj=>by
         have:=hro (j+1) R hj
         rwa [show n+(j+1)=n+1+j from by omega] at this) j R hj
        refine ⟨e,by rw [show n+(j+1)=n+1+j from by omega];exact e1,e2,?_⟩
        rw [show n+(j+1)=n+1+j from by omega]
        exact e3
   ·cases h
 | .rw e t true::l,a,n,m,h,hro,j,R,hj=>by
   simp only [qbQ] at h
   split at h
   ·rename_i e' t' x org lk m2 hs h2
    split at h
    ·rename_i ht
     subst ht
     cases hd:(Nat.beq e' e && decide (org=Org.par n)) with
     | false=>rw [hd] at h;cases h
     | true=>
       rw [hd] at h
       simp only [cond_true,Option.some.injEq] at h
       subst h
       simp only [Bool.and_eq_true,decide_eq_true_eq] at hd
       obtain rfl:=Nat.eq_of_beq_eq_true hd.1
       cases j with
       | zero=>
         simp [PM.aft] at hj
         subst hj
         exact ⟨_,hs,rfl,.inl ⟨hd.2,_,rfl⟩⟩
       | succ j=>
         obtain ⟨e,e1,e2,e3⟩:=qbg (l:=l) (a:=a.2) h2 (fun j R hj=>by
          have:=hro (j+1) R hj
          rwa [show n+(j+1)=n+1+j from by omega] at this) j R hj
         refine ⟨e,by rw [show n+(j+1)=n+1+j from by omega];exact e1,e2,?_⟩
         rw [show n+(j+1)=n+1+j from by omega]
         exact e3
    ·cases h
   ·cases h
 | .bx t false::l,a,n,m,h,hro,j,R,hj=>by
   cases j with
   | zero=>
     simp [PM.aft] at hj
     subst hj
     obtain ⟨e,e1,e2,e3⟩:=hro 0 (.bx t a.1 []) rfl
     exact ⟨e,e1,e2,.inr ⟨e3,_,rfl⟩⟩
   | succ j=>
     obtain ⟨e,e1,e2,e3⟩:=qbg (l:=l) (a:=a.2) (n:=n+1) h (fun j R hj=>by
      have:=hro (j+1) R hj
      rwa [show n+(j+1)=n+1+j from by omega] at this) j R hj
     refine ⟨e,by rw [show n+(j+1)=n+1+j from by omega];exact e1,e2,?_⟩
     rw [show n+(j+1)=n+1+j from by omega]
     exact e3
 | .bk t false::l,a,n,m,h,hro,j,R,hj=>by
   cases j with
   | zero=>
     simp [PM.aft] at hj
     subst hj
     obtain ⟨e,e1,e2,e3⟩:=hro 0 (.bk t a.1) rfl
     exact ⟨e,e1,e2,.inr ⟨e3,_,rfl⟩⟩
   | succ j=>
     obtain ⟨e,e1,e2,e3⟩:=qbg (l:=l) (a:=a.2) (n:=n+1) h (fun j R hj=>by
      have:=hro (j+1) R hj
      rwa [show n+(j+1)=n+1+j from by omega] at this) j R hj
     refine ⟨e,by rw [show n+(j+1)=n+1+j from by omega];exact e1,e2,?_⟩
     rw [show n+(j+1)=n+1+j from by omega]
     exact e3
 | .rw te t false::l,a,n,m,h,hro,j,R,hj=>by
   cases j with
   | zero=>
     simp [PM.aft] at hj
     subst hj
     obtain ⟨e,e1,e2,e3⟩:=hro 0 (.rw te t a.1) rfl
     exact ⟨e,e1,e2,.inr ⟨e3,_,rfl⟩⟩
   | succ j=>
     obtain ⟨e,e1,e2,e3⟩:=qbg (l:=l) (a:=a.2) (n:=n+1) h (fun j R hj=>by
      have:=hro (j+1) R hj
      rwa [show n+(j+1)=n+1+j from by omega] at this) j R hj
     refine ⟨e,by rw [show n+(j+1)=n+1+j from by omega];exact e1,e2,?_⟩
     rw [show n+(j+1)=n+1+j from by omega]
     exact e3
 | .fn f cs::l,a,n,m,h,hro,j,R,hj=>by
   simp only [qbQ] at h
   split at h
   ·rename_i c hc
    obtain ⟨c1,c2⟩:=PM.stillL_ok (a:=a.1) hc
    have hj':((PM.res (.fn f cs) a.1).map (·.1)++PM.aft l a.2 m)[j]?=some R:=hj
    have hlen:(PM.res (.fn f cs) a.1).length=c:=c1
    rcases Nat.lt_or_ge j c with hlt | hge
    ·rw [List.getElem?_append_left (by rw [List.length_map];omega),List.getElem?_map] at hj'
     cases hx:(PM.res (.fn f cs) a.1)[j]? with
     | none=>rw [hx] at hj';cases hj'
     | some z=>
       obtain ⟨R1,u⟩:=z
       rw [hx] at hj'
       cases hj'
       have hu:=c2 j R1 u hx
       subst hu
       have hx':(PM.resL (.fn f cs::l) a)[j]?=some (R1,false):=by
        show (PM.res (.fn f cs) a.1++PM.resL l a.2)[j]?=_
        rw [List.getElem?_append_left (by omega)]
        exact hx
       obtain ⟨e,e1,e2,e3⟩:=hro j R1 hx'
       exact ⟨e,e1,e2,.inr ⟨e3,_,hx'⟩⟩
    ·rw [List.getElem?_append_right (by rw [List.length_map];omega),List.length_map,hlen] at hj'
     obtain ⟨e,e1,e2,e3⟩:=qbg (l:=l) (a:=a.2) h (fun j R hj=>by
      have:=hro (c+j) R (by
       show (PM.res (.fn f cs) a.1++PM.resL l a.2)[c+j]?=_
       rw [List.getElem?_append_right (by omega),hlen,Nat.add_sub_cancel_left]
       exact hj)
      rwa [←Nat.add_assoc] at this) (j - c) R hj'
     rw [show n+c+(j - c)=n+j from by omega] at e1 e3
     have up: ∀z,(PM.resL l a.2)[j - c]?=some z→(PM.resL (.fn f cs::l) a)[j]?=some z:=fun z hz=>by
      show (PM.res (.fn f cs) a.1++PM.resL l a.2)[j]?=_
      rw [List.getElem?_append_right (by omega),hlen]
      exact hz
     exact ⟨e,e1,e2,e3.imp (fun ⟨h1,R0,h2⟩=>⟨h1,R0,up _ h2⟩) (fun ⟨h1,R0,h2⟩=>⟨h1,R0,up _ h2⟩)⟩
   ·cases h
theorem qcw {s:St} {θ θ':Th} {N:Nat} {w:World} {K:Ghost} (hsat: ∀r e,s.res r=some e→e.r.sat θ r s.nx w K): ∀ {l:List RM} {svs:List SVal} {o:RM.denL l} {ids:List Nat} {n:Nat} {vs:List Value},qcT s l svs=some (o,ids)→SVal.relL θ s.nx K svs vs→(∀i r,ids[i]?=some r→θ'.key (n+i)=θ.key r)→n+ids.length≤N→
 SVal.relL θ' N K (RM.svL l o n) vs∧(RM.resL l o).length=ids.length∧∀(i:Nat) (R:Res),(RM.resL l o)[i]?=some R→∃r e,ids[i]?=some r∧s.res r=some e∧e.r=R∧e.org= .new
 | [],svs,o,ids,n,vs,h,hr,hk,hN=>by
   simp only [qcT] at h
   split at h
   ·cases h
    exact ⟨hr,rfl,fun i R hi=>by simp [RM.resL] at hi⟩
   ·cases h
 | .v t::l,svs,o,ids,n,vs,h,hr,hk,hN=>by
   simp only [qcT] at h
   split at h
   ·rename_i v svs'
    split at h
    ·rename_i x y ids' hx hy
     cases h
     obtain ⟨u,r,e,h1,h2⟩:=hr
     obtain ⟨a1,a2,a3⟩:=qcw hsat (n:=n) hy h2 hk hN
     exact ⟨⟨u,r,e,SVal.of_rel (SVal.to_rel hx h1),a1⟩,a2,a3⟩
    ·cases h
   ·cases h
 | .ow eo t::l,svs,o,ids,n,vs,h,hr,hk,hN=>by
   simp only [qcT] at h
   split at h
   ·rename_i r0 t0 x0 svs'
    split at h
    ·rename_i e' t' x lk y ids' hs hy
     split at h
     ·rename_i ht
      subst ht
      cases hb:Nat.beq e' eo with
      | false=>rw [hb] at h;cases h
      | true=>
        rw [hb] at h
        obtain rfl:=Nat.eq_of_beq_eq_true hb
        simp only [cond_true,Option.some.injEq,Prod.mk.injEq] at h
        obtain ⟨rfl,rfl⟩:=h
        obtain ⟨u,r,e,h1,h2⟩:=hr
        simp only [List.length_cons] at hN
        obtain ⟨a1,a2,a3⟩:=qcw hsat (n:=n+1) (N:=N) (θ':=θ') hy h2 (fun i r hi=>by
         have:=hk (i+1) r (by simpa using hi)
         rwa [show n+(i+1)=n+1+i from by omega] at this) (by omega)
        have hk0:=hk 0 r0 rfl
        refine ⟨⟨u,r,e,⟨by omega,?_,hk0.trans h1.2.2⟩,a1⟩,by show (RM.res (.ow e' t') x++RM.resL l y).length=_;rw [List.length_append,a2];simp [RM.res];omega,?_⟩
        ·have hO:Own _ _ _ _ _ (θ.key r0):=(hsat _ _ hs).1
         rw [h1.2.2] at hO
         exact hO.V
        ·intro i R hi
         cases i with
         | zero=>
           have hi':some (Res.ow e' t' x)=some R:=hi
           cases hi'
           exact ⟨r0,_,rfl,hs,rfl,rfl⟩
         | succ i=>
           obtain ⟨r1,e1,b1,b2⟩:=a3 i R (by simpa [RM.resL,RM.res] using hi)
           exact ⟨r1,e1,by simpa using b1,b2⟩
     ·cases h
    ·cases h
   ·cases h
 | .bx t::l,svs,o,ids,n,vs,h,hr,hk,hN=>by
   simp only [qcT] at h
   split at h
   ·rename_i r0 T0 k0 p svs'
    split at h
    ·rename_i T' x lk y ids' hs hy
     split at h
     ·rename_i ht
      subst ht
      cases hb:Nat.beq p.off 0 with
      | false=>rw [hb] at h;cases h
      | true=>
        rw [hb] at h
        have hoff:=Nat.eq_of_beq_eq_true hb
        simp only [cond_true,Option.some.injEq,Prod.mk.injEq] at h
        obtain ⟨rfl,rfl⟩:=h
        obtain ⟨u,r,e,h1,h2⟩:=hr
        simp only [List.length_cons] at hN
        obtain ⟨a1,a2,a3⟩:=qcw hsat (n:=n+1) (N:=N) (θ':=θ') hy h2 (fun i r hi=>by
         have:=hk (i+1) r (by simpa using hi)
         rwa [show n+(i+1)=n+1+i from by omega] at this) (by omega)
        have hk0:=hk 0 r0 rfl
        obtain ⟨_,_,b,o',hkey,hv⟩:=h1
        refine ⟨⟨u,r,e,⟨by omega,trivial,b,o',hk0.trans hkey,by rw [hv,hoff];rfl⟩,a1⟩,by show (RM.res (.bx T') x++RM.resL l y).length=_;rw [List.length_append,a2];simp [RM.res];omega,?_⟩
        intro i R hi
        cases i with
        | zero=>
          have hi':some (Res.bx T' x [])=some R:=hi
          cases hi'
          exact ⟨r0,_,rfl,hs,rfl,rfl⟩
        | succ i=>
          obtain ⟨r1,e1,b1,b2⟩:=a3 i R (by simpa [RM.resL,RM.res] using hi)
          exact ⟨r1,e1,by simpa using b1,b2⟩
     ·cases h
    ·cases h
   ·cases h
 | .rw eo t::l,svs,o,ids,n,vs,h,hr,hk,hN=>by
   simp only [qcT] at h
   split at h
   ·rename_i r0 svs'
    split at h
    ·rename_i e' t' x lk y ids' hs hy
     split at h
     ·rename_i ht
      subst ht
      cases hb:Nat.beq e' eo with
      | false=>rw [hb] at h;cases h
      | true=>
        rw [hb] at h
        obtain rfl:=Nat.eq_of_beq_eq_true hb
        simp only [cond_true,Option.some.injEq,Prod.mk.injEq] at h
        obtain ⟨rfl,rfl⟩:=h
        obtain ⟨u,r,e,h1,h2⟩:=hr
        simp only [List.length_cons] at hN
        obtain ⟨a1,a2,a3⟩:=qcw hsat (n:=n+1) (N:=N) (θ':=θ') hy h2 (fun i r hi=>by
         have:=hk (i+1) r (by simpa using hi)
         rwa [show n+(i+1)=n+1+i from by omega] at this) (by omega)
        have hk0:=hk 0 r0 rfl
        refine ⟨⟨u,r,e,⟨by omega,hk0.trans h1.2⟩,a1⟩,by show (RM.res (.rw e' t') x++RM.resL l y).length=_;rw [List.length_append,a2];simp [RM.res];omega,?_⟩
        intro i R hi
        cases i with
        | zero=>
          have hi':some (Res.rw e' t' x)=some R:=hi
          cases hi'
          exact ⟨r0,_,rfl,hs,rfl,rfl⟩
        | succ i=>
          obtain ⟨r1,e1,b1,b2⟩:=a3 i R (by simpa [RM.resL,RM.res] using hi)
          exact ⟨r1,e1,by simpa using b1,b2⟩
     ·cases h
    ·cases h
   ·cases h
mutual
theorem PM.res_plain: ∀ {m:PM} {a:PM.den m},∀p∈PM.res m a,p.1.plain
 | .v _,a,p,h=>by simp [PM.res] at h
 | .nil,a,p,h=>by simp [PM.res] at h
 | .snil,a,p,h=>by simp [PM.res] at h
 | .bx _ _,a,p,h=>by simp [PM.res] at h;subst h;exact rfl
 | .bk _ _,a,p,h=>by simp [PM.res] at h;subst h;trivial
 | .rw _ _ _,a,p,h=>by simp [PM.res] at h;subst h;trivial
 | .fn _ cs,a,p,h=>PM.resL_plain (l:=cs) p h
theorem PM.resL_plain: ∀ {l:List PM} {a:PM.denL l},∀p∈PM.resL l a,p.1.plain
 | [],a,p,h=>by simp [PM.resL] at h
 | m::l,a,p,h=>by
   rcases List.mem_append.1 (show p∈PM.res m a.1++PM.resL l a.2 from h) with h | h
   ·exact PM.res_plain p h
   ·exact PM.resL_plain p h
end
theorem PM.aft_plain: ∀ {l:List PM} {a:PM.denL l} {m:PM.MD l},∀R∈PM.aft l a m,R.plain
 | [],a,m,R,h=>by simp [PM.aft] at h
 | .v _::l,a,m,R,h=>PM.aft_plain (l:=l) (a:=a.2) R h
 | .nil::l,a,m,R,h=>PM.aft_plain (l:=l) (a:=a.2) R h
 | .snil::l,a,m,R,h=>PM.aft_plain (l:=l) (a:=a.2) R h
 | .bx t true::l,a,m,R,h=>by
   rcases List.mem_cons.1 (show R∈Res.bx t m.1 []::PM.aft l a.2 m.2 from h) with rfl | h
   ·exact rfl
   ·exact PM.aft_plain R h
 | .bk e true::l,a,m,R,h=>by
   rcases List.mem_cons.1 (show R∈Res.bk e m.1::PM.aft l a.2 m.2 from h) with rfl | h
   ·trivial
   ·exact PM.aft_plain R h
 | .rw e t true::l,a,m,R,h=>by
   rcases List.mem_cons.1 (show R∈Res.rw e t m.1::PM.aft l a.2 m.2 from h) with rfl | h
   ·trivial
   ·exact PM.aft_plain R h
 | .bx t false::l,a,m,R,h=>by
   rcases List.mem_cons.1 (show R∈Res.bx t a.1 []::PM.aft l a.2 m from h) with rfl | h
   ·exact rfl
   ·exact PM.aft_plain R h
 | .bk e false::l,a,m,R,h=>by
   rcases List.mem_cons.1 (show R∈Res.bk e a.1::PM.aft l a.2 m from h) with rfl | h
   ·trivial
   ·exact PM.aft_plain R h
 | .rw e t false::l,a,m,R,h=>by
   rcases List.mem_cons.1 (show R∈Res.rw e t a.1::PM.aft l a.2 m from h) with rfl | h
   ·trivial
   ·exact PM.aft_plain R h
 | .fn f cs::l,a,m,R,h=>by
   rcases List.mem_append.1 (show R∈(PM.res (.fn f cs) a.1).map (·.1)++PM.aft l a.2 m from h) with h | h
   ·obtain ⟨p,hp,rfl⟩:=List.mem_map.1 h
    exact PM.res_plain p hp
   ·exact PM.aft_plain R h
def qbb (n:Nat) (ids:List Nat) (r:Nat):Nat:=if r<n then r else ids.getD (r - n) 0
section
variable {X:Fx} {f:Nat} {C:Ctr}
theorem qeP: ∀ {l:List Nat},qa6 l=true→∀ {i j r:Nat},l[i]?=some r→l[j]?=some r→i=j
 | [],_,i,j,r,hi,_=>by simp at hi
 | a::l,h,i,j,r,hi,hj=>by
   simp only [qa6,Bool.and_eq_true,Bool.not_eq_true'] at h
   have hn:a∉l:=fun hm=>by rw [qdr.2 hm] at h;exact absurd h.1 (by simp)
   cases i with
   | zero=>
     cases j with
     | zero=>rfl
     | succ j=>
       simp at hi
       subst hi
       exact absurd (List.mem_of_getElem? (by simpa using hj)) hn
   | succ i=>
     cases j with
     | zero=>
       simp at hj
       subst hj
       exact absurd (List.mem_of_getElem? (by simpa using hi)) hn
     | succ j=>
       have h1:l[i]?=some r:=by simpa using hi
       have h2:l[j]?=some r:=by simpa using hj
       rw [qeP h.2 h1 h2]
def qia (pm:List PM) (a:PM.denL pm) (θ:Th) (w:World) (K:Ghost):Glob:=
 { w0:=w,K0:=K,X:=qkK (PM.resL pm a) θ,F0:=fun j g=>(∃R,(PM.resL pm a)[j]?=some (R,true))∧θ.fp j g,
   hX:=fun j g ⟨⟨R,h1⟩,h2⟩=>⟨j,R,h1,h2⟩,Kb:=K,θb:=θ,nb:=(PM.resL pm a).length,
   frz:=fun r=>match (PM.resL pm a)[r]? with
    | some (R,false)=>some ⟨R,.ro,true⟩
    | _=>none }
theorem qib {pm:List PM} {a:PM.denL pm} {θ:Th} {w:World} {K:Ghost}: ∀r e,(qia pm a θ w K).frz r=some e→∃R,(PM.resL pm a)[r]?=some (R,false)∧e=⟨R,.ro,true⟩:=fun r e he=>by
 have he':(match (PM.resL pm a)[r]? with
  | some (R,false)=>some (⟨R,.ro,true⟩:RE)
  | _=>none)=some e:=he
 split at he'
 ·rename_i R hR
  cases he'
  exact ⟨R,hR,rfl⟩
 ·cases he'
theorem qgx {pm:List PM} {a:PM.denL pm} {θ:Th} {w:World} {K:Ghost}:(qia pm a θ w K).fine:=⟨fun r e he=>by
 obtain ⟨R,_,rfl⟩:=qib r e he
 rfl⟩
theorem qo8 {pm:List PM} {a:PM.denL pm} {θ:Th} {vs:List Value} {w:World} {K:Ghost} (hM:Models w K) (hargs:ArgsOk pm a θ vs w K):Rel (qia pm a θ w K) (entF pm a) θ (qfI vs) w K:=by
 have hres: ∀r e,(entF pm a).res r=some e→∃R u,(PM.resL pm a)[r]?=some (R,u)∧e=⟨R,bif u then .par r else .ro, !u⟩:=fun r e he=>by
  have he':(match (PM.resL pm a)[r]? with
   | some (R,u)=>some (⟨R,bif u then .par r else .ro, !u⟩:RE)
   | none=>none)=some e:=he
  split at he'
  ·rename_i R u hR
   cases he'
   exact ⟨R,u,hR,rfl⟩
  ·cases he'
 refine ⟨hM,Ext.refl _ _ _,Ghost.le.refl _,Th.upto.refl _ _,Nat.le_refl _,?_,?_,?_,?_⟩
 ·intro r e he
  obtain ⟨R,hR,rfl⟩:=qib r e he
  refine ⟨?_,rfl⟩
  show (match (PM.resL pm a)[r]? with
   | some (R,u)=>some (⟨R,bif u then .par r else .ro, !u⟩:RE)
   | none=>none)=_
  rw [hR]
  rfl
 ·intro t v hv
  obtain ⟨u,hu,hr⟩:=qff hargs.vals hv
  have:qfI vs t=u:=by simp [qfI,List.getD_eq_getElem?_getD,hu]
  rw [this]
  exact hr
 ·intro r e he
  obtain ⟨R,u,hR,rfl⟩:=hres r e he
  refine ⟨(List.getElem?_eq_some_iff.1 hR).1,hargs.sat r R u hR,?_⟩
  cases u with
  | true=>exact fun g hg=> .inl ⟨⟨R,hR⟩,hg⟩
  | false=>trivial
 ·intro r r' e e' h1 h2 hne
  obtain ⟨R,u,hR,_⟩:=hres r e h1
  obtain ⟨R',u',hR',_⟩:=hres r' e' h2
  exact hargs.apart r r' (List.getElem?_eq_some_iff.1 hR).1 (List.getElem?_eq_some_iff.1 hR').1 hne
theorem qtv {a:PM.denL C.pm} {θ:Th} {w:World} {K:Ghost} (ρ2:Env) (w2:World) (K2:Ghost) (θ2:Th) (s:St) (svs:List SVal) (us:List Value) (ids:List Nat) (h2:Rel (qia C.pm a θ w K) s θ2 ρ2 w2 K2) (hus:SVal.relL θ2 s.nx K2 svs us) (hro:qcT s C.rm svs=some ((C.out a).1,ids)) (hrm:qbQ s C.pm 0=some (C.out a).2) (hdi:qa6 ids=true): ∃θ',OutOk C a θ w K (tupV us) w2 K2 θ':=by
 have hlenE:(C.ends a).length=(PM.resL C.pm a).length+ids.length:=by
  unfold Ctr.ends
  rw [List.length_append,PM.aft_len,(qcw (fun r e he=>(h2.res r e he).2.1) (θ':=θ2.via (qbb 0 ids)) (N:=ids.length) (n:=0) hro hus (fun i r hi=>by
   show θ2.key (qbb 0 ids (0+i))=_
   simp [qbb,List.getD_eq_getElem?_getD,hi]) (by simp)).2.1]
 have hnew: ∀i r,ids[i]?=some r→qbb (PM.resL C.pm a).length ids ((PM.resL C.pm a).length+i)=r:=fun i r hi=>by
  unfold qbb
  rw [if_neg (by omega),Nat.add_sub_cancel_left,List.getD_eq_getElem?_getD,hi]
  rfl
 have hold: ∀r,r<(PM.resL C.pm a).length→qbb (PM.resL C.pm a).length ids r=r:=fun r hr=>by simp [qbb,hr]
 obtain ⟨o1,o2,o3⟩:=qcw (fun r e he=>(h2.res r e he).2.1) (θ':=θ2.via (qbb (PM.resL C.pm a).length ids)) (N:=(C.ends a).length) (n:=(PM.resL C.pm a).length) hro hus (fun i r hi=>by
  show θ2.key (qbb _ ids _)=_
  rw [hnew i r hi]) (by omega)
 have hmut:=qbg (a:=a) hrm (fun j R hj=>by
  have hz:(qia C.pm a θ w K).frz j=some ⟨R,.ro,true⟩:=by
   show (match (PM.resL C.pm a)[j]? with
    | some (R,false)=>some (⟨R,.ro,true⟩:RE)
    | _=>none)=_
   rw [hj]
  rw [Nat.zero_add]
  exact ⟨_,(h2.frz j _ hz).1,rfl,rfl⟩)
 have hro2: ∀j R,(PM.resL C.pm a)[j]?=some (R,false)→θ2.fp j=θ.fp j:=fun j R hj=>by
  have hz:(qia C.pm a θ w K).frz j=some ⟨R,.ro,true⟩:=by
   show (match (PM.resL C.pm a)[j]? with
    | some (R,false)=>some (⟨R,.ro,true⟩:RE)
    | _=>none)=_
   rw [hj]
  exact (h2.frz j _ hz).2
 have hat: ∀r,r<(C.ends a).length→∃e R,s.res (qbb (PM.resL C.pm a).length ids r)=some e∧(C.ends a)[r]?=some R∧e.r=R∧((r<(PM.resL C.pm a).length∧((e.org= .par r∧∃R0,(PM.resL C.pm a)[r]?=some (R0,true))∨(e.org= .ro∧∃R0,(PM.resL C.pm a)[r]?=some (R0,false))))∨((PM.resL C.pm a).length≤r∧e.org= .new∧∃q,ids[r - (PM.resL C.pm a).length]?=some q∧qbb (PM.resL C.pm a).length ids r=q)):=fun r hr=>by
  have hR:=List.getElem?_eq_getElem hr
  rcases Nat.lt_or_ge r (PM.resL C.pm a).length with hlt | hge
  ·have hR':(PM.aft C.pm a (C.out a).2)[r]?=some (C.ends a)[r]:=by
    rw [←hR]
    unfold Ctr.ends
    rw [List.getElem?_append_left (by rw [PM.aft_len];exact hlt)]
   obtain ⟨e,e1,e2,e3⟩:=hmut r _ hR'
   rw [Nat.zero_add] at e1 e3
   refine ⟨e,_,by rw [hold r hlt];exact e1,hR,e2,.inl ⟨hlt,e3⟩⟩
  ·have hR':(RM.resL C.rm (C.out a).1)[r - (PM.resL C.pm a).length]?=some (C.ends a)[r]:=by
    rw [←hR]
    unfold Ctr.ends
    rw [List.getElem?_append_right (by rw [PM.aft_len];exact hge),PM.aft_len]
   obtain ⟨q,e,e1,e2,e3,e4⟩:=o3 _ _ hR'
   have hq:qbb (PM.resL C.pm a).length ids r=q:=by
    have:=hnew _ q e1
    rwa [show (PM.resL C.pm a).length+(r - (PM.resL C.pm a).length)=r from by omega] at this
   exact ⟨e,_,by rw [hq];exact e2,hR,e3,.inr ⟨hge,e4,q,e1,hq⟩⟩
 refine ⟨θ2.via (qbb (PM.resL C.pm a).length ids),⟨h2.ext,h2.mod,fun r hr=>?_,⟨us,rfl,o1⟩,?_,?_,?_,?_⟩⟩
 ·show θ2.key (qbb _ ids r)=_∧θ2.sur (qbb _ ids r)=_
  rw [hold r hr]
  exact h2.old r hr
 ·intro r R hR
  obtain ⟨e,R',e1,e2,e3,e4⟩:=hat r (List.getElem?_eq_some_iff.1 hR).1
  rw [hR] at e2
  cases e2
  have hs:=(h2.res _ _ e1).2.1
  have hp:R.plain:=by
   unfold Ctr.ends at hR
   rcases List.mem_append.1 (List.mem_of_getElem? hR) with hm | hm
   ·exact PM.aft_plain R hm
   ·exact RM.plain R hm
  rw [e3] at hs
  exact Res.sat.move (θ:=θ2) (θ':=θ2.via (qbb (PM.resL C.pm a).length ids)) (r:=qbb (PM.resL C.pm a).length ids r) (r':=r) rfl rfl rfl hp hs
 ·intro r hr g hg
  have hg':θ2.fp (qbb (PM.resL C.pm a).length ids r) g:=hg
  rw [hold r hr] at hg'
  obtain ⟨e,R',e1,e2,e3,e4⟩:=hat r (by omega)
  rw [hold r hr] at e1
  rcases e4 with ⟨_,⟨e5,_⟩ | e5⟩ | ⟨e5,_⟩
  ·have ho:=(h2.res _ _ e1).2.2
   rw [e5] at ho
   exact (ho g hg').imp (fun h=>h.2) (fun h=>h)
  ·obtain ⟨_,R0,hx⟩:=e5
   rw [hro2 r R0 hx] at hg'
   exact .inl hg'
  ·omega
 ·intro r hr1 hr2 g hg
  obtain ⟨e,R',e1,e2,e3,e4⟩:=hat r hr2
  rcases e4 with ⟨e5,_⟩ | ⟨_,e5,_⟩
  ·omega
  ·have ho:=(h2.res _ _ e1).2.2
   rw [e5] at ho
   exact ho g hg
 ·intro r r' hr hr' hne g hg hg'
  obtain ⟨e,R,e1,_,_,e4⟩:=hat r hr
  obtain ⟨e',R',e1',_,_,e4'⟩:=hat r' hr'
  refine h2.sep _ _ e e' e1 e1' (fun heq=>?_) g hg hg'
  rw [heq] at e1
  rw [e1] at e1'
  cases e1'
  rcases e4 with ⟨a1,a2⟩ | ⟨a1,a2,q,a3,a4⟩<;>rcases e4' with ⟨b1,b2⟩ | ⟨b1,b2,q',b3,b4⟩
  ·rw [hold r a1,hold r' b1] at heq
   exact hne heq
  ·rcases a2 with ⟨a2,_⟩ | ⟨a2,_⟩<;>rw [a2] at b2<;>cases b2
  ·rcases b2 with ⟨b2,_⟩ | ⟨b2,_⟩<;>rw [b2] at a2<;>cases a2
  ·rw [a4,b4] at heq
   subst heq
   have:=qeP hdi a3 b3
   omega
theorem qi7 (hX:X.ok) (fuel:Nat) (h: ∀a,C.pre a→PM.wfP C.pm a (fvc X fuel f C a fun o m=>o=(C.out a).1∧m=(C.out a).2)):C.valid X.c.P f:=by
 intro a hpre θ vs w K hM hargs
 have hvc:=PM.wfP_ok hargs.vals (fun j R u hj=>by rw [Nat.zero_add];exact hargs.sat j R u hj) (h a hpre)
 unfold fvc at hvc
 split at hvc
 ·rename_i fn hfn
  split at hvc
  ·rename_i code hcode
   cases hlen:Nat.ble (PM.svL C.pm a 0).length fn.ntmps with
   | false=>rw [hlen] at hvc;exact hvc.elim
   | true=>
     rw [hlen] at hvc
     simp only [cond_true] at hvc
     have hl:vs.length=(PM.svL C.pm a 0).length:=qky hargs.vals
     have hlen':vs.length≤fn.ntmps:=by rw [hl];exact Nat.le_of_ble_eq_true hlen
     refine qaD hfn hcode hlen' ((qla hX (qpm hX) fuel fn.ntmps code (entF C.pm a) _ hvc (qia C.pm a θ w K) θ (qfI vs) w K qgx (qo8 hM hargs)).mono ?_)
     have fin: ∀(ρ2:Env) (w2:World) (K2:Ghost) (θ2:Th) (s:St),Rel (qia C.pm a θ w K) s θ2 ρ2 w2 K2→finF X C fn.results s (fun o m=>o=(C.out a).1∧m=(C.out a).2)→∃v,(resE X.c.P fn.results ρ2).run X.c.P w2= .ok v w2∧∃v' K' θ',Ending.returned v= .returned v'∧OutOk C a θ w K v' w2 K' θ':=fun ρ2 w2 K2 θ2 s h2 hk=>by
      unfold finF at hk
      obtain ⟨θ3,h3,_⟩:=qfQ X.c qgx (l:=qgN fn.results.toList) h2
      split at hk
      ·rename_i svs hsv
       split at hk
       ·rename_i o ids m ho hm
        cases hd:qa6 ids with
        | false=>rw [hd] at hk;exact hk.elim
        | true=>
          rw [hd] at hk
          obtain ⟨k1,k2⟩:=hk
          subst k1;subst k2
          obtain ⟨us,hus,hrun⟩:=qiq hX.c h3 hsv
          obtain ⟨θ',hO⟩:=qtv ρ2 w2 K2 θ3 _ svs us ids h3 hus ho hm hd
          exact ⟨_,hrun,_,K2,θ',rfl,hO⟩
       ·exact hk.elim
      ·exact hk.elim
     rintro e ρ2 w2 ⟨K2,θ2,s,hk2,h2,_⟩
     cases e with
     | normal=>
       obtain ⟨v,h1,v',K',θ',h3,h4⟩:=fin ρ2 w2 K2 θ2 s h2 hk2
       exact ⟨v,h1,v',K',θ',h3,h4⟩
     | ret=>
       obtain ⟨v,h1,v',K',θ',h3,h4⟩:=fin ρ2 w2 K2 θ2 s h2 hk2
       exact ⟨v,h1,v',K',θ',h3,h4⟩
     | exit id=>exact hk2.elim
     | goto id=>exact hk2.elim
     | panic ch=>exact hk2.elim
     | outgrown=>exact hk2.elim
  ·exact hvc.elim
 ·exact hvc.elim
end
def qmo (P:Program):List (Nat×Bool×Ty×Nat)→Prop
 | []=>True
 | e::l=>TyOk P e.1 e.2.2.1.kd e.2.2.2∧qmo P l
def qlK (P:Program):List (Nat×Ty×Nat)→Prop
 | []=>True
 | e::l=> @EqK _ P e.1 e.2.1.kd e.2.1.deq e.2.2∧qlK P l
def qkR (P:Program):List Nat→Prop
 | []=>True
 | f::l=>(∀(args:Array Value) (w:World),(callFunc f args).run P w= .ok (.enter f args) w)∧qkR P l
theorem qmo.all {P:Program}: ∀ {l:List (Nat×Bool×Ty×Nat)},qmo P l→∀e∈l,TyOk P e.1 e.2.2.1.kd e.2.2.2
 | [],_,e,he=>by cases he
 | e'::l,h,e,he=>by
   rcases List.mem_cons.1 he with rfl | he
   ·exact h.1
   ·exact qmo.all h.2 e he
theorem qlK.all {P:Program}: ∀ {l:List (Nat×Ty×Nat)},qlK P l→∀e∈l,@EqK _ P e.1 e.2.1.kd e.2.1.deq e.2.2
 | [],_,e,he=>by cases he
 | e'::l,h,e,he=>by
   rcases List.mem_cons.1 he with rfl | he
   ·exact h.1
   ·exact qlK.all h.2 e he
theorem qkR.all {P:Program}: ∀ {l:List Nat},qkR P l→∀f∈l,∀(args:Array Value) (w:World),(callFunc f args).run P w= .ok (.enter f args) w
 | [],_,f,hf=>by cases hf
 | f'::l,h,f,hf=>by
   rcases List.mem_cons.1 hf with rfl | hf
   ·exact h.1
   ·exact qkR.all h.2 f hf
def EqT (P:Program) (id:Nat) (t:Ty) (m:Nat):Prop:=@EqK t.den P id t.kd t.deq m
def EqFT (P:Program) (fs:List Field) (off:Nat) (t:Ty) (m:Nat):Prop:=@EqF t.den P fs off t.kd t.deq m
theorem EqT.more {P:Program} {id:Nat} {t:Ty} {m m':Nat} (h:EqT P id t m) (hm:Nat.ble m m'=true):EqT P id t m':=@EqK.more _ _ _ _ t.deq _ _ h (Nat.le_of_ble_eq_true hm)
theorem qm4 {P:Program} {id:Nat} {ik:IntKind} (ht:P.underlying id=some (.int ik)):EqT P id (.int ik) 1:=qrp ht
theorem qbt {P:Program} {id e n b:Nat} (ht:P.underlying id=some (.array n e)) (he:P.underlying e=some (.int .u8)) (hT:TyOk P e (Ty.kd .byte) b):EqT P id (.arr n .byte) 2:=qro ht he hT
theorem qe7 {P : Program} {f : Field} {off m b : Nat} {t : Ty} (hT : TyOk P f.type t.kd b) (ho : Nat.beq f.offset off = true) (hn : f.name ≠ "_") (hE : EqT P f.type t m) : EqFT P [f] off t m := @qrn _ _ _ _ t.deq _ _ _ hT ho hn hE
theorem qa2 {P : Program} {fs : List Field} {f : Field} {off m b : Nat} {t u : Ty} (hT : TyOk P f.type t.kd b) (ho : Nat.beq f.offset off = true) (hn : f.name ≠ "_") (hE : EqT P f.type t m) (hF : EqFT P fs (off + t.kd.sz) u m) : EqFT P (f :: fs) off (.pr t u) m := @qpa _ _ _ _ _ _ t.deq u.deq _ _ _ _ hT ho hn hE hF
theorem qdn {P:Program} {id m:Nat} {fs:Array Field} {t:Ty} (ht:P.underlying id=some (.struct fs)) (hp:P.stoodInHeld id=false) (ha:t.kd.agg=true) (hF:EqFT P fs.toList 0 t m):EqT P id t (m+1):=@qk9 _ _ _ _ t.deq _ _ ht hp ha hF
end Go.Inc

set_option linter.unusedVariables false
namespace Go.Inc
open Go Go.RowKit
def conj:List Prop→Prop
 | []=>True
 | [p]=>p
 | p::q::l=>p∧conj (q::l)
theorem qd3 {p:Prop} {l:List Prop}:conj (p::l)=(p∧conj l):=by
 cases l with
 | nil=>simp [conj]
 | cons q l=>rfl
def eqRL:(l:List RM)→RM.denL l→RM.denL l→List Prop→List Prop
 | [],_,_,L=>L
 | m::l,x,y,L=>(x.1=y.1)::eqRL l x.2 y.2 L
def eqML:(l:List PM)→PM.MD l→PM.MD l→List Prop
 | [],_,_=> []
 | .v _::l,x,y=>eqML l x y
 | .nil::l,x,y=>eqML l x y
 | .snil::l,x,y=>eqML l x y
 | .bx _ true::l,x,y=>(x.1=y.1)::eqML l x.2 y.2
 | .bk _ true::l,x,y=>(x.1=y.1)::eqML l x.2 y.2
 | .rw _ _ true::l,x,y=>(x.1=y.1)::eqML l x.2 y.2
 | .rw _ _ false::l,x,y=>eqML l x y
 | .bx _ false::l,x,y=>eqML l x y
 | .bk _ false::l,x,y=>eqML l x y
 | .fn _ _::l,x,y=>eqML l x y
theorem qm3: ∀ {l:List RM} {x y:RM.denL l} {L:List Prop},conj (eqRL l x y L)=(x=y∧conj L)
 | [],x,y,L=>by cases x;cases y;simp [eqRL]
 | m::l,x,y,L=>by
   obtain ⟨x1,x2⟩:=x
   obtain ⟨y1,y2⟩:=y
   rw [eqRL,qd3,qm3]
   simp only [Prod.mk.injEq,and_assoc]
theorem qb3: ∀ {l:List PM} {x y:PM.MD l},conj (eqML l x y)=(x=y)
 | [],x,y=>by cases x;cases y;simp [eqML,conj]
 | .v _::l,x,y=>qb3 (l:=l)
 | .nil::l,x,y=>qb3 (l:=l)
 | .snil::l,x,y=>qb3 (l:=l)
 | .bx _ true::l,x,y=>by
   obtain ⟨x1,x2⟩:=x
   obtain ⟨y1,y2⟩:=y
   rw [eqML,qd3,qb3 (l:=l)]
   simp only [Prod.mk.injEq]
 | .rw _ _ true::l,x,y=>by
   obtain ⟨x1,x2⟩:=x
   obtain ⟨y1,y2⟩:=y
   rw [eqML,qd3,qb3 (l:=l)]
   simp only [Prod.mk.injEq]
 | .rw _ _ false::l,x,y=>qb3 (l:=l)
 | .bk _ true::l,x,y=>by
   obtain ⟨x1,x2⟩:=x
   obtain ⟨y1,y2⟩:=y
   rw [eqML,qd3,qb3 (l:=l)]
   simp only [Prod.mk.injEq]
 | .bx _ false::l,x,y=>qb3 (l:=l)
 | .bk _ false::l,x,y=>qb3 (l:=l)
 | .fn _ _::l,x,y=>qb3 (l:=l)
def eqO (C:Ctr) (a:PM.denL C.pm) (o:RM.denL C.rm) (m:PM.MD C.pm):Prop:=conj (eqRL C.rm o (C.out a).1 (eqML C.pm m (C.out a).2))
theorem qtk {C:Ctr} {a:PM.denL C.pm}:eqO C a=fun o m=>o=(C.out a).1∧m=(C.out a).2:=by
 funext o m
 rw [eqO,qm3,qb3]
theorem qaB {X:Fx} {C:Ctr} {f:Nat} (hX:X.ok) (fuel:Nat) (h: ∀a,C.pre a→PM.wfP C.pm a (fvc X fuel f C a (eqO C a))):C.valid X.c.P f:=qi7 hX fuel fun a hp=>by
 have:=h a hp
 rwa [qtk] at this
theorem qaY {c:Seat} {bk:Option Bk} {fns:List Nat} {ctr:List (Nat×Ctr)} {inl:List Nat} {lps:List (Nat×List Nat×List Nat)} {ords:List (Nat×List Nat×List It)} (hc:c.ok) (hb: ∀b,bk=some b→TyOk c.P b.t qd7 b.bytes) (hf:qkR c.P fns) (h:qjN c.P ctr):Fx.ok ⟨c,bk,fns,ctr,inl,lps,ords⟩:=⟨hc,hb,hf.all,h⟩
end Go.Inc

set_option linter.unusedVariables false
namespace Go.Inc
open Go Go.RowKit
section
variable {P:Program} {f:FuncId} {pm:List PM} {e:Nat} {k:Ty} {w w':World} {K K':Ghost} {θ:Th}
theorem qfy {l:List PM} {a:PM.denL l} {b:PM.MD l} (h:PM.resL l a=[]):PM.aft l a b=[]:=by
 have:=PM.aft_len (l:=l) (a:=a) (b:=b)
 rw [h] at this
 exact List.length_eq_zero_iff.1 this
theorem qc7 {t:Ty} {x:t.den} {n:Nat} {v:Value} (h:(SVal.of t x).rel θ n K v) (ho:(SVal.of t x).to t=some x):t.kd.V K x v:=SVal.to_rel ho h
theorem br_v {C:Ctr} (h0: ∀a,PM.resL C.pm a=[]) (h1: ∀x,RM.resL C.rm x=[]) (old: ∀a,C.pre a→∀(θ:Th) (vs:List Value) (w:World) (K:Ghost),Models w K→SVal.relL θ 0 K (PM.svL C.pm a 0) vs→Calls P f vs.toArray w fun e w'=> ∃K' rs,e= .returned (tupV rs)∧Ext NX w K w' K'∧Models w' K'∧SVal.relL θ 0 K' (RM.svL C.rm (C.out a).1 0) rs):C.valid P f:=by
 intro a hp θ vs w K hM hA
 have hv:=hA.vals
 rw [h0] at hv
 refine (old a hp θ vs w K hM hv).mono ?_
 rintro ed w' ⟨K',rs,rfl,hE,hM',hr⟩
 have hends:C.ends a=[]:=by unfold Ctr.ends;rw [h1,qfy (h0 a)];rfl
 refine ⟨_,K',θ,rfl,hE.weak fun _ _ h=>h.elim,hM',Th.upto.refl _ _,⟨rs,rfl,?_⟩,fun r R hR=>?_,fun r hr=>?_,fun r h1 h2=>?_,fun r r' h1=>?_⟩
 ·rw [hends,h0];exact hr
 ·rw [hends] at hR;simp at hR
 ·rw [h0] at hr;simp at hr
 ·rw [hends] at h2;simp at h2
 ·rw [hends] at h1;simp at h1
theorem qum {pr:Option (PM.denL pm→Prop)} {out:PM.denL pm→RM.denL [.ow e k]×PM.MD pm} (h0: ∀a,PM.resL pm a=[]) (old: ∀a,Ctr.pre ⟨pm,[.ow e k],pr,out⟩ a→∀(θ:Th) (vs:List Value) (w:World) (K:Ghost),Models w K→SVal.relL θ 0 K (PM.svL pm a 0) vs→Calls P f vs.toArray w fun ed w'=> ∃K' r0,ed= .returned r0∧Ext NX w K w' K'∧Models w' K'∧Own k.kd e w' K' (out a).1.1 r0∧(∀g,ob r0=some g→w.heap.size≤g)):Ctr.valid P f ⟨pm,[.ow e k],pr,out⟩:=by
 intro a hp θ vs w K hM hA
 have hv:=hA.vals
 rw [h0] at hv
 refine (old a hp θ vs w K hM hv).mono ?_
 rintro ed w' ⟨K',r0,rfl,hE,hM',hO,hg⟩
 have hends:Ctr.ends ⟨pm,[.ow e k],pr,out⟩ a=[.ow e k (out a).1.1]:=by unfold Ctr.ends;rw [qfy (h0 a)];rfl
 refine ⟨_,K',θ.set 0 r0 (fun g=>ob r0=some g) ([],[]),rfl,hE.weak fun _ _ h=>h.elim,hM',?_,⟨[r0],rfl,?_⟩,fun r R hR=>?_,fun r hr=>?_,fun r h1 h2=>?_,fun r r' h1 h2 h3=>?_⟩
 ·intro r hr
  rw [h0] at hr
  simp at hr
 ·rw [hends,h0]
  exact ⟨r0,[],rfl,⟨Nat.zero_lt_one,hO.V,Th.set_key⟩,rfl⟩
 ·rw [hends] at hR
  cases r with
  | succ r=>simp at hR
  | zero=>
    simp at hR
    subst hR
    exact ⟨by rw [Th.set_key];exact hO,fun g=>by rw [Th.set_fp,Th.set_key]⟩
 ·rw [h0] at hr;simp at hr
 ·intro g hg'
  rw [hends] at h2
  have:r=0:=by simpa using h2
  subst this
  rw [Th.set_fp] at hg'
  exact hg g hg'
 ·rw [hends] at h1 h2
  simp at h1 h2
  omega
theorem qti {rm:List RM} {pr:Option (PM.denL (.bk e true::pm)→Prop)} {out:PM.denL (.bk e true::pm)→RM.denL rm×PM.MD (.bk e true::pm)} (h0: ∀a,PM.resL pm a=[]) (h1: ∀x,RM.resL rm x=[]) (old: ∀a,Ctr.pre ⟨.bk e true::pm,rm,pr,out⟩ a→∀(θ:Th) (v:Value) (F:Nat→Prop) (vs:List Value) (w:World) (K:Ghost),Models w K→qaE e w K v F a.1→SVal.relL θ 1 K (PM.svL pm a.2 1) vs→Calls P f (v::vs).toArray w fun ed w'=> ∃K' rs F0,ed= .returned (tupV rs)∧Ext F w K w' K'∧Models w' K'∧(∀θ',SVal.relL θ' 1 K' (RM.svL rm (out a).1 1) rs)∧qaE e w' K' v F0 (out a).2.1∧(∀g,F0 g→F g∨w.heap.size≤g)):Ctr.valid P f ⟨.bk e true::pm,rm,pr,out⟩:=by
 intro a hp θ vs w K hM hA
 have hres:PM.resL (.bk e true::pm) a=[(.bk e a.1,true)]:=by
  show PM.res (.bk e true) a.1++PM.resL pm a.2=_
  rw [h0]
  rfl
 have hv:=hA.vals
 rw [hres] at hv
 obtain ⟨v,vs,rfl,hv1,hv2⟩:=hv
 have hsat:(Res.bk e a.1).sat θ 0 1 w K:=by
  have:=hA.sat 0 (.bk e a.1) true (by rw [hres];rfl)
  rwa [hres] at this
 have hkey:θ.key 0=v:=hv1.2
 have hB:qaE e w K v (θ.fp 0) a.1:=hkey▸hsat
 refine (old a hp θ v _ vs w K hM hB hv2).mono ?_
 rintro ed w' ⟨K',rs,F0,rfl,hE,hM',hr,hB',hg⟩
 have hends:Ctr.ends ⟨.bk e true::pm,rm,pr,out⟩ a=[.bk e (out a).2.1]:=by
  unfold Ctr.ends
  rw [h1]
  show .bk e (out a).2.1::PM.aft pm a.2 (out a).2.2++ []=_
  rw [qfy (h0 a.2)]
  rfl
 refine ⟨_,K',θ.set 0 v F0 (θ.sur 0),rfl,hE.weak fun g _ hg=>⟨0,.bk e a.1,by rw [hres];rfl,hg⟩,hM',?_,⟨rs,rfl,?_⟩,fun r R hR=>?_,fun r hr g hg'=>?_,fun r h1 h2=>?_,fun r r' h1 h2 h3=>?_⟩
 ·intro r hr
  rw [hres] at hr
  have:r=0:=by simpa using hr
  subst this
  exact ⟨by rw [Th.set_key,hkey],Th.set_sur⟩
 ·rw [hends,hres];exact hr _
 ·rw [hends] at hR
  cases r with
  | succ r=>simp at hR
  | zero=>
    simp at hR
    subst hR
    show qaE e w' K' ((θ.set 0 v F0 (θ.sur 0)).key 0) ((θ.set 0 v F0 (θ.sur 0)).fp 0) _
    rw [Th.set_key,Th.set_fp]
    exact hB'
 ·rw [hres] at hr
  have:r=0:=by simpa using hr
  subst this
  rw [Th.set_fp] at hg'
  exact hg g hg'
 ·rw [hres] at h1
  rw [hends] at h2
  simp at h1 h2
  omega
 ·rw [hends] at h1 h2
  simp at h1 h2
  omega
theorem qmI {rm:List RM} {pr:Option (PM.denL (.bk e false::pm)→Prop)} {out:PM.denL (.bk e false::pm)→RM.denL rm×PM.MD (.bk e false::pm)} (h0: ∀a,PM.resL pm a=[]) (h1: ∀x,RM.resL rm x=[]) (old: ∀a,Ctr.pre ⟨.bk e false::pm,rm,pr,out⟩ a→∀(θ:Th) (v:Value) (F:Nat→Prop) (vs:List Value) (w:World) (K:Ghost),Models w K→qaE e w K v F a.1→SVal.relL θ 1 K (PM.svL pm a.2 1) vs→Calls P f (v::vs).toArray w fun ed w'=> ∃K' rs,ed= .returned (tupV rs)∧Ext NX w K w' K'∧Models w' K'∧(∀θ',SVal.relL θ' 1 K' (RM.svL rm (out a).1 1) rs)):Ctr.valid P f ⟨.bk e false::pm,rm,pr,out⟩:=by
 intro a hp θ vs w K hM hA
 have hres:PM.resL (.bk e false::pm) a=[(.bk e a.1,false)]:=by
  show PM.res (.bk e false) a.1++PM.resL pm a.2=_
  rw [h0]
  rfl
 have hv:=hA.vals
 rw [hres] at hv
 obtain ⟨v,vs,rfl,hv1,hv2⟩:=hv
 have hsat:(Res.bk e a.1).sat θ 0 1 w K:=by
  have:=hA.sat 0 (.bk e a.1) false (by rw [hres];rfl)
  rwa [hres] at this
 have hkey:θ.key 0=v:=hv1.2
 have hB:qaE e w K v (θ.fp 0) a.1:=hkey▸hsat
 refine (old a hp θ v _ vs w K hM hB hv2).mono ?_
 rintro ed w' ⟨K',rs,rfl,hE,hM',hr⟩
 have hends:Ctr.ends ⟨.bk e false::pm,rm,pr,out⟩ a=[.bk e a.1]:=by
  unfold Ctr.ends
  rw [h1]
  show .bk e a.1::PM.aft pm a.2 (out a).2++ []=_
  rw [qfy (h0 a.2)]
  rfl
 refine ⟨_,K',θ,rfl,hE.weak fun g _ hg=>hg.elim,hM',Th.upto.refl _ _,⟨rs,rfl,?_⟩,fun r R hR=>?_,fun r hr g hg'=> .inl hg',fun r h1 h2=>?_,fun r r' h1 h2 h3=>?_⟩
 ·rw [hends,hres];exact hr _
 ·rw [hends] at hR
  cases r with
  | succ r=>simp at hR
  | zero=>
    simp at hR
    subst hR
    show qaE e w' K' (θ.key 0) (θ.fp 0) _
    rw [hkey]
    exact qaE.extN hB hE
 ·rw [hres] at h1
  rw [hends] at h2
  simp at h1 h2
  omega
 ·rw [hends] at h1 h2
  simp at h1 h2
  omega
theorem qtO {pr:Option (PM.denL pm→Prop)} {out:PM.denL pm→RM.denL [.ow e k]×PM.MD pm} (h:Ctr.valid P f ⟨pm,[.ow e k],pr,out⟩) (h0: ∀a,PM.resL pm a=[]) {a:PM.denL pm} {vs:List Value} (hp:Ctr.pre ⟨pm,[.ow e k],pr,out⟩ a) (hM:Models w K) (hv: ∀θ,SVal.relL θ 0 K (PM.svL pm a 0) vs):Calls P f vs.toArray w fun ed w'=> ∃K' r0,ed= .returned r0∧Ext NX w K w' K'∧Models w' K'∧Own k.kd e w' K' (out a).1.1 r0∧(∀g,ob r0=some g→w.heap.size≤g):=by
 refine (h a hp ⟨fun _=> .bool false,fun _ _=>False,fun _=>([],[])⟩ vs w K hM ⟨by rw [h0];exact hv _,fun r R m hr=>by rw [h0] at hr;simp at hr,fun r r' hr=>by rw [h0] at hr;simp at hr⟩).mono ?_
 rintro ed w' ⟨v,K',θ',rfl,hO⟩
 have hends:Ctr.ends ⟨pm,[.ow e k],pr,out⟩ a=[.ow e k (out a).1.1]:=by unfold Ctr.ends;rw [qfy (h0 a)];rfl
 obtain ⟨us,rfl,hus⟩:=hO.val
 rw [hends,h0] at hus
 obtain ⟨r0,us,rfl,⟨_,hV,hkey⟩,hnil⟩:=hus
 have hnil':us=[]:=hnil
 subst hnil'
 have hs:=hO.sat 0 _ (by rw [hends];rfl)
 obtain ⟨hs1,hs2⟩:=hs
 have hkey:θ'.key 0=r0:=hkey
 have hE:Ext NX w K w' K':=by
  refine hO.ext.weak ?_
  rintro g _ ⟨r,R,hr,_⟩
  rw [h0] at hr
  simp at hr
 refine ⟨K',r0,rfl,hE,hO.mod,by rw [←hkey];exact hs1,fun g hg=>hO.new 0 (by rw [h0];exact Nat.le_refl _) (by rw [hends];exact Nat.zero_lt_one) g ((hs2 g).2 (by rw [hkey];exact hg))⟩
theorem un_v {t:Ty} {pr:Option (PM.denL pm→Prop)} {out:PM.denL pm→RM.denL [.v t]×PM.MD pm} (h:Ctr.valid P f ⟨pm,[.v t],pr,out⟩) (h0: ∀a,PM.resL pm a=[]) (ho: ∀x:t.den,(SVal.of t x).to t=some x) {a:PM.denL pm} {vs:List Value} (hp:Ctr.pre ⟨pm,[.v t],pr,out⟩ a) (hM:Models w K) (hv: ∀θ,SVal.relL θ 0 K (PM.svL pm a 0) vs):Calls P f vs.toArray w fun ed w'=> ∃K' r0,ed= .returned r0∧Ext NX w K w' K'∧Models w' K'∧t.kd.V K' (out a).1.1 r0:=by
 refine (h a hp ⟨fun _=> .bool false,fun _ _=>False,fun _=>([],[])⟩ vs w K hM ⟨by rw [h0];exact hv _,fun r R m hr=>by rw [h0] at hr;simp at hr,fun r r' hr=>by rw [h0] at hr;simp at hr⟩).mono ?_
 rintro ed w' ⟨v,K',θ',rfl,hO⟩
 obtain ⟨us,rfl,hus⟩:=hO.val
 obtain ⟨r0,us,rfl,hr,hnil⟩:=hus
 have hnil':us=[]:=hnil
 subst hnil'
 have hE:Ext NX w K w' K':=by
  refine hO.ext.weak ?_
  rintro g _ ⟨r,R,hr,_⟩
  rw [h0] at hr
  simp at hr
 exact ⟨K',r0,rfl,hE,hO.mod,qc7 hr (ho _)⟩
end
end Go.Inc

set_option linter.unusedVariables false
set_option maxRecDepth 100000
set_option maxHeartbeats 2000000
namespace Go.Proofs.Ytmjjkpiglbpkhaa
open Go Go.RowKit Go.Inc
theorem tt2:TyOk Try.prog 2 (Ty.kd (.int .i64)) 8:=⟨⟨Try.t2,_,Try.type2,rfl,rfl,rfl,rfl,rfl⟩,⟨_,Try.underlying2,rfl⟩⟩
theorem tt3:TyOk Try.prog 3 (Ty.kd (.int .i64)) 8:=⟨⟨Try.t3,_,Try.type3,rfl,rfl,rfl,rfl,rfl⟩,⟨_,Try.underlying3,rfl⟩⟩
theorem tt4:TyOk Try.prog 4 (Ty.kd (.bool)) 1:=⟨⟨Try.t4,_,Try.type4,rfl,rfl,rfl,rfl,rfl⟩,⟨_,Try.underlying4,rfl⟩⟩
theorem tt5:TyOk Try.prog 5 (Ty.kd (.int .u8)) 1:=⟨⟨Try.t5,_,Try.type5,rfl,rfl,rfl,rfl,rfl⟩,⟨_,Try.underlying5,rfl⟩⟩
theorem tt5b:TyOk Try.prog 5 (Ty.kd (.byte)) 1:=⟨⟨Try.t5,_,Try.type5,rfl,rfl,rfl,rfl,rfl⟩,⟨_,Try.underlying5,rfl⟩⟩
theorem tt9:TyOk Try.prog 9 (Ty.kd (.str)) 16:=⟨⟨Try.t9,_,Try.type9,rfl,rfl,rfl,rfl,rfl⟩,⟨_,Try.underlying9,rfl⟩⟩
theorem tt12:TyOk Try.prog 12 (Ty.kd (.int .u64)) 8:=⟨⟨Try.t12,_,Try.type12,rfl,rfl,rfl,rfl,rfl⟩,⟨_,Try.underlying12,rfl⟩⟩
theorem tt13:TyOk Try.prog 13 (Ty.kd (.pr .str (.int .u64))) 24:=⟨⟨Try.t13,_,Try.type13,rfl,rfl,rfl,rfl,rfl⟩,⟨_,Try.underlying13,rfl⟩⟩
theorem tt21:TyOk Try.prog 21 (Ty.kd (.int .i32)) 4:=⟨⟨Try.t21,_,Try.type21,rfl,rfl,rfl,rfl,rfl⟩,⟨_,Try.underlying21,rfl⟩⟩
theorem tt22:TyOk Try.prog 22 (Ty.kd (.sl .str)) 24:=⟨⟨Try.t22,_,Try.type22,rfl,rfl,rfl,rfl,rfl⟩,⟨_,Try.underlying22,rfl⟩⟩
theorem tt23:TyOk Try.prog 23 (Ty.kd (.int .u64)) 8:=⟨⟨Try.t23,_,Try.type23,rfl,rfl,rfl,rfl,rfl⟩,⟨_,Try.underlying23,rfl⟩⟩
theorem tt24:TyOk Try.prog 24 (Ty.kd (.arr 32 .byte)) 32:=⟨⟨Try.t24,_,Try.type24,rfl,rfl,rfl,rfl,rfl⟩,⟨_,Try.underlying24,rfl⟩⟩
theorem tt25:TyOk Try.prog 25 (Ty.kd (.pr (.int .u64) (.pr (.arr 32 .byte) (.pr (.arr 32 .byte) (.pr (.arr 32 .byte) (.pr (.arr 32 .byte) (.arr 32 .byte))))))) 168:=⟨⟨Try.t25,_,Try.type25,rfl,rfl,rfl,rfl,rfl⟩,⟨_,Try.underlying25,rfl⟩⟩
theorem tt26:TyOk Try.prog 26 (Ty.kd (.pr (.int .u64) (.pr (.arr 32 .byte) (.pr (.arr 32 .byte) (.pr (.arr 32 .byte) (.pr (.arr 32 .byte) (.arr 32 .byte))))))) 168:=⟨⟨Try.t26,_,Try.type26,rfl,rfl,rfl,rfl,rfl⟩,⟨_,Try.underlying26,rfl⟩⟩
theorem tt27:TyOk Try.prog 27 (Ty.kd (.pr (.arr 32 .byte) (.pr (.arr 32 .byte) (.arr 32 .byte)))) 96:=⟨⟨Try.t27,_,Try.type27,rfl,rfl,rfl,rfl,rfl⟩,⟨_,Try.underlying27,rfl⟩⟩
theorem tt28:TyOk Try.prog 28 (Ty.kd (.pr (.arr 32 .byte) (.pr (.arr 32 .byte) (.arr 32 .byte)))) 96:=⟨⟨Try.t28,_,Try.type28,rfl,rfl,rfl,rfl,rfl⟩,⟨_,Try.underlying28,rfl⟩⟩
theorem tt32:TyOk Try.prog 32 (Ty.kd (.sl .byte)) 24:=⟨⟨Try.t32,_,Try.type32,rfl,rfl,rfl,rfl,rfl⟩,⟨_,Try.underlying32,rfl⟩⟩
theorem tt35:TyOk Try.prog 35 (Ty.kd (.hpt)) 8:=⟨⟨Try.t35,_,Try.type35,rfl,rfl,rfl,rfl,rfl⟩,⟨_,Try.underlying35,rfl⟩⟩
theorem qu0:TyOk Try.prog 35 (Ty.kd (.ptr (.pr (.pr (.sl (.pr (.arr 32 .byte) (.sl .byte))) .anm) (.int .i64)))) 8:=⟨⟨Try.t35,_,Try.type35,rfl,rfl,rfl,rfl,rfl⟩,⟨_,Try.underlying35,rfl⟩⟩
theorem tt36:TyOk Try.prog 36 (Ty.kd (.sl (.pr (.arr 32 .byte) (.sl .byte)))) 24:=⟨⟨Try.t36,_,Try.type36,rfl,rfl,rfl,rfl,rfl⟩,⟨_,Try.underlying36,rfl⟩⟩
theorem tt38:TyOk Try.prog 38 (Ty.kd (.pr (.sl (.pr (.arr 32 .byte) (.sl .byte))) (.hmp (.arr 32 .byte) (.int .i64)))) 32:=⟨⟨Try.t38,_,Try.type38,rfl,rfl,rfl,rfl,rfl⟩,⟨_,Try.underlying38,rfl⟩⟩
theorem qu1:TyOk Try.prog 38 (Ty.kd (.pr (.sl (.pr (.arr 32 .byte) (.sl .byte))) .anm)) 32:=⟨⟨Try.t38,_,Try.type38,rfl,rfl,rfl,rfl,rfl⟩,⟨_,Try.underlying38,rfl⟩⟩
theorem tt39:TyOk Try.prog 39 (Ty.kd (.pr (.hsl 146 (.pr (.arr 32 .byte) (.sl .byte))) (.hmp (.arr 32 .byte) (.int .i64)))) 32:=⟨⟨Try.t39,_,Try.type39,rfl,rfl,rfl,rfl,rfl⟩,⟨_,Try.underlying39,rfl⟩⟩
theorem qu2:TyOk Try.prog 39 (Ty.kd (.pr (.sl (.pr (.arr 32 .byte) (.sl .byte))) .anm)) 32:=⟨⟨Try.t39,_,Try.type39,rfl,rfl,rfl,rfl,rfl⟩,⟨_,Try.underlying39,rfl⟩⟩
theorem tt40:TyOk Try.prog 40 (Ty.kd (.pr (.pr (.hsl 146 (.pr (.arr 32 .byte) (.sl .byte))) (.hmp (.arr 32 .byte) (.int .i64))) (.int .i64))) 40:=⟨⟨Try.t40,_,Try.type40,rfl,rfl,rfl,rfl,rfl⟩,⟨_,Try.underlying40,rfl⟩⟩
theorem qu3:TyOk Try.prog 40 (Ty.kd (.pr (.pr (.sl (.pr (.arr 32 .byte) (.sl .byte))) .anm) (.int .i64))) 40:=⟨⟨Try.t40,_,Try.type40,rfl,rfl,rfl,rfl,rfl⟩,⟨_,Try.underlying40,rfl⟩⟩
theorem tt41:TyOk Try.prog 41 (Ty.kd (.pr (.pr (.hsl 146 (.pr (.arr 32 .byte) (.sl .byte))) (.hmp (.arr 32 .byte) (.int .i64))) (.int .i64))) 40:=⟨⟨Try.t41,_,Try.type41,rfl,rfl,rfl,rfl,rfl⟩,⟨_,Try.underlying41,rfl⟩⟩
theorem qu4:TyOk Try.prog 41 (Ty.kd (.pr (.pr (.sl (.pr (.arr 32 .byte) (.sl .byte))) .anm) (.int .i64))) 40:=⟨⟨Try.t41,_,Try.type41,rfl,rfl,rfl,rfl,rfl⟩,⟨_,Try.underlying41,rfl⟩⟩
theorem tt46:TyOk Try.prog 46 (Ty.kd (.hpt)) 8:=⟨⟨Try.t46,_,Try.type46,rfl,rfl,rfl,rfl,rfl⟩,⟨_,Try.underlying46,rfl⟩⟩
theorem qu5:TyOk Try.prog 46 (Ty.kd (.ptr (.st (.pr (.sl .byte) .bool)))) 8:=⟨⟨Try.t46,_,Try.type46,rfl,rfl,rfl,rfl,rfl⟩,⟨_,Try.underlying46,rfl⟩⟩
theorem tt49:TyOk Try.prog 49 (Ty.kd (.int .i64)) 8:=⟨⟨Try.t49,_,Try.type49,rfl,rfl,rfl,rfl,rfl⟩,⟨_,Try.underlying49,rfl⟩⟩
theorem tt53:TyOk Try.prog 53 (Ty.kd (.sl (.pr (.sl .byte) (.sl .byte)))) 24:=⟨⟨Try.t53,_,Try.type53,rfl,rfl,rfl,rfl,rfl⟩,⟨_,Try.underlying53,rfl⟩⟩
theorem tt56:TyOk Try.prog 56 (Ty.kd (.pr (.sl .byte) (.sl .byte))) 48:=⟨⟨Try.t56,_,Try.type56,rfl,rfl,rfl,rfl,rfl⟩,⟨_,Try.underlying56,rfl⟩⟩
theorem tt57:TyOk Try.prog 57 (Ty.kd (.pr (.sl .byte) (.sl .byte))) 48:=⟨⟨Try.t57,_,Try.type57,rfl,rfl,rfl,rfl,rfl⟩,⟨_,Try.underlying57,rfl⟩⟩
theorem tt61:TyOk Try.prog 61 (Ty.kd (.sl (.pr (.int .i64) (.pr (.pr (.sl .byte) (.sl .byte)) (.sl (.arr 32 .byte)))))) 24:=⟨⟨Try.t61,_,Try.type61,rfl,rfl,rfl,rfl,rfl⟩,⟨_,Try.underlying61,rfl⟩⟩
theorem tt62:TyOk Try.prog 62 (Ty.kd (.pr (.int .i64) (.sl (.pr (.int .i64) (.pr (.pr (.sl .byte) (.sl .byte)) (.sl (.arr 32 .byte))))))) 32:=⟨⟨Try.t62,_,Try.type62,rfl,rfl,rfl,rfl,rfl⟩,⟨_,Try.underlying62,rfl⟩⟩
theorem tt63:TyOk Try.prog 63 (Ty.kd (.pr (.int .i64) (.sl (.pr (.int .i64) (.pr (.pr (.sl .byte) (.sl .byte)) (.sl (.arr 32 .byte))))))) 32:=⟨⟨Try.t63,_,Try.type63,rfl,rfl,rfl,rfl,rfl⟩,⟨_,Try.underlying63,rfl⟩⟩
theorem tt80:TyOk Try.prog 80 (Ty.kd (.sl (.arr 32 .byte))) 24:=⟨⟨Try.t80,_,Try.type80,rfl,rfl,rfl,rfl,rfl⟩,⟨_,Try.underlying80,rfl⟩⟩
theorem tt81:TyOk Try.prog 81 (Ty.kd (.pr (.int .i64) (.pr (.pr (.sl .byte) (.sl .byte)) (.sl (.arr 32 .byte))))) 80:=⟨⟨Try.t81,_,Try.type81,rfl,rfl,rfl,rfl,rfl⟩,⟨_,Try.underlying81,rfl⟩⟩
theorem tt82:TyOk Try.prog 82 (Ty.kd (.pr (.int .i64) (.pr (.pr (.sl .byte) (.sl .byte)) (.sl (.arr 32 .byte))))) 80:=⟨⟨Try.t82,_,Try.type82,rfl,rfl,rfl,rfl,rfl⟩,⟨_,Try.underlying82,rfl⟩⟩
theorem tt89:TyOk Try.prog 89 (Ty.kd (.sl (.pr (.int .i64) (.pr (.int .i64) (.pr (.sl (.sl .byte)) (.pr (.arr 32 .byte) (.sl .byte))))))) 24:=⟨⟨Try.t89,_,Try.type89,rfl,rfl,rfl,rfl,rfl⟩,⟨_,Try.underlying89,rfl⟩⟩
theorem tt91:TyOk Try.prog 91 (Ty.kd (.hpt)) 8:=⟨⟨Try.t91,_,Try.type91,rfl,rfl,rfl,rfl,rfl⟩,⟨_,Try.underlying91,rfl⟩⟩
theorem qva:TyOk Try.prog 91 (Ty.kd (.ptr (.pr (.sl (.pr (.arr 32 .byte) .str)) (.int .i64)))) 8:=⟨⟨Try.t91,_,Try.type91,rfl,rfl,rfl,rfl,rfl⟩,⟨_,Try.underlying91,rfl⟩⟩
theorem tt92:TyOk Try.prog 92 (Ty.kd (.sl (.pr (.arr 32 .byte) .str))) 24:=⟨⟨Try.t92,_,Try.type92,rfl,rfl,rfl,rfl,rfl⟩,⟨_,Try.underlying92,rfl⟩⟩
theorem tt93:TyOk Try.prog 93 (Ty.kd (.pr (.sl (.pr (.arr 32 .byte) .str)) (.int .i64))) 32:=⟨⟨Try.t93,_,Try.type93,rfl,rfl,rfl,rfl,rfl⟩,⟨_,Try.underlying93,rfl⟩⟩
theorem tt94:TyOk Try.prog 94 (Ty.kd (.pr (.sl (.pr (.arr 32 .byte) .str)) (.int .i64))) 32:=⟨⟨Try.t94,_,Try.type94,rfl,rfl,rfl,rfl,rfl⟩,⟨_,Try.underlying94,rfl⟩⟩
theorem tt96:TyOk Try.prog 96 (Ty.kd (.sl (.sl .byte))) 24:=⟨⟨Try.t96,_,Try.type96,rfl,rfl,rfl,rfl,rfl⟩,⟨_,Try.underlying96,rfl⟩⟩
theorem tt97:TyOk Try.prog 97 (Ty.kd (.pr (.int .i64) (.pr (.int .i64) (.pr (.sl (.sl .byte)) (.pr (.arr 32 .byte) (.sl .byte)))))) 96:=⟨⟨Try.t97,_,Try.type97,rfl,rfl,rfl,rfl,rfl⟩,⟨_,Try.underlying97,rfl⟩⟩
theorem tt98:TyOk Try.prog 98 (Ty.kd (.pr (.int .i64) (.pr (.int .i64) (.pr (.sl (.sl .byte)) (.pr (.arr 32 .byte) (.sl .byte)))))) 96:=⟨⟨Try.t98,_,Try.type98,rfl,rfl,rfl,rfl,rfl⟩,⟨_,Try.underlying98,rfl⟩⟩
theorem qux:TyOk Try.prog 107 (Ty.kd (.sl (.ptr (.pr (.pr (.sl (.pr (.arr 32 .byte) (.sl .byte))) .anm) (.int .i64))))) 24:=⟨⟨Try.t107,_,Try.type107,rfl,rfl,rfl,rfl,rfl⟩,⟨_,Try.underlying107,rfl⟩⟩
theorem quy:TyOk Try.prog 115 (Ty.kd (.hpt)) 8:=⟨⟨Try.t115,_,Try.type115,rfl,rfl,rfl,rfl,rfl⟩,⟨_,Try.underlying115,rfl⟩⟩
theorem qtB:TyOk Try.prog 115 (Ty.kd (.ptr (.arr 32 .byte))) 8:=⟨⟨Try.t115,_,Try.type115,rfl,rfl,rfl,rfl,rfl⟩,⟨_,Try.underlying115,rfl⟩⟩
theorem quz:TyOk Try.prog 116 (Ty.kd (.arr 5 (.ptr (.arr 32 .byte)))) 40:=⟨⟨Try.t116,_,Try.type116,rfl,rfl,rfl,rfl,rfl⟩,⟨_,Try.underlying116,rfl⟩⟩
theorem quA:TyOk Try.prog 118 (Ty.kd (.hpt)) 8:=⟨⟨Try.t118,_,Try.type118,rfl,rfl,rfl,rfl,rfl⟩,⟨_,Try.underlying118,rfl⟩⟩
theorem qtC:TyOk Try.prog 118 (Ty.kd (.ptr (.pr (.int .u64) (.pr (.arr 32 .byte) (.pr (.arr 32 .byte) (.pr (.arr 32 .byte) (.pr (.arr 32 .byte) (.arr 32 .byte)))))))) 8:=⟨⟨Try.t118,_,Try.type118,rfl,rfl,rfl,rfl,rfl⟩,⟨_,Try.underlying118,rfl⟩⟩
theorem quB:TyOk Try.prog 121 (Ty.kd (.pr (.pr (.int .u64) (.pr (.arr 32 .byte) (.pr (.arr 32 .byte) (.pr (.arr 32 .byte) (.pr (.arr 32 .byte) (.arr 32 .byte)))))) (.arr 32 .byte))) 200:=⟨⟨Try.t121,_,Try.type121,rfl,rfl,rfl,rfl,rfl⟩,⟨_,Try.underlying121,rfl⟩⟩
theorem quC:TyOk Try.prog 122 (Ty.kd (.pr (.pr (.int .u64) (.pr (.arr 32 .byte) (.pr (.arr 32 .byte) (.pr (.arr 32 .byte) (.pr (.arr 32 .byte) (.arr 32 .byte)))))) (.arr 32 .byte))) 200:=⟨⟨Try.t122,_,Try.type122,rfl,rfl,rfl,rfl,rfl⟩,⟨_,Try.underlying122,rfl⟩⟩
theorem quD:TyOk Try.prog 124 (Ty.kd (.pr (.sl .byte) .bool)) 32:=⟨⟨Try.t124,_,Try.type124,rfl,rfl,rfl,rfl,rfl⟩,⟨_,Try.underlying124,rfl⟩⟩
theorem quE:TyOk Try.prog 125 (Ty.kd (.pr (.sl .byte) .bool)) 32:=⟨⟨Try.t125,_,Try.type125,rfl,rfl,rfl,rfl,rfl⟩,⟨_,Try.underlying125,rfl⟩⟩
theorem quF:TyOk Try.prog 126 (Ty.kd (.st (.pr (.sl .byte) .bool))) 32:=⟨⟨Try.t126,_,Try.type126,rfl,rfl,rfl,rfl,rfl⟩,⟨_,Try.underlying126,rfl⟩⟩
theorem quG:TyOk Try.prog 127 (Ty.kd (.st (.pr (.sl .byte) .bool))) 32:=⟨⟨Try.t127,_,Try.type127,rfl,rfl,rfl,rfl,rfl⟩,⟨_,Try.underlying127,rfl⟩⟩
theorem quH:TyOk Try.prog 130 (Ty.kd (.hpt)) 8:=⟨⟨Try.t130,_,Try.type130,rfl,rfl,rfl,rfl,rfl⟩,⟨_,Try.underlying130,rfl⟩⟩
theorem qtD:TyOk Try.prog 130 (Ty.kd (.ptr (.pr (.sl .byte) .bool))) 8:=⟨⟨Try.t130,_,Try.type130,rfl,rfl,rfl,rfl,rfl⟩,⟨_,Try.underlying130,rfl⟩⟩
theorem quI:TyOk Try.prog 145 (Ty.kd (.pr (.arr 32 .byte) (.sl .byte))) 56:=⟨⟨Try.t145,_,Try.type145,rfl,rfl,rfl,rfl,rfl⟩,⟨_,Try.underlying145,rfl⟩⟩
theorem quJ:TyOk Try.prog 146 (Ty.kd (.pr (.arr 32 .byte) (.sl .byte))) 56:=⟨⟨Try.t146,_,Try.type146,rfl,rfl,rfl,rfl,rfl⟩,⟨_,Try.underlying146,rfl⟩⟩
theorem quK:TyOk Try.prog 161 (Ty.kd (.pr (.arr 32 .byte) .str)) 48:=⟨⟨Try.t161,_,Try.type161,rfl,rfl,rfl,rfl,rfl⟩,⟨_,Try.underlying161,rfl⟩⟩
theorem quL:TyOk Try.prog 162 (Ty.kd (.pr (.arr 32 .byte) .str)) 48:=⟨⟨Try.t162,_,Try.type162,rfl,rfl,rfl,rfl,rfl⟩,⟨_,Try.underlying162,rfl⟩⟩
theorem quM:TyOk Try.prog 166 (Ty.kd (.sl (.int .u64))) 24:=⟨⟨Try.t166,_,Try.type166,rfl,rfl,rfl,rfl,rfl⟩,⟨_,Try.underlying166,rfl⟩⟩
theorem quN:TyOk Try.prog 175 (Ty.kd (.sl (.int .i64))) 24:=⟨⟨Try.t175,_,Try.type175,rfl,rfl,rfl,rfl,rfl⟩,⟨_,Try.underlying175,rfl⟩⟩
theorem quO:TyOk Try.prog 180 (Ty.kd (.int .u64)) 8:=⟨⟨Try.t180,_,Try.type180,rfl,rfl,rfl,rfl,rfl⟩,⟨_,Try.underlying180,rfl⟩⟩
theorem quP:TyOk Try.prog 182 (Ty.kd (.hpt)) 8:=⟨⟨Try.t182,_,Try.type182,rfl,rfl,rfl,rfl,rfl⟩,⟨_,Try.underlying182,rfl⟩⟩
theorem qtF:TyOk Try.prog 182 (Ty.kd (.ptr (.pr (.sl (.pr (.arr 32 .byte) (.sl .byte))) .anm))) 8:=⟨⟨Try.t182,_,Try.type182,rfl,rfl,rfl,rfl,rfl⟩,⟨_,Try.underlying182,rfl⟩⟩
theorem quQ:TyOk Try.prog 186 (Ty.kd (.hpt)) 8:=⟨⟨Try.t186,_,Try.type186,rfl,rfl,rfl,rfl,rfl⟩,⟨_,Try.underlying186,rfl⟩⟩
theorem qtG:TyOk Try.prog 186 (Ty.kd (.ptr (.pr (.arr 8 (.int .u32)) (.pr (.int .u64) (.sl .byte))))) 8:=⟨⟨Try.t186,_,Try.type186,rfl,rfl,rfl,rfl,rfl⟩,⟨_,Try.underlying186,rfl⟩⟩
theorem quR:TyOk Try.prog 189 (Ty.kd (.int .u32)) 4:=⟨⟨Try.t189,_,Try.type189,rfl,rfl,rfl,rfl,rfl⟩,⟨_,Try.underlying189,rfl⟩⟩
theorem quS:TyOk Try.prog 190 (Ty.kd (.sl (.int .u32))) 24:=⟨⟨Try.t190,_,Try.type190,rfl,rfl,rfl,rfl,rfl⟩,⟨_,Try.underlying190,rfl⟩⟩
theorem quT:TyOk Try.prog 198 (Ty.kd (.arr 8 (.int .u32))) 32:=⟨⟨Try.t198,_,Try.type198,rfl,rfl,rfl,rfl,rfl⟩,⟨_,Try.underlying198,rfl⟩⟩
theorem quU:TyOk Try.prog 199 (Ty.kd (.arr 8 (.int .u32))) 32:=⟨⟨Try.t199,_,Try.type199,rfl,rfl,rfl,rfl,rfl⟩,⟨_,Try.underlying199,rfl⟩⟩
theorem quV:TyOk Try.prog 200 (Ty.kd (.pr (.arr 8 (.int .u32)) (.pr (.int .u64) (.sl .byte)))) 64:=⟨⟨Try.t200,_,Try.type200,rfl,rfl,rfl,rfl,rfl⟩,⟨_,Try.underlying200,rfl⟩⟩
theorem quW:TyOk Try.prog 201 (Ty.kd (.pr (.arr 8 (.int .u32)) (.pr (.int .u64) (.sl .byte)))) 64:=⟨⟨Try.t201,_,Try.type201,rfl,rfl,rfl,rfl,rfl⟩,⟨_,Try.underlying201,rfl⟩⟩
theorem quX:TyOk Try.prog 212 (Ty.kd (.hpt)) 8:=⟨⟨Try.t212,_,Try.type212,rfl,rfl,rfl,rfl,rfl⟩,⟨_,Try.underlying212,rfl⟩⟩
theorem qtH:TyOk Try.prog 212 (Ty.kd (.ptr (.arr 8 (.int .u32)))) 8:=⟨⟨Try.t212,_,Try.type212,rfl,rfl,rfl,rfl,rfl⟩,⟨_,Try.underlying212,rfl⟩⟩
theorem quY:TyOk Try.prog 213 (Ty.kd (.arr 64 (.int .u32))) 256:=⟨⟨Try.t213,_,Try.type213,rfl,rfl,rfl,rfl,rfl⟩,⟨_,Try.underlying213,rfl⟩⟩
theorem quZ:TyOk Try.prog 225 (Ty.kd (.hpt)) 8:=⟨⟨Try.t225,_,Try.type225,rfl,rfl,rfl,rfl,rfl⟩,⟨_,Try.underlying225,rfl⟩⟩
theorem qtI:TyOk Try.prog 225 (Ty.kd (.ptr (.int .u8))) 8:=⟨⟨Try.t225,_,Try.type225,rfl,rfl,rfl,rfl,rfl⟩,⟨_,Try.underlying225,rfl⟩⟩
theorem qu6:TyOk Try.prog 61 (Ty.kd (.hsl 82 (.pr (.int .i64) (.pr (.pr (.sl .byte) (.sl .byte)) (.sl (.arr 32 .byte)))))) 24:=⟨⟨Try.t61,_,Try.type61,rfl,rfl,rfl,rfl,rfl⟩,⟨_,Try.underlying61,rfl⟩⟩
theorem qu7:TyOk Try.prog 63 (Ty.kd (.pr (.int .i64) (.hsl 82 (.pr (.int .i64) (.pr (.pr (.sl .byte) (.sl .byte)) (.sl (.arr 32 .byte))))))) 32:=⟨⟨Try.t63,_,Try.type63,rfl,rfl,rfl,rfl,rfl⟩,⟨_,Try.underlying63,rfl⟩⟩
theorem qu8:TyOk Try.prog 80 (Ty.kd (.hsl 24 (.arr 32 .byte))) 24:=⟨⟨Try.t80,_,Try.type80,rfl,rfl,rfl,rfl,rfl⟩,⟨_,Try.underlying80,rfl⟩⟩
theorem qu9:TyOk Try.prog 82 (Ty.kd (.pr (.int .i64) (.pr (.pr (.sl .byte) (.sl .byte)) (.hsl 24 (.arr 32 .byte))))) 80:=⟨⟨Try.t82,_,Try.type82,rfl,rfl,rfl,rfl,rfl⟩,⟨_,Try.underlying82,rfl⟩⟩
theorem qtE:TyOk Try.prog 175 (Ty.kd (.hsl 3 (.int .i64))) 24:=⟨⟨Try.t175,_,Try.type175,rfl,rfl,rfl,rfl,rfl⟩,⟨_,Try.underlying175,rfl⟩⟩
def tab:List (Nat×Bool×Ty×Nat):=[(2,false,.int .i64,8),(3,false,.int .i64,8),(4,false,.bool,1),(5,false,.int .u8,1),(5,true,.byte,1),(9,false,.str,16),(12,false,.int .u64,8),(13,false,.pr .str (.int .u64),24),(21,false,.int .i32,4),(22,false,.sl .str,24),(23,false,.int .u64,8),(24,false,.arr 32 .byte,32),(25,false,.pr (.int .u64) (.pr (.arr 32 .byte) (.pr (.arr 32 .byte) (.pr (.arr 32 .byte) (.pr (.arr 32 .byte) (.arr 32 .byte))))),168),(26,false,.pr (.int .u64) (.pr (.arr 32 .byte) (.pr (.arr 32 .byte) (.pr (.arr 32 .byte) (.pr (.arr 32 .byte) (.arr 32 .byte))))),168),(27,false,.pr (.arr 32 .byte) (.pr (.arr 32 .byte) (.arr 32 .byte)),96),(28,false,.pr (.arr 32 .byte) (.pr (.arr 32 .byte) (.arr 32 .byte)),96),(32,false,.sl .byte,24),(35,false,.hpt,8),(35,true,.ptr (.pr (.pr (.sl (.pr (.arr 32 .byte) (.sl .byte))) .anm) (.int .i64)),8),(36,false,.sl (.pr (.arr 32 .byte) (.sl .byte)),24),(38,false,.pr (.sl (.pr (.arr 32 .byte) (.sl .byte))) (.hmp (.arr 32 .byte) (.int .i64)),32),(38,true,.pr (.sl (.pr (.arr 32 .byte) (.sl .byte))) .anm,32),(39,false,.pr (.hsl 146 (.pr (.arr 32 .byte) (.sl .byte))) (.hmp (.arr 32 .byte) (.int .i64)),32),(39,true,.pr (.sl (.pr (.arr 32 .byte) (.sl .byte))) .anm,32),(40,false,.pr (.pr (.hsl 146 (.pr (.arr 32 .byte) (.sl .byte))) (.hmp (.arr 32 .byte) (.int .i64))) (.int .i64),40),(40,true,.pr (.pr (.sl (.pr (.arr 32 .byte) (.sl .byte))) .anm) (.int .i64),40),(41,false,.pr (.pr (.hsl 146 (.pr (.arr 32 .byte) (.sl .byte))) (.hmp (.arr 32 .byte) (.int .i64))) (.int .i64),40),(41,true,.pr (.pr (.sl (.pr (.arr 32 .byte) (.sl .byte))) .anm) (.int .i64),40),(46,false,.hpt,8),(46,true,.ptr (.st (.pr (.sl .byte) .bool)),8),(49,false,.int .i64,8),(53,false,.sl (.pr (.sl .byte) (.sl .byte)),24),(56,false,.pr (.sl .byte) (.sl .byte),48),(57,false,.pr (.sl .byte) (.sl .byte),48),(61,false,.sl (.pr (.int .i64) (.pr (.pr (.sl .byte) (.sl .byte)) (.sl (.arr 32 .byte)))),24),(62,false,.pr (.int .i64) (.sl (.pr (.int .i64) (.pr (.pr (.sl .byte) (.sl .byte)) (.sl (.arr 32 .byte))))),32),(63,false,.pr (.int .i64) (.sl (.pr (.int .i64) (.pr (.pr (.sl .byte) (.sl .byte)) (.sl (.arr 32 .byte))))),32),(80,false,.sl (.arr 32 .byte),24),(81,false,.pr (.int .i64) (.pr (.pr (.sl .byte) (.sl .byte)) (.sl (.arr 32 .byte))),80),(82,false,.pr (.int .i64) (.pr (.pr (.sl .byte) (.sl .byte)) (.sl (.arr 32 .byte))),80),(89,false,.sl (.pr (.int .i64) (.pr (.int .i64) (.pr (.sl (.sl .byte)) (.pr (.arr 32 .byte) (.sl .byte))))),24),(91,false,.hpt,8),(91,true,.ptr (.pr (.sl (.pr (.arr 32 .byte) .str)) (.int .i64)),8),(92,false,.sl (.pr (.arr 32 .byte) .str),24),(93,false,.pr (.sl (.pr (.arr 32 .byte) .str)) (.int .i64),32),(94,false,.pr (.sl (.pr (.arr 32 .byte) .str)) (.int .i64),32),(96,false,.sl (.sl .byte),24),(97,false,.pr (.int .i64) (.pr (.int .i64) (.pr (.sl (.sl .byte)) (.pr (.arr 32 .byte) (.sl .byte)))),96),(98,false,.pr (.int .i64) (.pr (.int .i64) (.pr (.sl (.sl .byte)) (.pr (.arr 32 .byte) (.sl .byte)))),96),(107,false,.sl (.ptr (.pr (.pr (.sl (.pr (.arr 32 .byte) (.sl .byte))) .anm) (.int .i64))),24),(115,false,.hpt,8),(115,true,.ptr (.arr 32 .byte),8),(116,false,.arr 5 (.ptr (.arr 32 .byte)),40),(118,false,.hpt,8),(118,true,.ptr (.pr (.int .u64) (.pr (.arr 32 .byte) (.pr (.arr 32 .byte) (.pr (.arr 32 .byte) (.pr (.arr 32 .byte) (.arr 32 .byte)))))),8),(121,false,.pr (.pr (.int .u64) (.pr (.arr 32 .byte) (.pr (.arr 32 .byte) (.pr (.arr 32 .byte) (.pr (.arr 32 .byte) (.arr 32 .byte)))))) (.arr 32 .byte),200),(122,false,.pr (.pr (.int .u64) (.pr (.arr 32 .byte) (.pr (.arr 32 .byte) (.pr (.arr 32 .byte) (.pr (.arr 32 .byte) (.arr 32 .byte)))))) (.arr 32 .byte),200),(124,false,.pr (.sl .byte) .bool,32),(125,false,.pr (.sl .byte) .bool,32),(126,false,.st (.pr (.sl .byte) .bool),32),(127,false,.st (.pr (.sl .byte) .bool),32),(130,false,.hpt,8),(130,true,.ptr (.pr (.sl .byte) .bool),8),(145,false,.pr (.arr 32 .byte) (.sl .byte),56),(146,false,.pr (.arr 32 .byte) (.sl .byte),56),(161,false,.pr (.arr 32 .byte) .str,48),(162,false,.pr (.arr 32 .byte) .str,48),(166,false,.sl (.int .u64),24),(175,false,.sl (.int .i64),24),(180,false,.int .u64,8),(182,false,.hpt,8),(182,true,.ptr (.pr (.sl (.pr (.arr 32 .byte) (.sl .byte))) .anm),8),(186,false,.hpt,8),(186,true,.ptr (.pr (.arr 8 (.int .u32)) (.pr (.int .u64) (.sl .byte))),8),(189,false,.int .u32,4),(190,false,.sl (.int .u32),24),(198,false,.arr 8 (.int .u32),32),(199,false,.arr 8 (.int .u32),32),(200,false,.pr (.arr 8 (.int .u32)) (.pr (.int .u64) (.sl .byte)),64),(201,false,.pr (.arr 8 (.int .u32)) (.pr (.int .u64) (.sl .byte)),64),(212,false,.hpt,8),(212,true,.ptr (.arr 8 (.int .u32)),8),(213,false,.arr 64 (.int .u32),256),(225,false,.hpt,8),(225,true,.ptr (.int .u8),8),(61,false,.hsl 82 (.pr (.int .i64) (.pr (.pr (.sl .byte) (.sl .byte)) (.sl (.arr 32 .byte)))),24),(63,false,.pr (.int .i64) (.hsl 82 (.pr (.int .i64) (.pr (.pr (.sl .byte) (.sl .byte)) (.sl (.arr 32 .byte))))),32),(80,false,.hsl 24 (.arr 32 .byte),24),(82,false,.pr (.int .i64) (.pr (.pr (.sl .byte) (.sl .byte)) (.hsl 24 (.arr 32 .byte))),80),(175,false,.hsl 3 (.int .i64),24)]
theorem qtz:qmo Try.prog tab:=⟨tt2,tt3,tt4,tt5,tt5b,tt9,tt12,tt13,tt21,tt22,tt23,tt24,tt25,tt26,tt27,tt28,tt32,tt35,qu0,tt36,tt38,qu1,tt39,qu2,tt40,qu3,tt41,qu4,tt46,qu5,tt49,tt53,tt56,tt57,tt61,tt62,tt63,tt80,tt81,tt82,tt89,tt91,qva,tt92,tt93,tt94,tt96,tt97,tt98,qux,quy,qtB,quz,quA,qtC,quB,quC,quD,quE,quF,quG,quH,qtD,quI,quJ,quK,quL,quM,quN,quO,quP,qtF,quQ,qtG,quR,quS,quT,quU,quV,quW,quX,qtH,quY,quZ,qtI,qu6,qu7,qu8,qu9,qtE,trivial⟩
def eqs:List (Nat×Ty×Nat):=[(24,.arr 32 .byte,2),(26,.pr (.int .u64) (.pr (.arr 32 .byte) (.pr (.arr 32 .byte) (.pr (.arr 32 .byte) (.pr (.arr 32 .byte) (.arr 32 .byte))))),3),(28,.pr (.arr 32 .byte) (.pr (.arr 32 .byte) (.arr 32 .byte)),3),(122,.pr (.pr (.int .u64) (.pr (.arr 32 .byte) (.pr (.arr 32 .byte) (.pr (.arr 32 .byte) (.pr (.arr 32 .byte) (.arr 32 .byte)))))) (.arr 32 .byte),4)]
theorem qup:EqT Try.prog 24 (.arr 32 .byte) 2:=(qbt Try.underlying24 Try.underlying5 (tt5b))
theorem quq:EqT Try.prog 26 (.pr (.int .u64) (.pr (.arr 32 .byte) (.pr (.arr 32 .byte) (.pr (.arr 32 .byte) (.pr (.arr 32 .byte) (.arr 32 .byte)))))) 3:=(qdn Try.underlying26 (by kernel_rfl) rfl (qa2 (tt23) rfl (by decide) (EqT.more (m':=2) (qm4 Try.underlying23) rfl) (qa2 (tt24) rfl (by decide) (EqT.more (m':=2) (qbt Try.underlying24 Try.underlying5 (tt5b)) rfl) (qa2 (tt24) rfl (by decide) (EqT.more (m':=2) (qbt Try.underlying24 Try.underlying5 (tt5b)) rfl) (qa2 (tt24) rfl (by decide) (EqT.more (m':=2) (qbt Try.underlying24 Try.underlying5 (tt5b)) rfl) (qa2 (tt24) rfl (by decide) (EqT.more (m':=2) (qbt Try.underlying24 Try.underlying5 (tt5b)) rfl) (qe7 (tt24) rfl (by decide) (EqT.more (m':=2) (qbt Try.underlying24 Try.underlying5 (tt5b)) rfl))))))))
theorem qur:EqT Try.prog 28 (.pr (.arr 32 .byte) (.pr (.arr 32 .byte) (.arr 32 .byte))) 3:=(qdn Try.underlying28 (by kernel_rfl) rfl (qa2 (tt24) rfl (by decide) (EqT.more (m':=2) (qbt Try.underlying24 Try.underlying5 (tt5b)) rfl) (qa2 (tt24) rfl (by decide) (EqT.more (m':=2) (qbt Try.underlying24 Try.underlying5 (tt5b)) rfl) (qe7 (tt24) rfl (by decide) (EqT.more (m':=2) (qbt Try.underlying24 Try.underlying5 (tt5b)) rfl)))))
theorem qtl:EqT Try.prog 122 (.pr (.pr (.int .u64) (.pr (.arr 32 .byte) (.pr (.arr 32 .byte) (.pr (.arr 32 .byte) (.pr (.arr 32 .byte) (.arr 32 .byte)))))) (.arr 32 .byte)) 4:=(qdn Try.underlying122 (by kernel_rfl) rfl (qa2 (tt26) rfl (by decide) (EqT.more (m':=3) (qdn Try.underlying26 (by kernel_rfl) rfl (qa2 (tt23) rfl (by decide) (EqT.more (m':=2) (qm4 Try.underlying23) rfl) (qa2 (tt24) rfl (by decide) (EqT.more (m':=2) (qbt Try.underlying24 Try.underlying5 (tt5b)) rfl) (qa2 (tt24) rfl (by decide) (EqT.more (m':=2) (qbt Try.underlying24 Try.underlying5 (tt5b)) rfl) (qa2 (tt24) rfl (by decide) (EqT.more (m':=2) (qbt Try.underlying24 Try.underlying5 (tt5b)) rfl) (qa2 (tt24) rfl (by decide) (EqT.more (m':=2) (qbt Try.underlying24 Try.underlying5 (tt5b)) rfl) (qe7 (tt24) rfl (by decide) (EqT.more (m':=2) (qbt Try.underlying24 Try.underlying5 (tt5b)) rfl)))))))) rfl) (qe7 (tt24) rfl (by decide) (EqT.more (m':=3) (qbt Try.underlying24 Try.underlying5 (tt5b)) rfl))))
theorem qtm:qlK Try.prog eqs:=⟨qup,quq,qur,qtl,trivial⟩
def fns:List Nat:=[2,3,4,5,6,7,8,9,10,11,12,13,14,15,16,17,18,19,20,21,22,23,24,25,26,27,28,29,30,31,32,33,34,35,36,37,38,39,40,41,42,43,44,45,46,47,48,49,50,51,52,53,54,55,56,57,58,59,60,61,62,63,64,65,66,67,68,69,70,71,72,73,74,75,76,77,78,79,80,81,82,83,84,85,86,87,88,89,90,91,92,93,94,95,96,97,98,99,100,101,102,103,104,105,106,107,108,109,110,111,112,113,115,116,117,118,119,120,121,122,123,124,125,126,127,128,129,130,131,132,133,134,135,136,137,138,139,140,141,142,143,144,145,146,147,148]
theorem qaC:qkR Try.prog fns:=⟨Try.call2,Try.call3,Try.call4,Try.call5,Try.call6,Try.call7,Try.call8,Try.call9,Try.call10,Try.call11,Try.call12,Try.call13,Try.call14,Try.call15,Try.call16,Try.call17,Try.call18,Try.call19,Try.call20,Try.call21,Try.call22,Try.call23,Try.call24,Try.call25,Try.call26,Try.call27,Try.call28,Try.call29,Try.call30,Try.call31,Try.call32,Try.call33,Try.call34,Try.call35,Try.call36,Try.call37,Try.call38,Try.call39,Try.call40,Try.call41,Try.call42,Try.call43,Try.call44,Try.call45,Try.call46,Try.call47,Try.call48,Try.call49,Try.call50,Try.call51,Try.call52,Try.call53,Try.call54,Try.call55,Try.call56,Try.call57,Try.call58,Try.call59,Try.call60,Try.call61,Try.call62,Try.call63,Try.call64,Try.call65,Try.call66,Try.call67,Try.call68,Try.call69,Try.call70,Try.call71,Try.call72,Try.call73,Try.call74,Try.call75,Try.call76,Try.call77,Try.call78,Try.call79,Try.call80,Try.call81,Try.call82,Try.call83,Try.call84,Try.call85,Try.call86,Try.call87,Try.call88,Try.call89,Try.call90,Try.call91,Try.call92,Try.call93,Try.call94,Try.call95,Try.call96,Try.call97,Try.call98,Try.call99,Try.call100,Try.call101,Try.call102,Try.call103,Try.call104,Try.call105,Try.call106,Try.call107,Try.call108,Try.call109,Try.call110,Try.call111,Try.call112,Try.call113,Try.call115,Try.call116,Try.call117,Try.call118,Try.call119,Try.call120,Try.call121,Try.call122,Try.call123,Try.call124,Try.call125,Try.call126,Try.call127,Try.call128,Try.call129,Try.call130,Try.call131,Try.call132,Try.call133,Try.call134,Try.call135,Try.call136,Try.call137,Try.call138,Try.call139,Try.call140,Try.call141,Try.call142,Try.call143,Try.call144,Try.call145,Try.call146,Try.call147,Try.call148,trivial⟩
noncomputable def seat:Seat:=⟨Try.prog,tab,eqs,[]⟩
theorem qas:seat.ok:=⟨qtz.all,qtm.all⟩
def bkT:Bk:=⟨41,146,40⟩
theorem qaA:TyOk Try.prog bkT.t qd7 bkT.bytes:=⟨⟨Try.t41,_,Try.type41,rfl,rfl,rfl,rfl,rfl⟩,⟨_,Try.underlying41,rfl⟩⟩
end Go.Proofs.Ytmjjkpiglbpkhaa

set_option linter.unusedVariables false
namespace Go.Inc
open Go
def qaT (l:List (List UInt8)):List UInt8:=hSum (qat ((List.replicate 8 0),0,[]) l)
def qaj (k:Int) (l:List (List UInt8)):List UInt8:=qaT [preimage k l]
def qaH (x:qav) (k:Int) (l:List (List UInt8)):qav:=x.map fun y=>(addL y.1 (qaj k l) (preimage k l),IntKind.i64.wrap (y.2+1))
def qam (x:qav) (s b:List UInt8):qav:=x.map fun y=>(addL y.1 s b,y.2)
def qaZ (x:qav):Prop:=∀y,x=some y→(y.1.length+1) *64≤140737488355328
def qbr (x:qav):Int:=match x with | some y=>y.2 | none=>0
def qaU (x:qav):Prop:=∀y,x=some y→y.1.length *24≤140737488355328∧∀z∈y.1,z.2.length≤140737488355328
def qby (x:qav) (s:List UInt8):List UInt8:=match x with | some y=>qa3 y.1 s | none=> []
def qcE (x:qav) (s:List UInt8):Bool:=match x with | some y=>(qan s y.1 0).isSome | none=>false
def qeq (x:qav):List (List UInt8):=match x with | some y=>y.1.map Prod.snd | none=> []
def qaM:List Nt→List Nt→List UInt8×List UInt8×Bool
 | _,[]=>([],[],false)
 | all,x::l=>match qan x.1 all 0 with
   | some a=>if (ix all a).2=x.2 then qaM (addL all x.1 x.2) l else ((ix all a).2,x.2,true)
   | none=>qaM (addL all x.1 x.2) l
abbrev qlB:=Option ((List Nt×Unit)×Int)
def qaX (l:List qlB):List Nt:=l.flatMap fun o=>match o with | some y=>y.1.1 | none=> []
def qaK (l:List qlB):List UInt8×List UInt8×Bool:=qaM [] (qaX l)
def qcF (l:List qlB):Prop:=((qaX l).length+1) *64≤140737488355328∧∀z∈qaX l,z.2.length≤140737488355328
theorem qo7 (s:List Int) (n:Int) (r:List UInt8):(eat s n r).2.2.length<64:=by
 induction h:r.length using Nat.strongRecOn generalizing s n r with
 | _ m ih=>
   rw [eat]
   split
   ·exact ih _ (by rw [List.length_drop];omega) _ _ _ rfl
   ·show r.length<64
    omega
theorem qkF (x:List Int): ∀n,(sumN x n).length=32∨8<n
 | 0=>by simp [sumN]
 | n+1=>by
   rcases qkF x n with h | h
   ·rcases Nat.lt_or_ge n 8 with h8 | h8
    ·left
     simp only [sumN,List.length_append,List.length_take,List.length_drop,h,qa1]
     omega
    ·exact .inr (by omega)
   ·exact .inr (by omega)
theorem qll (l:List (List UInt8)):(qaT l).length=32:=by
 rcases qkF (qat (qat (List.replicate 8 0,0,[]) l) (qhB (qat (List.replicate 8 0,0,[]) l))).1 8 with h | h
 ·exact h
 ·omega
theorem qks {l:List (List UInt8)} {x:List UInt8} (h:x∈l):x.length≤qah l:=by
 induction l with
 | nil=>cases h
 | cons y l ih=>
   simp only [qah,List.map_cons,List.sum_cons] at *
   rcases List.mem_cons.1 h with rfl | h
   ·omega
   ·have:=ih h
    omega
theorem qbw (k:Int) {l:List (List UInt8)} (h:1+qah l≤140737488355328):(preimage k l).length≤1+qah l:=by
 have:=qbq l (fun x hx=>by have:=qks hx;omega)
 simp only [preimage,List.length_cons]
 omega
theorem qa7 {s:List UInt8}: ∀ {l:List Nt} {l':List Nt} {i:Int},qan s (l++l') i=(qan s l i).or (qan s l' (i+(l.length:Int)))
 | [],l',i=>by simp [qan]
 | x::l,l',i=>by
   simp only [List.cons_append,qan]
   by_cases h:s=x.1
   ·simp [h]
   ·rw [if_neg h,if_neg h,qa7]
    congr 2
    simp only [List.length_cons]
    omega
theorem qgC {s t:List UInt8} {a:Int}: ∀(m:List (List UInt8×Int)),mfind t (mset s a m)=if t=s then some a else mfind t m
 | []=>by simp [mset,mfind]
 | (b,c)::m=>by
   by_cases h:s=b
   ·subst h
    by_cases h2:t=s<;>simp [mset,mfind,h2]
   ·simp only [mset,if_neg h,mfind,qgC m]
    by_cases h2:t=b
    ·subst h2
     simp [Ne.symm h]
    ·simp [h2]
theorem qmt {l:List Nt} {m:List (List UInt8×Int)} (h:qaW l m) (s b:List UInt8):qaW (addL l s b) (addM l m s b):=by
 intro t
 unfold addL addM
 by_cases hm:(s,b)∈l
 ·rw [if_pos hm,if_pos hm];exact h t
 ·rw [if_neg hm,if_neg hm,qa7]
  have hs:=h s
  by_cases hf:(mfind s m).isSome=true
  ·rw [if_pos hf,h t]
   cases ht:qan t l 0 with
   | some a=>rfl
   | none=>
     have hne: ¬(t=s):=fun e=>by
      subst e
      rw [hs,ht] at hf
      cases hf
     simp [qan,hne]
  ·rw [if_neg hf,qgC,h t]
   have hn:qan s l 0=none:=by
    rw [hs] at hf
    simpa using hf
   by_cases e:t=s
   ·subst e
    simp [hn,qan]
   ·cases ht:qan t l 0<;>simp [e,qan]
theorem qdO (l:List qlB) (j:Nat):qaX l=qaX (l.take j)++qaX (l.drop j):=by
 unfold qaX
 rw [←List.flatMap_append,List.take_append_drop]
theorem qfU {l:List qlB} {j:Nat} (h:(j:Int)<(l.length:Int)):qaX (l.drop j)=(match ix l (j:Int) with | some y=>y.1.1 | none=> [])++qaX (l.drop (j+1)):=by
 have hj:j<l.length:=by omega
 rw [List.drop_eq_getElem_cons hj,qaR (by simpa using hj)]
 rfl
theorem qjm {α:Type} [Inhabited α] {l:List α} {i:Int} (h0:0≤i) (h:i<(l.length:Int)):ix l i∈l:=by
 rw [qaR (by omega)]
 exact List.getElem_mem _
theorem qg9 (l:List Nt) (s b:List UInt8):(addL l s b).length≤l.length+1:=by
 unfold addL
 split<;>simp
theorem qe2 {l:List Nt} {s b:List UInt8} {z:Nt} (h:z∈addL l s b):z∈l∨z=(s,b):=by
 unfold addL at h
 split at h
 ·exact .inl h
 ·simpa using h
theorem qex {s:List UInt8} {l:List Nt} {a:Int} (h:qan s l 0=some a):0≤a∧a<(l.length:Int):=by
 obtain ⟨j,rfl,hl,_⟩:=qcd h
 omega
theorem qdJ (all:List Nt) (x:Nt) (l:List Nt):qaM all (x::l)=if (qan x.1 all 0).isSome=true∧¬((ix all ((qan x.1 all 0).getD 0)).2=x.2) then ((ix all ((qan x.1 all 0).getD 0)).2,x.2,true) else qaM (addL all x.1 x.2) l:=by
 rw [qaM]
 cases h:qan x.1 all 0 with
 | none=>simp
 | some a=>
   by_cases h2:(ix all a).2=x.2<;>simp [h2]
def numF (n:Nat):List UInt8:=UInt8.ofNat ((qdI.blenF 64 n+7)/8)::be n ((qdI.blenF 64 n+7)/8)
theorem qrE {n:Nat} (h:n<2^64):numB n=numF n:=by simp only [numB,numF,qe6 64 n h]
def qoU (l:List (List UInt8)):List UInt8:=l.flatMap fun x=>numF x.length++x
theorem qoV {l:List (List UInt8)} (h: ∀x∈l,x.length<2^64):qaP l=qoU l:=by
 induction l with
 | nil=>rfl
 | cons x l ih=>
   have h1:qaP (x::l)=(numB x.length++x)++qaP l:=rfl
   have h2:qoU (x::l)=(numF x.length++x)++qoU l:=rfl
   rw [h1,h2,qrE (h x (by simp)),ih (fun y hy=>h y (by simp [hy]))]
def qin (k:Int) (l:List (List UInt8)):List UInt8:=toB (IntKind.u8.wrap k)::qoU l
theorem qeR (k:Int) {l:List (List UInt8)} (h: ∀x∈l,x.length<2^64):preimage k l=qin k l:=by simp only [preimage,qin,qoV h]
end Go.Inc

set_option linter.unusedVariables false
namespace Go.Inc
open Go
theorem qrA (n:Nat):n<2^blen n:=by
 induction n using Nat.strongRecOn with
 | _ n ih=>
   rcases Nat.eq_zero_or_pos n with rfl | h
   ·rw [qfD];simp
   ·rw [qhb h,Nat.pow_succ]
    have:=ih (n/2) (by omega)
    omega
theorem qlj {l:List Act} (h:light l) {a:Act} (ha:a∈l):qah a.2.2.1≤60000+9 *500∧a.2.2.2.2.length≤60000:=by
 have h1:=h.2.1 a ha
 have h2:=h.2.2
 have h3:a.2.2.2.2.length+qbl a.2.2.1≤qbH l:=by
  unfold qbH
  induction l with
  | nil=>cases ha
  | cons b l ih=>
    simp only [List.map_cons,List.sum_cons]
    rcases List.mem_cons.1 ha with rfl | ha
    ·omega
    ·have:=ih ⟨by have:=h.1;simp at this;omega,fun x hx=>h.2.1 x (by simp [hx]),by have:=h.2.2;simp only [qbH,List.map_cons,List.sum_cons] at this⊢;omega⟩ ha (by simp only [qbH,List.map_cons,List.sum_cons] at h2⊢;omega)
     omega
 have h4: ∀p:List (List UInt8),qah p=qbl p+9 *p.length:=by
  intro p
  induction p with
  | nil=>rfl
  | cons x p ih=>
    simp only [qah,qbl,List.map_cons,List.sum_cons,List.length_cons] at *
    omega
 rw [h4]
 omega
end Go.Inc

set_option linter.unusedVariables false
namespace Go.Inc
open Go
abbrev b32 (a:Int):BitVec 32:=BitVec.ofInt 32 a
theorem wr32 (a:Int):IntKind.u32.wrap a=a%4294967296:=by
 show _=a%4294967296
 unfold IntKind.wrap
 simp [IntKind.signed,IntKind.bits]
theorem qa8 {n:Nat} (h:n<4294967296):IntKind.u32.wrap (n:Int)=(n:Int):=by
 rw [wr32];omega
theorem qoX (a b:Int):bor .u32 a b=((b32 a ||| b32 b).toNat:Int):=by
 show IntKind.u32.wrap (((b32 a ||| b32 b).toNat:Nat):Int)=_
 rw [qa8 (b32 a ||| b32 b).isLt]
theorem qmK (a b:Int):bxor .u32 a b=((b32 a^^^b32 b).toNat:Int):=by
 show IntKind.u32.wrap (((b32 a^^^b32 b).toNat:Nat):Int)=_
 rw [qa8 (b32 a^^^b32 b).isLt]
theorem qqb (a b:Int):band .u32 a b=((b32 a &&& b32 b).toNat:Int):=by
 show IntKind.u32.wrap (((b32 a &&& b32 b).toNat:Nat):Int)=_
 rw [qa8 (b32 a &&& b32 b).isLt]
theorem qmA (x:BitVec 32):b32 ((x.toNat:Nat):Int)=x:=by
 apply BitVec.eq_of_toNat_eq
 rw [BitVec.toNat_ofInt]
 have:=x.isLt
 omega
theorem wf32 {a:Int} (h:(Kd.int .u32).wf a):0≤a∧a<4294967296:=by
 have h1:0≤a:=h.1
 have h2:a≤4294967295:=h.2
 omega
theorem qcY {a:Int} (h:0≤a∧a<4294967296):(b32 a).toNat=a.toNat:=by
 rw [BitVec.toNat_ofInt]
 omega
theorem qhZ {a:Int} (h:0≤a∧a<4294967296):bxor .u32 0 a=a:=by
 rw [qmK]
 have:b32 0=0#32:=by decide
 rw [this,BitVec.zero_xor,qcY h]
 omega
theorem qtq (a b c:Int):bor .u32 (bor .u32 (band .u32 a b) (band .u32 a c)) (band .u32 b c)=bxor .u32 (bxor .u32 (band .u32 a b) (band .u32 a c)) (band .u32 b c):=by
 simp only [qoX,qmK,qqb,qmA]
 congr 2
 apply BitVec.eq_of_getLsbD_eq
 intro i hi
 simp only [BitVec.getLsbD_or,BitVec.getLsbD_xor,BitVec.getLsbD_and]
 cases (b32 a).getLsbD i<;>cases (b32 b).getLsbD i<;>cases (b32 c).getLsbD i<;>rfl
theorem qun (a b c:Int):bor .u32 (band .u32 a b) (band .u32 (bxor .u32 4294967295 a) c)=bxor .u32 (band .u32 a b) (band .u32 (bxor .u32 4294967295 a) c):=by
 simp only [qoX,qmK,qqb,qmA]
 congr 2
 have e:b32 4294967295=BitVec.allOnes 32:=by decide
 rw [e]
 apply BitVec.eq_of_getLsbD_eq
 intro i hi
 simp only [BitVec.getLsbD_or,BitVec.getLsbD_xor,BitVec.getLsbD_and,BitVec.getLsbD_allOnes,hi,decide_true]
 cases (b32 a).getLsbD i<;>cases (b32 b).getLsbD i<;>cases (b32 c).getLsbD i<;>rfl
def qar (x n:Int):Int:=IntKind.u32.wrap (IntKind.u32.wrap (Int.tdiv x (2^n.toNat:Int))+IntKind.u32.wrap (Int.tmod x (2^n.toNat:Int) *(2^(32 - n).toNat:Int)))
theorem qim (X n m:Nat) (hX:X<4294967296) (hnm:n+m=32):X/2^n<2^m∧X%2^n *2^m+2^m≤4294967296∧X/2^n≤X∧X%2^n *2^m=X *2^m%4294967296:=by
 have hp:(2:Nat)^n *2^m=4294967296:=by rw [←Nat.pow_add,hnm]
 have h1:X/2^n<2^m:=by
  rw [Nat.div_lt_iff_lt_mul (Nat.two_pow_pos n),Nat.mul_comm,hp];exact hX
 have h2:(X%2^n+1) *2^m≤2^n *2^m:=Nat.mul_le_mul_right _ (Nat.mod_lt _ (Nat.two_pow_pos n))
 rw [hp,Nat.add_mul,Nat.one_mul] at h2
 exact ⟨h1,h2,Nat.div_le_self _ _,by rw [←hp,Nat.mul_mod_mul_right]⟩
theorem qnZ (X n m:Nat) (hX:X<4294967296) (hnm:n+m=32):qar (X:Int) (n:Int)=((X/2^n+X%2^n *2^m:Nat):Int):=by
 obtain ⟨h1,h2,h3,_⟩:=qim X n m hX hnm
 have e1:(32 - (n:Int)).toNat=m:=by omega
 unfold qar
 rw [e1,Int.toNat_natCast]
 have c1:((2:Int)^n)=((2^n:Nat):Int):=by simp
 have c2:((2:Int)^m)=((2^m:Nat):Int):=by simp
 rw [c1,c2,←Int.ofNat_tdiv,←Int.ofNat_tmod,←Int.natCast_mul]
 generalize X/2^n=A at *
 generalize X%2^n *2^m=B at *
 rw [qa8 (by omega),qa8 (by omega),←Int.natCast_add,qa8 (by omega)]
theorem qpB (X n m:Nat) (k:Int) (hX:X<4294967296) (hnm:n+m=32) (hb:band .u64 (IntKind.u64.wrap k) 31=(m:Int)) (hw:IntKind.u64.wrap (32 - (m:Int))=(n:Int)):rotl (X:Int) k=((X/2^n+X%2^n *2^m:Nat):Int):=by
 obtain ⟨h1,h2,h3,h4⟩:=qim X n m hX hnm
 unfold rotl
 rw [hb,hw]
 have e1:shl .u32 (X:Int) (m:Int)=((X%2^n *2^m:Nat):Int):=by
  show IntKind.u32.wrap ((X:Int) *2^(min (m:Int).toNat 32))=_
  rw [Int.toNat_natCast,Nat.min_eq_left (by omega),wr32]
  have:(X:Int) *2^m=((X *2^m:Nat):Int):=by simp
  rw [this,h4]
  generalize X *2^m=Z
  omega
 have e2:shr .u32 (X:Int) (n:Int)=((X/2^n:Nat):Int):=by
  show (X:Int).fdiv (2^(min (n:Int).toNat 32))=_
  rw [Int.toNat_natCast,Nat.min_eq_left (by omega)]
  have:((2:Int)^n)=((2^n:Nat):Int):=by simp
  rw [this,Int.fdiv_eq_ediv_of_nonneg _ (Int.natCast_nonneg _)]
  rfl
 rw [e1,e2,qoX]
 have hor:=Nat.shiftLeft_add_eq_or_of_lt h1 (X%2^n)
 rw [Nat.shiftLeft_eq] at hor
 generalize X/2^n=A at *
 generalize X%2^n *2^m=B at *
 have k1:(b32 (B:Int)).toNat=B:=by rw [qcY (by omega)];omega
 have k2:(b32 (A:Int)).toNat=A:=by rw [qcY (by omega)];omega
 rw [BitVec.toNat_or,k1,k2,←hor,Nat.add_comm]
theorem qda {x:Int} (hx:0≤x∧x<4294967296) (n m:Nat) (hnm:n+m=32) (hb:band .u64 (IntKind.u64.wrap (IntKind.i64.wrap (0 - (n:Int)))) 31=(m:Int)) (hw:IntKind.u64.wrap (32 - (m:Int))=(n:Int)):rotl x (IntKind.i64.wrap (0 - (n:Int)))=qar x (n:Int):=by
 obtain ⟨X,rfl⟩:=Int.eq_ofNat_of_zero_le hx.1
 rw [qnZ X n m (by omega) hnm,qpB X n m _ (by omega) hnm hb hw]
theorem qkJ (x n:Int):0≤qar x n∧qar x n<4294967296:=by
 unfold qar
 rw [wr32 (_+_)]
 omega
theorem qqt {x:Int} (hx:0≤x∧x<4294967296) (a b c a' b' c':Nat) (ha:a+a'=32) (hb:b+b'=32) (hc:c+c'=32)
 (h1:band .u64 (IntKind.u64.wrap (IntKind.i64.wrap (0 - (a:Int)))) 31=(a':Int)∧IntKind.u64.wrap (32 - (a':Int))=(a:Int))
 (h2:band .u64 (IntKind.u64.wrap (IntKind.i64.wrap (0 - (b:Int)))) 31=(b':Int)∧IntKind.u64.wrap (32 - (b':Int))=(b:Int))
 (h3:band .u64 (IntKind.u64.wrap (IntKind.i64.wrap (0 - (c:Int)))) 31=(c':Int)∧IntKind.u64.wrap (32 - (c':Int))=(c:Int)):
 qaq x [(a:Int),(b:Int),(c:Int)]=bxor .u32 (bxor .u32 (qar x a) (qar x b)) (qar x c):=by
 simp only [qaq,List.foldl_cons,List.foldl_nil]
 rw [qda hx a a' ha h1.1 h1.2,qda hx b b' hb h2.1 h2.2,qda hx c c' hc h3.1 h3.2,qhZ (qkJ _ _)]
theorem qqs {x:Int} (hx:0≤x∧x<4294967296) (a b a' b':Nat) (ha:a+a'=32) (hb:b+b'=32)
 (h1:band .u64 (IntKind.u64.wrap (IntKind.i64.wrap (0 - (a:Int)))) 31=(a':Int)∧IntKind.u64.wrap (32 - (a':Int))=(a:Int))
 (h2:band .u64 (IntKind.u64.wrap (IntKind.i64.wrap (0 - (b:Int)))) 31=(b':Int)∧IntKind.u64.wrap (32 - (b':Int))=(b:Int)):
 qaq x [(a:Int),(b:Int)]=bxor .u32 (qar x a) (qar x b):=by
 simp only [qaq,List.foldl_cons,List.foldl_nil]
 rw [qda hx a a' ha h1.1 h1.2,qda hx b b' hb h2.1 h2.2,qhZ (qkJ _ _)]
section
variable {x:Int} (hx:0≤x∧x<4294967296)
include hx
theorem qtJ:qaq x [6,11,25]=bxor .u32 (bxor .u32 (qar x 6) (qar x 11)) (qar x 25):=qqt hx 6 11 25 26 21 7 rfl rfl rfl (by decide) (by decide) (by decide)
theorem qtK:qaq x [2,13,22]=bxor .u32 (bxor .u32 (qar x 2) (qar x 13)) (qar x 22):=qqt hx 2 13 22 30 19 10 rfl rfl rfl (by decide) (by decide) (by decide)
theorem qtL:qaq x [7,18]=bxor .u32 (qar x 7) (qar x 18):=qqs hx 7 18 25 14 rfl rfl (by decide) (by decide)
theorem qtM:qaq x [17,19]=bxor .u32 (qar x 17) (qar x 19):=qqs hx 17 19 15 13 rfl rfl (by decide) (by decide)
theorem qkD (n:Nat) (hn:n≤32):shr .u32 x (n:Int)=IntKind.u32.wrap (Int.tdiv x (2^n:Int)):=by
 obtain ⟨X,rfl⟩:=Int.eq_ofNat_of_zero_le hx.1
 show (X:Int).fdiv (2^(min (n:Int).toNat 32))=_
 rw [Int.toNat_natCast,Nat.min_eq_left hn]
 have:((2:Int)^n)=((2^n:Nat):Int):=by simp
 have hle:X/2^n≤X:=Nat.div_le_self _ _
 rw [this,Int.fdiv_eq_ediv_of_nonneg _ (Int.natCast_nonneg _),←Int.ofNat_tdiv]
 show ((X/2^n:Nat):Int)=_
 generalize X/2^n=A at *
 rw [qa8 (by omega)]
end
def accB (b:List UInt8) (i:Int):Nat→Int
 | 0=>0
 | m+1=>256 *accB b i m+bI (ix b (4 *i+(m:Int)))
theorem qk5 (c:UInt8):0≤bI c∧bI c<256:=by
 have:c.toNat<256:=c.toNat_lt
 unfold bI
 omega
theorem qjx (X m:Nat) (h:X *2^m<4294967296) (hm:m≤32):shl .u32 (X:Int) (m:Int)=((X *2^m:Nat):Int):=by
 show IntKind.u32.wrap ((X:Int) *2^(min (m:Int).toNat 32))=_
 rw [Int.toNat_natCast,Nat.min_eq_left hm]
 have:(X:Int) *2^m=((X *2^m:Nat):Int):=by simp
 rw [this,qa8 h]
theorem qi3 (a m c:Nat) (hc:c<2^m) (h:a *2^m+c<4294967296):bor .u32 ((a *2^m:Nat):Int) (c:Int)=((a *2^m+c:Nat):Int):=by
 rw [qoX,BitVec.toNat_or,qcY (by omega),qcY (by omega),Int.toNat_natCast,Int.toNat_natCast]
 congr 1
 have:=Nat.shiftLeft_add_eq_or_of_lt hc a
 rw [Nat.shiftLeft_eq] at this
 exact this.symm
theorem qlv (b:List UInt8) (i:Int):qkM b i=accB b i 4:=by
 have h0:=qk5 (ix b (4 *i))
 have h1:=qk5 (ix b (4 *i+1))
 have h2:=qk5 (ix b (4 *i+2))
 have h3:=qk5 (ix b (4 *i+3))
 have e:accB b i 4=16777216 *bI (ix b (4 *i))+65536 *bI (ix b (4 *i+1))+256 *bI (ix b (4 *i+2))+bI (ix b (4 *i+3)):=by
  simp only [accB]
  have a0:(4 *i+((0:Nat):Int))=4 *i:=by omega
  have a1:(4 *i+((1:Nat):Int))=4 *i+1:=by omega
  have a2:(4 *i+((2:Nat):Int))=4 *i+2:=by omega
  have a3:(4 *i+((3:Nat):Int))=4 *i+3:=by omega
  rw [a0,a1,a2,a3]
  omega
 rw [e]
 unfold qkM
 obtain ⟨A,hA⟩:=Int.eq_ofNat_of_zero_le h0.1
 obtain ⟨B,hB⟩:=Int.eq_ofNat_of_zero_le h1.1
 obtain ⟨C,hC⟩:=Int.eq_ofNat_of_zero_le h2.1
 obtain ⟨D,hD⟩:=Int.eq_ofNat_of_zero_le h3.1
 rw [hA] at h0⊢;rw [hB] at h1⊢;rw [hC] at h2⊢;rw [hD] at h3⊢
 have s1:=qjx A 24 (by omega) (by omega)
 have s2:=qjx B 16 (by omega) (by omega)
 have s3:=qjx C 8 (by omega) (by omega)
 have t1:=qi3 A 24 (B *2^16) (by omega) (by omega)
 have t2:=qi3 (A *2^8+B) 16 (C *2^8) (by omega) (by omega)
 have t3:=qi3 (A *2^16+B *2^8+C) 8 D (by omega) (by omega)
 rw [show ((24:Int))=((24:Nat):Int) from rfl,show ((16:Int))=((16:Nat):Int) from rfl,show ((8:Int))=((8:Nat):Int) from rfl,s1,s2,s3,t1]
 rw [show A *2^24+B *2^16=(A *2^8+B) *2^16 by omega,t2]
 rw [show (A *2^8+B) *2^16+C *2^8=(A *2^16+B *2^8+C) *2^8 by omega,t3]
 omega
theorem qcA (b:List UInt8): ∀n,(qax b n).length=64
 | 0=>by simp [qax]
 | n+1=>by simp [qax,qcA b n]
theorem qf4 (b:List UInt8) {n:Nat} (h:n<64):(qax b (n+1)).take (n+1)=(qax b n).take n++ [if n<16 then qkM b n else qoh (qax b n) n]:=by
 have hl:=qcA b n
 show ((qax b n).set n _).take (n+1)=_
 rw [List.take_add_one,List.take_set_of_le (Nat.le_refl n)]
 congr 1
 simp [hl,h]
theorem qrx {α:Type} [Inhabited α] {l:List α} {n:Nat} {i:Int} (h:i.toNat<n):ix (l.take n) i=ix l i:=by
 unfold ix
 simp only [List.getD_eq_getElem?_getD,List.getElem?_take,if_pos h]
def blkN (s:List Int) (m:List UInt8):Nat→List Int
 | 0=>s
 | k+1=>qbM (blkN s m k) ((m.drop (64 *k)).take 64)
theorem qe3 (s x:List Int): ∀n,(addN s x n).length=s.length
 | 0=>rfl
 | n+1=>by simp [addN,qe3 s x n]
theorem qoP {s x:List Int} (hs:s.length=8): ∀m j:Nat,m≤8→j<8→(addN s x m)[j]?=some (if j<m then IntKind.u32.wrap (ix s (j:Int)+ix x (j:Int)) else ix s (j:Int)):=fun m=>by
 induction m with
 | zero=>
   intro j _ hj
   show s[j]?=_
   rw [if_neg (by omega),List.getElem?_eq_getElem (by omega),qaR (by omega)]
   rfl
 | succ m ih=>
   intro j hm hj
   have hl:(addN s x m).length=8:=by rw [qe3,hs]
   show ((addN s x m).set m (IntKind.u32.wrap (ix (addN s x m) (m:Int)+ix x (m:Int))))[j]?=_
   have hi:ix (addN s x m) (m:Int)=ix s (m:Int):=by
    have h:=ih m (by omega) (by omega)
    rw [if_neg (by omega)] at h
    unfold ix at h⊢
    simp only [List.getD_eq_getElem?_getD,Int.toNat_natCast] at h⊢
    rw [h]
    rfl
   rw [hi,List.getElem?_set]
   by_cases h:m=j
   ·subst h
    rw [if_pos rfl,if_pos (by omega),if_pos (by omega)]
   ·rw [if_neg h,ih j (by omega) hj]
    congr 1
    by_cases h2:j<m
    ·rw [if_pos h2,if_pos (by omega)]
    ·rw [if_neg h2,if_neg (by omega)]
theorem qnT (s:List Int) (b:List UInt8):(qbM s b).length=s.length:=qe3 _ _ _
theorem qj9 (s:List Int) (m:List UInt8): ∀k,(blkN s m k).length=s.length
 | 0=>rfl
 | k+1=>by simp [blkN,qnT,qj9 s m k]
theorem qgs (s:List Int) (m:List UInt8): ∀k,blkN (qbM s (m.take 64)) (m.drop 64) k=blkN s m (k+1)
 | 0=>by simp [blkN]
 | k+1=>by
   rw [blkN,qgs s m k,List.drop_drop]
   show qbM (blkN s m (k+1)) _=qbM (blkN s m (k+1)) _
   rw [show 64+64 *k=64 *(k+1) by omega]
theorem qj7 (s:List Int) (m:List UInt8) (a:Nat): ∀b,blkN s m (a+b)=blkN (blkN s m a) (m.drop (64 *a)) b
 | 0=>rfl
 | b+1=>by
   show qbM (blkN s m (a+b)) _=qbM _ _
   rw [qj7 s m a b,List.drop_drop,show 64 *a+64 *b=64 *(a+b) by omega]
   rfl
theorem qj8 (s:List Int) (m t:List UInt8): ∀k,64 *k≤m.length→blkN s (m++t) k=blkN s m k
 | 0,_=>rfl
 | k+1,h=>by
   show qbM (blkN s (m++t) k) _=qbM _ _
   rw [qj8 s m t k (by omega),List.drop_append_of_le_length (by omega),List.take_append_of_le_length (by rw [List.length_drop];omega)]
theorem qm1: ∀(q:Nat) (s:List Int) (n:Nat) (r:List UInt8),r.length/64=q→n+q<9223372036854775808→
 eat s (n:Int) r=(if q=0 then s else blkN (if n=0 then shaH else s) r q,((n+q:Nat):Int),r.drop (64 *q))
 | 0,s,n,r,hq,hn=>by
   unfold eat
   rw [if_neg (by omega)]
   simp
 | q+1,s,n,r,hq,hn=>by
   have hw:IntKind.u64.wrap ((n:Int)+1)=((n+1:Nat):Int):=qaw ⟨by show (0:Int)≤_;omega,by show _≤(18446744073709551615:Int);omega⟩
   have ih:=qm1 q (qbM (if n=0 then shaH else s) (r.take 64)) (n+1) (r.drop 64) (by rw [List.length_drop];omega) (by omega)
   unfold eat
   rw [if_pos (by omega),hw]
   have hif:(if (n:Int)=0 then shaH else s)=(if n=0 then shaH else s):=by
    by_cases h:n=0
    ·simp [h]
    ·rw [if_neg h,if_neg (by omega)]
   rw [hif,ih,List.drop_drop,if_neg (show ¬(q+1=0) by omega),if_neg (show ¬(n+1=0) by omega)]
   rw [show n+1+q=n+(q+1) by omega,show 64+64 *q=64 *(q+1) by omega,qgs]
   by_cases h:q=0
   ·subst h
    simp [blkN]
   ·rw [if_neg h]
def qa4 (n:Nat):Nat:=(119 - n%64)%64
def qcr (b:List UInt8):List UInt8:=b++([toB 128]++(List.replicate (qa4 b.length) 0++be (8 *b.length) 8))
theorem qij (b:List UInt8):(qcr b).length=b.length+(1+(qa4 b.length+8)):=by simp [qcr,qa1];omega
theorem qlm (l:List (List UInt8)) (h:l.flatten.length≤70368744177664):qaT l=sumN (blkN shaH (qcr l.flatten) ((qcr l.flatten).length/64)) 8:=by
 generalize hm:l.flatten=m at h
 have e1:qat ((List.replicate 8 0),0,[]) l=eat (List.replicate 8 0) ((0:Nat):Int) m:=by simp [qat,hm]
 unfold qaT
 rw [e1,qm1 (m.length/64) _ 0 m rfl (by omega)]
 simp only [Nat.zero_add,if_true]
 generalize hq:m.length/64=q
 unfold hSum
 have ht:(m.drop (64 *q)).length=m.length - 64 *q:=List.length_drop
 have hlen:hLen (if q=0 then List.replicate 8 0 else blkN shaH m q,(q:Int),m.drop (64 *q))=(m.length:Int):=by
  unfold hLen
  simp only [ht]
  have w: ∀a:Int,0≤a→a<9223372036854775808→IntKind.u64.wrap a=a:=fun a h1 h2=>qaw ⟨by show (0:Int)≤_;omega,by show _≤(18446744073709551615:Int);omega⟩
  rw [w (64 *(q:Int)) (by omega) (by omega),w ((m.length - 64 *q:Nat):Int) (by omega) (by omega),w _ (by omega) (by omega)]
  omega
 have hpad:(qhB (if q=0 then List.replicate 8 0 else blkN shaH m q,(q:Int),m.drop (64 *q))).flatten=[toB 128]++(List.replicate (qa4 m.length) 0++be (8 *m.length) 8):=by
  unfold qhB
  rw [hlen]
  simp only [ht]
  have w8:IntKind.u64.wrap (8 *(m.length:Int))=((8 *m.length:Nat):Int):=by
   rw [qaw ⟨by show (0:Int)≤_;omega,by show _≤(18446744073709551615:Int);omega⟩];omega
  have w9:IntKind.i64.wrap (119 - ((m.length - 64 *q:Nat):Int))=119 - ((m.length - 64 *q:Nat):Int):=qaw (wf64 (by omega) (by omega))
  have hz:(Int.tmod (119 - ((m.length - 64 *q:Nat):Int)) 64).toNat=qa4 m.length:=by
   rw [Int.tmod_eq_emod_of_nonneg (by omega)]
   unfold qa4
   omega
  rw [w8,w9,hz,Int.toNat_natCast]
  simp
 have hw:(qat (if q=0 then List.replicate 8 0 else blkN shaH m q,(q:Int),m.drop (64 *q)) (qhB (if q=0 then List.replicate 8 0 else blkN shaH m q,(q:Int),m.drop (64 *q))))=
  eat (if q=0 then List.replicate 8 0 else blkN shaH m q) ((q:Nat):Int) (m.drop (64 *q)++([toB 128]++(List.replicate (qa4 m.length) 0++be (8 *m.length) 8))):=by
  simp only [qat,hpad]
 rw [hw]
 have hl2:(m.drop (64 *q)++([toB 128]++(List.replicate (qa4 m.length) 0++be (8 *m.length) 8))).length=m.length - 64 *q+(1+(qa4 m.length+8)):=by simp [qa1];omega
 have hz:qa4 m.length<64:=by unfold qa4;omega
 have hmod:(m.length - 64 *q+(1+(qa4 m.length+8)))/64≠0:=by unfold qa4;omega
 rw [qm1 ((m.length - 64 *q+(1+(qa4 m.length+8)))/64) _ q _ (by rw [hl2]) (by omega)]
 simp only [if_neg hmod]
 congr 1
 rw [qij,show (m.length+(1+(qa4 m.length+8)))/64=q+(m.length - 64 *q+(1+(qa4 m.length+8)))/64 by omega,qj7]
 have hd:(qcr m).drop (64 *q)=m.drop (64 *q)++([toB 128]++(List.replicate (qa4 m.length) 0++be (8 *m.length) 8)):=by
  unfold qcr
  rw [List.drop_append_of_le_length (by omega)]
 have hb:blkN shaH (qcr m) q=blkN shaH m q:=qj8 _ _ _ _ (by omega)
 rw [hd,hb]
 by_cases h0:q=0
 ·subst h0;simp [blkN]
 ·rw [if_neg h0,if_neg h0]
def outB (x:List Int) (i:Nat):UInt8:=UInt8.ofNat ((ix x ((i/4:Nat):Int)).toNat/2^(24 - i%4 *8))
theorem qix (x:List Int): ∀n,n≤8→sumN x n=(List.range (4 *n)).map (outB x)++List.replicate (32 - 4 *n) 0
 | 0,_=>by simp [sumN]
 | n+1,h=>by
   have ih:=qix x n (by omega)
   have he:(be (ix x (n:Int)).toNat 8).drop 4=[UInt8.ofNat ((ix x (n:Int)).toNat/2^24),UInt8.ofNat ((ix x (n:Int)).toNat/2^16),UInt8.ofNat ((ix x (n:Int)).toNat/2^8),UInt8.ofNat ((ix x (n:Int)).toNat/2^0)]:=rfl
   have ho: ∀j,j<4→outB x (4 *n+j)=UInt8.ofNat ((ix x (n:Int)).toNat/2^(24 - j *8)):=fun j hj=>by
    unfold outB
    rw [show (4 *n+j)/4=n by omega,show (4 *n+j)%4=j by omega]
   have o0:=ho 0 (by omega)
   have o1:=ho 1 (by omega)
   have o2:=ho 2 (by omega)
   have o3:=ho 3 (by omega)
   simp only [Nat.zero_mul,Nat.one_mul,Nat.sub_zero,Nat.add_zero] at o0 o1 o2 o3
   have hr:(List.range (4 *(n+1))).map (outB x)=(List.range (4 *n)).map (outB x)++(be (ix x (n:Int)).toNat 8).drop 4:=by
    rw [show 4 *(n+1)=4 *n+1+1+1+1 by omega,List.range_succ,List.range_succ,List.range_succ,List.range_succ,he]
    simp only [List.map_append,List.map_cons,List.map_nil,List.append_assoc,List.cons_append,List.nil_append]
    rw [o0,o1,show 4 *n+1+1=4 *n+2 by omega,o2,show 4 *n+2+1=4 *n+3 by omega,o3]
   have hl4:((be (ix x (n:Int)).toNat 8).drop 4).length=4:=rfl
   rw [hr]
   show (sumN x n).take (4 *n)++((be (ix x (n:Int)).toNat 8).drop 4).take (32 - 4 *n)++(sumN x n).drop (4 *n+min ((be (ix x (n:Int)).toNat 8).drop 4).length (32 - 4 *n))=_
   have hlr:((List.range (4 *n)).map (outB x)).length=4 *n:=by simp
   rw [ih]
   clear hr o0 o1 o2 o3 ho he ih
   generalize (List.range (4 *n)).map (outB x)=L at *
   generalize (be (ix x (n:Int)).toNat 8).drop 4=D at *
   rw [hl4,Nat.min_eq_left (by omega),List.take_of_length_le (l:=D) (by omega),List.take_append_of_le_length (by omega),List.take_of_length_le (l:=L) (by omega),List.drop_append,List.drop_of_length_le (l:=L) (by omega),hlr,List.drop_replicate,List.nil_append]
   congr 2
   omega
theorem qpH (x:List Int):sumN x 8=(List.range 32).map (outB x):=by
 rw [qix x 8 (by omega)]
 simp
end Go.Inc

set_option linter.unusedVariables false
namespace Go.Inc
open Go
abbrev Hd:=Int×(List UInt8×(List UInt8×(List UInt8×(List UInt8×List UInt8))))
structure HdWf (h:Hd):Prop where
 n0:0≤h.1
 n1:h.1≤18446744073709551615
 a:h.2.1.length=32
 b:h.2.2.1.length=32
 c:h.2.2.2.1.length=32
 d:h.2.2.2.2.1.length=32
 e:h.2.2.2.2.2.length=32
theorem qcx (k:Int) (l:List (List UInt8)):(qaj k l).length=32:=qll _
end Go.Inc

set_option linter.unusedVariables false
set_option maxRecDepth 100000
namespace Go.Inc
open Go
instance decL3:DecidableEq (List UInt8×List UInt8×List UInt8):=inferInstance
instance decL4:DecidableEq (List UInt8×List UInt8×List UInt8×List UInt8):=inferInstance
instance decL5:DecidableEq (List UInt8×List UInt8×List UInt8×List UInt8×List UInt8):=inferInstance
instance decHd:DecidableEq (Int×List UInt8×List UInt8×List UInt8×List UInt8×List UInt8):=inferInstance
def qiO (l:List Nt):Prop:=∀s x y,(s,x)∈l→(s,y)∈l→x=y
theorem qiO.sub {l m:List Nt} (h:qiO m) (hs: ∀z∈l,z∈m):qiO l:=fun s x y h1 h2=>h s x y (hs _ h1) (hs _ h2)
theorem qoO (l:List Nt) (s b:List UInt8): ∀z∈l,z∈addL l s b:=fun z hz=>by
 unfold addL
 split
 ·exact hz
 ·exact List.mem_append.2 (.inl hz)
end Go.Inc

set_option linter.unusedVariables false
set_option maxRecDepth 100000
set_option maxHeartbeats 2000000
namespace Go.Proofs.Ytmjjkpiglbpkhaa
open Go Go.RowKit Go.Inc
abbrev qai:Kd (List UInt8):=(Kd.sl Kd.byte)
theorem ty5b:TyOk Try.prog 5 Kd.byte 1:=⟨⟨Try.t5,_,Try.type5,rfl,rfl,rfl,rfl,rfl⟩,⟨_,Try.underlying5,rfl⟩⟩
def qap:List UInt8:=[0,1,2,2,3,3,3,3,4,4,4,4,4,4,4,4,5,5,5,5,5,5,5,5,5,5,5,5,5,5,5,5,6,6,6,6,6,6,6,6,6,6,6,6,6,6,6,6,6,6,6,6,6,6,6,6,6,6,6,6,6,6,6,6,7,7,7,7,7,7,7,7,7,7,7,7,7,7,7,7,7,7,7,7,7,7,7,7,7,7,7,7,7,7,7,7,7,7,7,7,7,7,7,7,7,7,7,7,7,7,7,7,7,7,7,7,7,7,7,7,7,7,7,7,7,7,7,7,8,8,8,8,8,8,8,8,8,8,8,8,8,8,8,8,8,8,8,8,8,8,8,8,8,8,8,8,8,8,8,8,8,8,8,8,8,8,8,8,8,8,8,8,8,8,8,8,8,8,8,8,8,8,8,8,8,8,8,8,8,8,8,8,8,8,8,8,8,8,8,8,8,8,8,8,8,8,8,8,8,8,8,8,8,8,8,8,8,8,8,8,8,8,8,8,8,8,8,8,8,8,8,8,8,8,8,8,8,8,8,8,8,8,8,8,8,8,8,8,8,8,8,8,8,8,8,8]
abbrev qaV:Kd (List (List UInt8)):=(Kd.sl qai)
theorem ty32:TyOk Try.prog 32 qai 24:=⟨⟨Try.t32,_,Try.type32,rfl,rfl,rfl,rfl,rfl⟩,⟨_,Try.underlying32,rfl⟩⟩
def qgX (a1_n:Int) (Q:(List UInt8)→Prop):Prop:=
 ((a1_n<0)→False)∧((¬(a1_n<0))→((0<(IntKind.i64.wrap (a1_n - (IntKind.i64.wrap (0 - (([]:List UInt8).length:Int))))))→(0<(IntKind.i64.wrap (a1_n - (IntKind.i64.wrap (0 - (([]:List UInt8).length:Int)))))∧(IntKind.i64.wrap (a1_n - (IntKind.i64.wrap (0 - (([]:List UInt8).length:Int))))) *1≤140737488355328)∧(Q ([]:List UInt8)))∧((¬(0<(IntKind.i64.wrap (a1_n - (IntKind.i64.wrap (0 - (([]:List UInt8).length:Int)))))))→Q ([]:List UInt8)))
theorem qqK {a1_n:Int} (w_0:(Kd.int .i64).wf a1_n) (hp:0≤a1_n∧a1_n≤140737488355328):qgX a1_n (fun o0=>o0=([]:List UInt8)):=by
 have e1:IntKind.i64.wrap (0 - (([]:List UInt8).length:Int))=0:=by decide
 have e2:IntKind.i64.wrap (a1_n - 0)=a1_n:=by rw [Int.sub_zero];exact qaw w_0
 unfold qgX
 rw [e1,e2]
 exact ⟨fun h=>by omega,fun _=>⟨fun h=>⟨⟨h,by omega⟩,rfl⟩,fun _=>rfl⟩⟩
theorem qlR {w0:World} {K0:Ghost} {a1_n_v:Value} {a1_n:Int} {Q:(List UInt8)→Prop} (hM0:Models w0 K0) (h_a1_n:(Kd.int .i64).V K0 a1_n a1_n_v) (h:qgX a1_n Q):Calls Try.prog 145 #[(.slice none 0 0),a1_n_v] w0 (fun e w'=> ∃(K':Ghost) (r0:Value) (o0:(List UInt8)),e= .returned r0∧Q o0∧Ext NX w0 K0 w' K'∧Models w' K'∧Own Kd.byte 5 w' K' o0 r0∧(∀g,ob r0=some g→w0.heap.size≤g)):=by
 unfold qgX at h
 have hR1:Own Kd.byte 5 w0 K0 ([]:List UInt8) (.slice none 0 0):=Own.nil
 obtain rfl:=qbk h_a1_n
 have hE0:Ext NX w0 K0 w0 K0:=Ext.refl _ _ _
 refine qaF fun R hR=>?_
 refine qaD (args:=[(.slice none 0 0),(.int .i64 a1_n)]) Try.func145 rfl (Nat.le_of_ble_eq_true rfl) ?_
 refine qaf ?_
 refine qac ?_
 have hR2:Own Kd.byte 5 w0 K0 ([]:List UInt8) (.slice none 0 0):=Own.nil
 refine qaa (.slice none 0 0) (R_as rfl) rfl rfl ?_
 refine qak ?_
 refine qaf ?_
 refine qaf ?_
 refine qac ?_
 refine qaa (.int .i64 a1_n) (R_mv rfl) rfl rfl ?_
 refine qaa (.bool (decide (a1_n<0))) (qg2 rfl rfl) rfl rfl ?_
 refine qak ?_
 refine qay (decide (a1_n<0)) rfl (fun hc3=>?_) (fun hc3=>?_)
 ·have hd3:a1_n<0:=qeX hc3
  have h:=h.1 hd3
  refine qac ?_
  exact h.elim
 ·have hd3: ¬(a1_n<0):=qeW hc3
  have h:=h.2 hd3
  refine qaO ?_
  refine qaf ?_
  refine qaf ?_
  refine qac ?_
  refine qaa (.int .i64 a1_n) (R_mv rfl) rfl rfl ?_
  refine qaa (.slice none 0 0) (R_mv rfl) rfl rfl ?_
  refine qaa (.int .i64 0) (qsy rfl Try.underlying32) rfl rfl ?_
  refine qaa (.slice none 0 0) (R_mv rfl) rfl rfl ?_
  refine qaa (.int .i64 (([]:List UInt8).length:Int)) (qdZ rfl hR1.V Try.underlying32) rfl rfl ?_
  refine qaa (.int .i64 (IntKind.i64.wrap (0 - (([]:List UInt8).length:Int)))) (qq5 rfl rfl) rfl rfl ?_
  refine qaa (.int .i64 (IntKind.i64.wrap (a1_n - (IntKind.i64.wrap (0 - (([]:List UInt8).length:Int)))))) (qq5 rfl rfl) rfl rfl ?_
  refine qaa (.int .i64 (IntKind.i64.wrap (a1_n - (IntKind.i64.wrap (0 - (([]:List UInt8).length:Int)))))) (R_as rfl) rfl rfl ?_
  refine qak ?_
  refine qaf ?_
  refine qac ?_
  refine qaa (.int .i64 (IntKind.i64.wrap (a1_n - (IntKind.i64.wrap (0 - (([]:List UInt8).length:Int)))))) (R_mv rfl) rfl rfl ?_
  refine qaa (.bool (decide (0<(IntKind.i64.wrap (a1_n - (IntKind.i64.wrap (0 - (([]:List UInt8).length:Int)))))))) (qsE rfl rfl) rfl rfl ?_
  refine qak ?_
  refine qay (decide (0<(IntKind.i64.wrap (a1_n - (IntKind.i64.wrap (0 - (([]:List UInt8).length:Int))))))) rfl (fun hc4=>?_) (fun hc4=>?_)
  ·have hd4:0<(IntKind.i64.wrap (a1_n - (IntKind.i64.wrap (0 - (([]:List UInt8).length:Int))))):=qeX hc4
   have h:=h.1 hd4
   refine qac ?_
   refine qaa (.slice none 0 0) (R_mv rfl) rfl rfl ?_
   refine qaa (.slice none 0 0) (R_mv rfl) rfl rfl ?_
   refine qaa (.int .i64 0) (qsy rfl Try.underlying32) rfl rfl ?_
   refine qaa (.slice none 0 0) (qoH rfl rfl Try.underlying32 ty5b) rfl rfl ?_
   refine qaa (.int .i64 (IntKind.i64.wrap (a1_n - (IntKind.i64.wrap (0 - (([]:List UInt8).length:Int)))))) (R_mv rfl) rfl rfl ?_
   obtain ⟨hp7,h⟩:=h
   refine qaz rfl rfl (quh (qsV hM0 rfl rfl Try.underlying32 Try.underlying3 ty5b rfl hp7.1 hp7.2) ?_)
   rintro v6 w6 hF6 hS6 hM6 hg6
   have hE6:=hE0.andN hS6
   have hf6: ∀g,ob v6=some g→w0.heap.size≤g:=fun g hg=>Nat.le_trans hE0.size (hg6 g hg)
   refine qaa (.slice none 0 0) (R_mv rfl) rfl rfl ?_
   refine qaa (.int .i64 (([]:List UInt8).length:Int)) (qdZ rfl (hR1.V.mono hS6.le) Try.underlying32) rfl rfl ?_
   refine qaz rfl rfl (qug (qsY hM6 rfl hF6 rfl Try.underlying32 ty5b) ?_)
   rintro v8 w8 K8 (hO8:Own Kd.byte 5 w8 K8 ([]:List UInt8) v8) hS8 hM8 hob8
   have hE8:=hE6.comp hS8 (fun c hx hlt=>absurd hlt (Nat.not_lt.2 (hf6 c hx)))
   have hf8: ∀g,ob v8=some g→w0.heap.size≤g:=fun g hg=>hf6 g (hob8 g hg)
   refine qaa v8 (R_as rfl) rfl rfl ?_
   refine qak ?_
   refine qaf ?_
   refine qac ?_
   refine qaa v8 (R_mv rfl) rfl rfl ?_
   refine qaa v8 (R_as rfl) rfl rfl ?_
   refine qak ?_
   refine qbm ?_
   exact qaN hR (v:=v8) (qcv rfl rfl) ⟨K8,v8,([]:List UInt8),rfl,h,hE8,hM8,hO8,hf8⟩
  ·have hd4: ¬(0<(IntKind.i64.wrap (a1_n - (IntKind.i64.wrap (0 - (([]:List UInt8).length:Int)))))):=qeW hc4
   have h:=h.2 hd4
   refine qaO ?_
   refine qaf ?_
   refine qac ?_
   refine qaa (.slice none 0 0) (R_mv rfl) rfl rfl ?_
   refine qaa (.slice none 0 0) (R_as rfl) rfl rfl ?_
   refine qak ?_
   refine qbm ?_
   exact qaN hR (v:=(.slice none 0 0)) (qcv rfl rfl) ⟨K0,(.slice none 0 0),([]:List UInt8),rfl,h,hE0,hM0,hR1,(fun g hg=>nilS hg)⟩
theorem qsc {w0:World} {K0:Ghost} {a1_n_v:Value} {a1_n:Int} (hM0:Models w0 K0) (h_a1_n:(Kd.int .i64).V K0 a1_n a1_n_v) (hp:0≤a1_n∧a1_n≤140737488355328):Calls Try.prog 145 #[(.slice none 0 0),a1_n_v] w0 (fun e w'=> ∃(K':Ghost) (r0:Value),e= .returned r0∧Ext NX w0 K0 w' K'∧Models w' K'∧Own Kd.byte 5 w' K' ([]:List UInt8) r0∧(∀g,ob r0=some g→w0.heap.size≤g)):=by
 refine (qlR hM0 h_a1_n (qqK h_a1_n.wf hp)).mono ?_
 rintro _ w' ⟨K',r0,o0,rfl,rfl,hF⟩
 exact ⟨K',r0,rfl,hF⟩
def qdX (a0_slices:(List (List UInt8))) (Q:(List UInt8)→Prop):Prop:=
 ∃(I3:Int→Int→Prop) (μ3:Int→Int→Nat),I3 0 0∧∀(size3:Int) (i3:Int),I3 size3 i3→((Kd.int .i64).wf size3)→((Kd.int .i64).wf i3)→(((i3<(a0_slices.length:Int))→(0≤i3∧i3<(a0_slices.length:Int))∧((((IntKind.i64.wrap (size3+((ix a0_slices i3).length:Int)))<0)→False)∧((¬((IntKind.i64.wrap (size3+((ix a0_slices i3).length:Int)))<0))→I3 (IntKind.i64.wrap (size3+((ix a0_slices i3).length:Int))) (i3+1)∧μ3 (IntKind.i64.wrap (size3+((ix a0_slices i3).length:Int))) (i3+1)<μ3 size3 i3)))∧((¬(i3<(a0_slices.length:Int)))→(0≤size3∧size3≤140737488355328)∧((qai.wf ([]:List UInt8))→(∃(I17:(List UInt8)→Int→Prop) (μ17:(List UInt8)→Int→Nat),I17 ([]:List UInt8) 0∧∀(newslice17:(List UInt8)) (i17:Int),I17 newslice17 i17→(qai.wf newslice17)→((Kd.int .i64).wf i17)→(((i17<(a0_slices.length:Int))→(0≤i17∧i17<(a0_slices.length:Int))∧(((newslice17.length+(ix a0_slices i17).length) *1≤140737488355328)∧(I17 (newslice17++(ix a0_slices i17)) (i17+1)∧μ17 (newslice17++(ix a0_slices i17)) (i17+1)<μ17 newslice17 i17)))∧((¬(i17<(a0_slices.length:Int)))→Q newslice17))))))
theorem qlJ {a0_slices:(List (List UInt8))} (w_0:qaV.wf a0_slices) (hp:a0_slices.flatten.length≤140737488355328):qdX a0_slices (fun o0=>o0=a0_slices.flatten):=by
 have hst: ∀j:Nat,(j:Int)<(a0_slices.length:Int)→(a0_slices.take j).flatten.length+(ix a0_slices (j:Int)).length≤140737488355328:=fun j hj=>by
  have h1:=qfJ (l:=a0_slices) (j+1)
  rw [qc2 hj,List.length_append] at h1
  omega
 unfold qdX
 refine ⟨fun s i=> ∃j:Nat,i=(j:Int)∧j≤a0_slices.length∧s=((a0_slices.take j).flatten.length:Int),fun _ i=>a0_slices.length - i.toNat,⟨0,rfl,by omega,by simp⟩,?_⟩
 rintro s i ⟨j,rfl,hj,rfl⟩ _ _
 refine ⟨fun hlt=>⟨⟨by omega,hlt⟩,?_⟩,fun hge=>?_⟩
 ·have h1:=hst j hlt
  have e:IntKind.i64.wrap (((a0_slices.take j).flatten.length:Int)+((ix a0_slices (j:Int)).length:Int))=((a0_slices.take (j+1)).flatten.length:Int):=by
   rw [qaw (wf64 (by omega) (by omega)),qc2 hlt,List.length_append]
   omega
  rw [e]
  refine ⟨fun h=>by omega,fun _=>⟨⟨j+1,by omega,by omega,rfl⟩,?_⟩⟩
  show a0_slices.length - ((j:Int)+1).toNat<a0_slices.length - (j:Int).toNat
  omega
 ·have h1:=qfJ (l:=a0_slices) j
  refine ⟨⟨by omega,by omega⟩,fun _=>⟨fun out i=> ∃j:Nat,i=(j:Int)∧j≤a0_slices.length∧out=(a0_slices.take j).flatten,fun _ i=>a0_slices.length - i.toNat,⟨0,rfl,by omega,by simp⟩,?_⟩⟩
  rintro out i ⟨m,rfl,hm,rfl⟩ _ _
  refine ⟨fun hlt=>⟨⟨by omega,hlt⟩,?_,⟨m+1,by omega,by omega,(qc2 hlt).symm⟩,?_⟩,fun hge=>?_⟩
  ·have:=hst m hlt
   omega
  ·show a0_slices.length - ((m:Int)+1).toNat<a0_slices.length - (m:Int).toNat
   omega
  ·have:m=a0_slices.length:=by omega
   subst this
   rw [List.take_length]
theorem qiJ {w0:World} {K0:Ghost} {a0_slices_v:Value} {a0_slices:(List (List UInt8))} {Q:(List UInt8)→Prop} (hM0:Models w0 K0) (h_a0_slices:qaV.V K0 a0_slices a0_slices_v) (h:qdX a0_slices Q):Calls Try.prog 134 #[a0_slices_v] w0 (fun e w'=> ∃(K':Ghost) (r0:Value) (o0:(List UInt8)),e= .returned r0∧Q o0∧Ext NX w0 K0 w' K'∧Models w' K'∧Own Kd.byte 5 w' K' o0 r0∧(∀g,ob r0=some g→w0.heap.size≤g)):=by
 unfold qdX at h
 have hE0:Ext NX w0 K0 w0 K0:=Ext.refl _ _ _
 refine qaF fun R hR=>?_
 refine qaD (args:=[a0_slices_v]) Try.func134 rfl (Nat.le_of_ble_eq_true rfl) ?_
 refine qaf ?_
 refine qac ?_
 have hR2:Own Kd.byte 5 w0 K0 ([]:List UInt8) (.slice none 0 0):=Own.nil
 refine qaa (.slice none 0 0) (R_as rfl) rfl rfl ?_
 refine qak ?_
 refine qaf ?_
 refine qac ?_
 refine qaa (.int .i64 0) (R_as rfl) rfl rfl ?_
 refine qak ?_
 refine qaf ?_
 refine qaf ?_
 refine qac ?_
 refine qaa a0_slices_v (R_mv rfl) rfl rfl ?_
 refine qaa (.int .i64 (a0_slices.length:Int)) (qdZ rfl h_a0_slices Try.underlying96) rfl rfl ?_
 refine qaa (.int .i64 0) (R_mv rfl) rfl rfl ?_
 refine qak ?_
 refine qbi ?_
 obtain ⟨I3,μ3,h0,h⟩:=h
 refine qdi (ι:=Int×Int) [3,5,11,12,13,14,15,16,17,18,19,20,21,22] (fun s l w=> ∃K,I3 s.1 s.2∧l=[(3,(.int .i64 s.1)),(11,(.int .i64 s.2))]∧Ext NX w0 K0 w K∧Models w K∧(Kd.int .i64).wf s.1∧(Kd.int .i64).wf s.2) (fun s=>μ3 s.1 s.2) (0,0) [(3,(.int .i64 0)),(11,(.int .i64 0))]
  ⟨K0,h0,rfl,Ext.refl _ _ _,hM0,(show (Kd.int .i64).wf 0 from by constructor<;>decide),(show (Kd.int .i64).wf 0 from by constructor<;>decide)⟩ (by repeat (first | exact trivial | refine ⟨rfl,?_⟩)) ?_
 rintro ⟨size3,i3⟩ l σ3 w4 ⟨K4,hI,rfl,hX4,hM4,hw3_3,hw3_11⟩
 dsimp only at hI hw3_3 hw3_11
 have hE4:=hE0.andN hX4
 have h:=h size3 i3 hI hw3_3 hw3_11
 refine qaf ?_
 refine qac ?_
 refine qaa (.bool (decide (i3<(a0_slices.length:Int)))) (qg2 rfl rfl) rfl rfl ?_
 refine qak ?_
 refine qaf ?_
 refine qay (decide (i3<(a0_slices.length:Int))) rfl (fun hc5=>?_) (fun hc5=>?_)
 ·have hd5:i3<(a0_slices.length:Int):=qeX hc5
  have h:=h.1 hd5
  refine qaO ?_
  refine qaf ?_
  refine qbi ?_
  refine qaf ?_
  refine qac ?_
  obtain ⟨hp7,h⟩:=h
  refine WL_P (qeV rfl (h_a0_slices.mono hX4.le) rfl Try.underlying96 ty32 hp7.1 hp7.2) rfl rfl ?_
  rintro b6 o6 hP6
  refine WL_L hM4 (S_ld rfl ty32 hP6) rfl rfl ?_
  rintro v9 (hV9:qai.V _ (ix a0_slices i3) _)
  refine qaa v9 (R_as rfl) rfl rfl ?_
  refine qak ?_
  refine qaf ?_
  refine qac ?_
  refine qaa (.int .i64 size3) (R_mv rfl) rfl rfl ?_
  refine qaa v9 (R_mv rfl) rfl rfl ?_
  refine qaa (.int .i64 ((ix a0_slices i3).length:Int)) (qdZ rfl hV9 Try.underlying32) rfl rfl ?_
  refine qaa (.int .i64 (IntKind.i64.wrap (size3+((ix a0_slices i3).length:Int)))) (qk1 rfl rfl) rfl rfl ?_
  refine qaa (.int .i64 (IntKind.i64.wrap (size3+((ix a0_slices i3).length:Int)))) (R_as rfl) rfl rfl ?_
  refine qak ?_
  refine qaf ?_
  refine qac ?_
  refine qaa (.int .i64 (IntKind.i64.wrap (size3+((ix a0_slices i3).length:Int)))) (R_mv rfl) rfl rfl ?_
  refine qaa (.bool (decide ((IntKind.i64.wrap (size3+((ix a0_slices i3).length:Int)))<0))) (qg2 rfl rfl) rfl rfl ?_
  refine qak ?_
  refine qay (decide ((IntKind.i64.wrap (size3+((ix a0_slices i3).length:Int)))<0)) rfl (fun hc11=>?_) (fun hc11=>?_)
  ·have hd11:(IntKind.i64.wrap (size3+((ix a0_slices i3).length:Int)))<0:=qeX hc11
   have h:=h.1 hd11
   refine qac ?_
   exact h.elim
  ·have hd11: ¬((IntKind.i64.wrap (size3+((ix a0_slices i3).length:Int)))<0):=qeW hc11
   have h:=h.2 hd11
   refine qaO ?_
   refine qac ?_
   refine qaa (.int .i64 (i3+1)) (qk2 rfl rfl hw3_11 hd5 (qbv (h_a0_slices).wf.1)) rfl rfl ?_
   refine qaa (.int .i64 (i3+1)) (R_mv rfl) rfl rfl ?_
   refine qak ?_
   refine qfj.mk ((IntKind.i64.wrap (size3+((ix a0_slices i3).length:Int))),(i3+1)) [(3,(.int .i64 (IntKind.i64.wrap (size3+((ix a0_slices i3).length:Int))))),(11,(.int .i64 (i3+1)))] ?_ ?_ ?_ ?_
   rotate_left
   ·exact h.2
   ·repeat (first | exact Off.lay0 rfl | refine Off.updO ?_ rfl _ | refine Off.updN ?_ _ | refine Off.lay ?_ rfl)
   ·repeat (first | exact trivial | refine ⟨rfl,?_⟩)
   exact ⟨K4,h.1,rfl,((Ext.refl _ _ _).andN hX4),hM4,(qcm _ _),(qgA hw3_11 hd5 (qbv (h_a0_slices).wf.1))⟩
 ·have hd5: ¬(i3<(a0_slices.length:Int)):=qeW hc5
  have h:=h.2 hd5
  refine qcX ?_
  refine qaf ?_
  refine qac ?_
  refine qaa (.int .i64 size3) (R_mv rfl) rfl rfl ?_
  have hR12:Own Kd.byte 5 w4 K4 ([]:List UInt8) (.slice none 0 0):=Own.nil
  have hR13:=(hR2.extN hX4)
  obtain ⟨hp15,h⟩:=h
  refine qaz rfl rfl (qa0 (qbE Try.call145 rfl) ((qsc hM4 (qe0 hw3_3) hp15).mono ?_))
  rintro _ w14 ⟨K14,v14_0,rfl,hS14,hM14,hO14_0,hg14_0⟩
  refine ⟨v14_0,rfl,?_⟩
  have hE14:=hE4.andN hS14
  have h:=h hO14_0.wf
  refine qaa v14_0 (R_as rfl) rfl rfl ?_
  refine qak ?_
  refine qaf ?_
  refine qaf ?_
  refine qac ?_
  refine qaa a0_slices_v (R_mv rfl) rfl rfl ?_
  refine qaa (.int .i64 (a0_slices.length:Int)) (qdZ rfl (h_a0_slices.mono (hX4.le.trans hS14.le)) Try.underlying96) rfl rfl ?_
  refine qaa (.int .i64 0) (R_mv rfl) rfl rfl ?_
  refine qak ?_
  refine qbi ?_
  obtain ⟨I17,μ17,h0,h⟩:=h
  refine qdi (ι:=(List UInt8)×Int) [6,8,27,28,29,30,31,32,33,34] (fun s l w=> ∃K u6,I17 s.1 s.2∧l=[(6,u6),(27,(.int .i64 s.2))]∧Ext (fun c=>ob v14_0=some c) w14 K14 w K∧Models w K∧(Kd.int .i64).wf s.2∧Own Kd.byte 5 w K s.1 u6∧(∀g,ob u6=some g→ob v14_0=some g∨w14.heap.size≤g)) (fun s=>μ17 s.1 s.2) (([]:List UInt8),0) [(6,v14_0),(27,(.int .i64 0))]
   ⟨K14,v14_0,h0,rfl,Ext.refl _ _ _,hM14,(show (Kd.int .i64).wf 0 from by constructor<;>decide),hO14_0,(fun g hg=>(.inl hg))⟩ (by repeat (first | exact trivial | refine ⟨rfl,?_⟩)) ?_
  rintro ⟨newslice17,i17⟩ l σ17 w18 ⟨K18,u6_17,hI,rfl,hX18,hM18,hw17_27,hL17_u6,ho17_u6⟩
  dsimp only at hI hw17_27 hL17_u6 ho17_u6
  have hE18:=hE14.comp hX18 (fun c hx hlt=>(fun g hg hlt=>absurd hlt (Nat.not_lt.2 ((fun g hg=>Nat.le_trans hE4.size (hg14_0 g hg)) g hg))) c hx hlt)
  have hR19:=(hR13.extN hS14)
  have hR20:=(hR19.ext hX18 (fun g hg hx=>(fun g hg hx=>(fun g hg hx=>absurd (hR13.lt _ hx) (Nat.not_lt.2 (hg14_0 g hg))) g hx hg) g hg hx))
  have hR21:=(hR12.extN hS14)
  have hR22:=(hR21.ext hX18 (fun g hg hx=>(fun g hg hx=>(fun g hg hx=>absurd (hR12.lt _ hx) (Nat.not_lt.2 (hg14_0 g hg))) g hx hg) g hg hx))
  have hR23:=(hR13.extN hS14)
  have hR24:=(hR12.extN hS14)
  have h:=h newslice17 i17 hI hL17_u6.wf hw17_27
  refine qaf ?_
  refine qac ?_
  refine qaa (.bool (decide (i17<(a0_slices.length:Int)))) (qg2 rfl rfl) rfl rfl ?_
  refine qak ?_
  refine qaf ?_
  refine qay (decide (i17<(a0_slices.length:Int))) rfl (fun hc25=>?_) (fun hc25=>?_)
  ·have hd25:i17<(a0_slices.length:Int):=qeX hc25
   have h:=h.1 hd25
   refine qaO ?_
   refine qaf ?_
   refine qbi ?_
   refine qaf ?_
   refine qac ?_
   obtain ⟨hp27,h⟩:=h
   refine WL_P (qeV rfl (h_a0_slices.mono (hX4.le.trans (hS14.le.trans hX18.le))) rfl Try.underlying96 ty32 hp27.1 hp27.2) rfl rfl ?_
   rintro b26 o26 hP26
   refine WL_L hM18 (S_ld rfl ty32 hP26) rfl rfl ?_
   rintro v29 (hV29:qai.V _ (ix a0_slices i17) _)
   refine qaa v29 (R_as rfl) rfl rfl ?_
   refine qak ?_
   refine qac ?_
   refine qaa u6_17 (R_mv rfl) rfl rfl ?_
   refine qaa v29 (R_mv rfl) rfl rfl ?_
   obtain ⟨hp32,h⟩:=h
   refine qaz rfl rfl (St_S (qq8 hM18 rfl hL17_u6 rfl hV29 Try.underlying32 ty5b rfl hp32) ?_)
   rintro v31 w31 K31 hO31 hS31 hM31 hob31
   have hE31:=hE18.comp hS31 (fun c hx hlt=>(fun g hg hlt=>absurd hlt (Nat.not_lt.2 ((fun g hg=>(ho17_u6 g hg).elim (fun hx=>(fun g hg=>Nat.le_trans hE4.size (hg14_0 g hg)) g hx) (fun hx=>Nat.le_trans hE14.size hx)) g hg))) c hx hlt)
   have hR33:=(hR20.ext hS31 (fun g hg hx=>(fun g hg hx=>(fun g hg hy=>(ho17_u6 g hg).elim (fun hz=>(fun g hg hx=>absurd (hR13.lt _ hx) (Nat.not_lt.2 (hg14_0 g hg))) g hz hy) (fun hz=>absurd (hR23.lt _ hy) (Nat.not_lt.2 hz))) g hx hg) g hg hx))
   have hR34:=(hR22.ext hS31 (fun g hg hx=>(fun g hg hx=>(fun g hg hy=>(ho17_u6 g hg).elim (fun hz=>(fun g hg hx=>absurd (hR12.lt _ hx) (Nat.not_lt.2 (hg14_0 g hg))) g hz hy) (fun hz=>absurd (hR24.lt _ hy) (Nat.not_lt.2 hz))) g hx hg) g hg hx))
   have hf31: ∀g,ob v31=some g→w0.heap.size≤g:=fun g hg=>by rcases hob31 with hq | hq<;>rw [hq] at hg;exact (fun g hg=>(ho17_u6 g hg).elim (fun hx=>(fun g hg=>Nat.le_trans hE4.size (hg14_0 g hg)) g hx) (fun hx=>Nat.le_trans hE14.size hx)) g hg;cases hg;exact hE18.size
   refine qaa v31 (R_as rfl) rfl rfl ?_
   refine qak ?_
   refine qac ?_
   refine qaa (.int .i64 (i17+1)) (qk2 rfl rfl hw17_27 hd25 (qbv (h_a0_slices).wf.1)) rfl rfl ?_
   refine qaa (.int .i64 (i17+1)) (R_mv rfl) rfl rfl ?_
   refine qak ?_
   refine qfj.mk ((newslice17++(ix a0_slices i17)),(i17+1)) [(6,v31),(27,(.int .i64 (i17+1)))] ?_ ?_ ?_ ?_
   rotate_left
   ·exact h.2
   ·repeat (first | exact Off.lay0 rfl | refine Off.updO ?_ rfl _ | refine Off.updN ?_ _ | refine Off.lay ?_ rfl)
   ·repeat (first | exact trivial | refine ⟨rfl,?_⟩)
   exact ⟨K31,v31,h.1,rfl,(((Ext.refl _ _ _).comp hX18 (fun c hx hlt=>(hx))).comp hS31 (fun c hx hlt=>((((ho17_u6 c hx).elim (fun hz=>(.inl hz)) (fun hz=> .inr (Nat.le_trans (Nat.le_refl _) hz))):ob v14_0=some c∨w14.heap.size≤c).elim (fun hx=>(hx)) (fun hz=>absurd hlt (Nat.not_lt.2 hz))))),hM31,(qgA hw17_27 hd25 (qbv (h_a0_slices).wf.1)),hO31,(fun g hg=>(by have hg:ob v31=some g:=hg;rcases hob31 with hq | hq<;>rw [hq] at hg;exact ((ho17_u6 g hg).elim (fun hz=>(.inl hz)) (fun hz=> .inr (Nat.le_trans (Nat.le_refl _) hz)));cases hg;exact .inr hX18.size))⟩
  ·have hd25: ¬(i17<(a0_slices.length:Int)):=qeW hc25
   have h:=h.2 hd25
   refine qcX ?_
   refine qaf ?_
   refine qac ?_
   refine qaa u6_17 (R_mv rfl) rfl rfl ?_
   refine qaa u6_17 (R_as rfl) rfl rfl ?_
   refine qak ?_
   refine qbm ?_
   exact qaN hR (v:=u6_17) (qcv rfl rfl) ⟨K18,u6_17,newslice17,rfl,h,hE18,hM18,hL17_u6,(fun g hg=>(ho17_u6 g hg).elim (fun hx=>(fun g hg=>Nat.le_trans hE4.size (hg14_0 g hg)) g hx) (fun hx=>Nat.le_trans hE14.size hx))⟩
theorem qor {w0:World} {K0:Ghost} {a0_slices_v:Value} {a0_slices:(List (List UInt8))} (hM0:Models w0 K0) (h_a0_slices:qaV.V K0 a0_slices a0_slices_v) (hp:a0_slices.flatten.length≤140737488355328):Calls Try.prog 134 #[a0_slices_v] w0 (fun e w'=> ∃(K':Ghost) (r0:Value),e= .returned r0∧Ext NX w0 K0 w' K'∧Models w' K'∧Own Kd.byte 5 w' K' a0_slices.flatten r0∧(∀g,ob r0=some g→w0.heap.size≤g)):=by
 refine (qiJ hM0 h_a0_slices (qlJ h_a0_slices.wf hp)).mono ?_
 rintro _ w' ⟨K',r0,o0,rfl,rfl,hF⟩
 exact ⟨K',r0,rfl,hF⟩
end Go.Proofs.Ytmjjkpiglbpkhaa

set_option linter.unusedVariables false
set_option maxRecDepth 100000
set_option maxHeartbeats 2000000
namespace Go.Proofs.Ytmjjkpiglbpkhaa
open Go Go.RowKit Go.Inc
noncomputable def qjM:Ctr:=⟨[.v (.sl (.sl .byte))],[.ow 5 .byte],some (fun a=>(fun (a0_slices:List (List UInt8))=>(a0_slices.flatten.length≤140737488355328:Prop)) a.1),fun a=>(fun (a0_slices:List (List UInt8))=>((a0_slices.flatten,()),(()))) a.1⟩
theorem qos:qjM.valid Try.prog 134:=qum (k:= .byte) (fun _=>rfl) fun a hp θ vs w K hM hv=>by
 obtain ⟨v,vs,rfl,h1,h2⟩:=hv
 have h2':vs=[]:=h2
 subst h2'
 exact qor hM (qc7 (t:= .sl (.sl .byte)) h1 rfl) hp
end Go.Proofs.Ytmjjkpiglbpkhaa

set_option linter.unusedVariables false
namespace Go.Inc
open Go Go.RowKit
section
variable {P:Program} {f:FuncId} {pm:List PM} {e:Nat}
end
end Go.Inc

set_option linter.unusedVariables false
namespace Go.Inc
open Go Go.RowKit
section
variable {P:Program} {f:FuncId} {pm:List PM} {rm:List RM} {e:Nat} {t:Ty}
theorem qpv {pr:Option (PM.denL pm→Prop)} {out:PM.denL pm→(List t.den×Unit)×PM.MD pm} (h:Ctr.valid P f ⟨pm,[.rw e t],pr,out⟩) (hb:Nat.blt e DPB=true:=by rfl):Ctr.valid P f ⟨pm,[.ow e t],pr,out⟩:=by
 intro a hpa θ vs w K hM hA
 have hpa2:Ctr.pre ⟨pm,[.rw e t],pr,out⟩ a:=by cases pr<;>exact hpa
 refine (h a hpa2 θ vs w K hM hA).mono ?_
 rintro ed w' ⟨v,K',θ',rfl,hO⟩
 have hlen:(Ctr.ends ⟨pm,[.rw e t],pr,out⟩ a).length=(PM.resL pm a).length+1:=by
  show (PM.aft pm a (out a).2++ [_]).length=_
  rw [List.length_append,PM.aft_len]
  rfl
 have hlen':(Ctr.ends ⟨pm,[.ow e t],pr,out⟩ a).length=(PM.resL pm a).length+1:=by
  show (PM.aft pm a (out a).2++ [_]).length=_
  rw [List.length_append,PM.aft_len]
  rfl
 have hR:(Res.rw e t (out a).1.1).sat θ' (PM.resL pm a).length ((PM.resL pm a).length+1) w' K':=by
  have:=hO.sat (PM.resL pm a).length (.rw e t (out a).1.1) (by
   show (PM.aft pm a (out a).2++ [Res.rw e t (out a).1.1])[_]?=_
   rw [List.getElem?_append_right (by rw [PM.aft_len];exact Nat.le_refl _),PM.aft_len,Nat.sub_self]
   rfl)
  rwa [hlen] at this
 obtain ⟨hRw,hfp⟩:=(RwX.flat hb).1 hR
 obtain ⟨K2,hOw,hE,hM2⟩:=hRw.freeze hO.mod
 have hnew:=hO.new (PM.resL pm a).length (Nat.le_refl _) (by rw [hlen];exact Nat.lt_succ_self _)
 refine ⟨v,K2,θ',rfl,⟨hO.ext.comp hE (fun b hb hlt=>?_),hM2,hO.upto,?_,?_,hO.old,?_,?_⟩⟩
 ·exact absurd (hnew b ((hfp b).2 hb)) (Nat.not_le_of_lt hlt)
 ·obtain ⟨us,hv,hus⟩:=hO.val
  obtain ⟨u0,us',rfl,⟨h1,h2⟩,h3⟩:=hus
  refine ⟨u0::us',hv,u0,us',rfl,⟨?_,?_,h2⟩,h3⟩
  ·rw [hlen'];exact Nat.lt_succ_self _
  ·rw [←h2];exact hOw.V
 ·intro r R hr
  rw [hlen']
  have hr':(PM.aft pm a (out a).2++ [Res.ow e t (out a).1.1])[r]?=some R:=hr
  rcases Nat.lt_or_ge r (PM.resL pm a).length with hlt | hge
  ·rw [List.getElem?_append_left (by rw [PM.aft_len];exact hlt)] at hr'
   have hs:=hO.sat r R (by
    show (PM.aft pm a (out a).2++ [_])[r]?=_
    rw [List.getElem?_append_left (by rw [PM.aft_len];exact hlt)]
    exact hr')
   rw [hlen] at hs
   refine hs.ext (Th.upto.refl _ _) (by omega) rfl (Nat.le_refl _) hE fun g hg hb=>?_
   exact hO.apart r (PM.resL pm a).length (by rw [hlen];omega) (by rw [hlen];exact Nat.lt_succ_self _) (by omega) g hg ((hfp g).2 hb)
  ·rw [List.getElem?_append_right (by rw [PM.aft_len];exact hge),PM.aft_len] at hr'
   have h0:r - (PM.resL pm a).length=0:=by
    have:=(List.getElem?_eq_some_iff.1 hr').1
    simp at this
    omega
   rw [h0] at hr'
   cases hr'
   obtain rfl:r=(PM.resL pm a).length:=by omega
   exact ⟨hOw,hfp⟩
 ·intro r h1 h2
  rw [hlen'] at h2
  exact hO.new r h1 (by rw [hlen];exact h2)
 ·rw [hlen']
  have:=hO.apart
  rwa [hlen] at this
end
end Go.Inc

set_option linter.unusedVariables false
namespace Go.Inc
open Go Go.RowKit
def Yields (P:Program) (l:Nat) (v:Value) (W:World) (R:World→Prop):Prop:=YieldAt Fence.wide 0 P l #[v] W fun e W'=>e= .returned (.bool true)∧R W'
def Iter (P:Program) (f:Nat) (lb:Array Value) (L:List Value) (B:Nat→Prop) (W0:World) (K0:Ghost):Prop:=
 ∀(l:Nat) (J:Nat→World→Ghost→Prop) (W:World) (K:Ghost),Ext (fun b=> ¬B b) W0 K0 W K→Models W K→
  (∀j W K W' K',J j W K→Ext B W K W' K'→Models W' K'→J j W' K')→
  (∀j x W K,L[j]?=some x→J j W K→Models W K→Yields P l x W fun W'=> ∃K',J (j+1) W' K'∧Models W' K'∧Ext (fun b=> ¬B b) W K W' K')→
  J 0 W K→Calls P f (#[.func (.yield l) #[] #[]]++lb) W fun e W'=>(∃v,e= .returned v)∧∃K',J L.length W' K'∧Models W' K'
def marks:Option Nat→List Deferred
 | none=> []
 | some D=> [{ target:= .collected D,args:= #[] }]
def WF (P:Program) (n:Nat) (c:Code) (Q:Option Nat→Post) (ρ:Env) (w:World):Prop:=∀a,Fits n [] ρ a→c.wpIn Fence.wide 0 P (fun e a w=> ∃D ρ',Fits n (marks D) ρ' a∧Q D e ρ' w) a w
theorem WF.mono {P:Program} {n:Nat} {c:Code} {Q Q':Option Nat→Post} {ρ:Env} {w:World} (h:WF P n c Q ρ w) (hq: ∀D e ρ w,Q D e ρ w→Q' D e ρ w):WF P n c Q' ρ w:=fun a ha=>wpIn_mono (h a ha) fun e a w ⟨D,ρ',hf,h⟩=>⟨D,ρ',hf,hq D e ρ' w h⟩
end Go.Inc

set_option linter.unusedVariables false
namespace Go.Inc
open Go Go.RowKit
section
variable {G G2:Glob} {s:St} {θ:Th} {ρ:Env} {w w':World} {K K':Ghost}
theorem Rel.base (h:Rel G s θ ρ w K) (hE:Ext G2.X G2.w0 G2.K0 w K) (h1:G2.Kb=G.Kb) (h2:G2.θb=G.θb) (h3:G2.nb=G.nb) (h4:G2.frz=G.frz) (ho: ∀r e,s.res r=some e→e.org.ok G2 (θ.fp r)):Rel G2 s θ ρ w K:=
 ⟨h.mod,hE,by rw [h1];exact h.kle,by rw [h2,h3];exact h.old,by rw [h3];exact h.nbx,fun r e he=>by rw [h4] at he;rw [h2];exact h.frz r e he,h.env,fun r e he=>⟨(h.res r e he).1,(h.res r e he).2.1,ho r e he⟩,h.sep⟩
end
def Caps (w:World) (K:Ghost):List Int→List Value→(Nat→Prop)→Prop
 | [],[],B=> ∀b,¬B b
 | x::xs,v::vs,B=> ∃(b:Nat) (pre post:List Value) (B':Nat→Prop),v= .pointer (some ⟨b,pre.length,none⟩)∧Bx (Ty.kd (.int .i64)) w K b pre post x∧¬B' b∧Caps w K xs vs B'∧∀g,B g↔g=b∨B' g
 | _,_,_=>False
structure ICtr where
 pre:List Int→Prop
 L:List Int→List Int
def ICtr.valid (P:Program) (f:Nat) (C:ICtr):Prop:=∀xs,C.pre xs→(∀x∈C.L xs,(Kd.int .i64).wf x)∧∀(vs:List Value) (B:Nat→Prop) (w:World) (K:Ghost),Models w K→Caps w K xs vs B→Iter P f vs.toArray ((C.L xs).map fun x=> .int .i64 x) B w K
end Go.Inc

set_option linter.unusedVariables false
namespace Go.Inc
open Go Go.RowKit
section
variable {P:Program} {n p:Nat}
end
end Go.Inc

set_option linter.unusedVariables false
namespace Go.Inc
open Go Go.RowKit
section
variable {X:Fx} {its:List (Nat×ICtr)} {ex:Nat→Code→St→(Exit→St→Prop)→Prop} {n:Nat} {G:Glob}
end
end Go.Inc

set_option linter.unusedVariables false
namespace Go.Inc
open Go Go.RowKit
section
variable {X:Fx} {its:List (Nat×ICtr)} {f:Nat} {C:Ctr}
end
end Go.Inc

set_option linter.unusedVariables false
namespace Go.Inc
open Go Go.RowKit
section
variable {P:Program} {n:Nat} {ops:Array Oper} {Q:Post} {ρ:Env} {w:World} {o:Oper} {i:Nat} {rest:List Nat}
end
structure Held (B:Nat→Prop) (θ0:Th) (m:Nat):Prop where
 key: ∀r,r<m→∃b,θ0.key r= .pointer (some ⟨b,(θ0.sur r).1.length,none⟩)∧B b∧∀g,θ0.fp r g↔g=b
 sep: ∀r r',r<m→r'<m→r≠r'→∀g,θ0.fp r g→¬θ0.fp r' g
section
variable {X:Fx} {fuel n:Nat} {L:List Int} {l m:Nat} {B:Nat→Prop} {θ0:Th} {Kb:Ghost} {J:Nat→World→Ghost→Prop}
variable (hX:X.ok) (hB:Held B θ0 m) (hJ: ∀j W K W' K',J j W K→Ext B W K W' K'→Models W' K'→J j W' K')
 (hY: ∀j x W K,L[j]?=some x→J j W K→Models W K→Yields X.c.P l (.int .i64 x) W fun W'=> ∃K',J (j+1) W' K'∧Models W' K'∧Ext (fun b=> ¬B b) W K W' K')
include hX hB hJ hY
end
end Go.Inc

set_option linter.unusedVariables false
namespace Go.Inc
open Go Go.RowKit
end Go.Inc

set_option linter.unusedVariables false
namespace Go.Inc
open Go
abbrev Sm:=List UInt8
theorem ixN {α:Type} [Inhabited α] {l:List α} {j:Nat} (h:j<l.length):ix l (j:Int)=l[j]:=qaR (i:=(j:Int)) h
def half (n:Nat):Nat:=if n<2 then 0 else 2^Nat.log2 (n - 1)
theorem qdq {n:Nat} (h:2≤n):1≤half n:=by
 unfold half
 rw [if_neg (by omega)]
 exact Nat.one_le_two_pow
theorem qez {n:Nat} (h:2≤n):half n<n:=by
 unfold half
 rw [if_neg (by omega)]
 have:=Nat.log2_self_le (n:=n - 1) (by omega)
 omega
def qc8 (l:List Sm):Sm:=
 if h:l.length<2 then (match l with
  | []=>qaj 2 []
  | x::_=>x)
 else qaj 2 [qc8 (l.take (half l.length)),qc8 (l.drop (half l.length))]
termination_by l.length
decreasing_by
 all_goals
  have h1:=qdq (n:=l.length) (by omega)
  have h2:=qez (n:=l.length) (by omega)
  simp only [List.length_take,List.length_drop]
  omega
theorem qnL:qc8 []=qaj 2 []:=by rw [qc8];rfl
theorem qnM (x:Sm):qc8 [x]=x:=by rw [qc8];rfl
theorem qnN {l:List Sm} (h:2≤l.length):qc8 l=qaj 2 [qc8 (l.take (half l.length)),qc8 (l.drop (half l.length))]:=by
 rw [qc8,dif_neg (by omega)]
theorem qis: ∀ {l:List Sm},(∀x∈l,x.length=32)→(qc8 l).length=32
 | [],_=>by rw [qnL];exact qcx _ _
 | [x],h=>by rw [qnM];exact h x (by simp)
 | x::y::r,_=>by rw [qnN (by simp)];exact qcx _ _
def qcg (b:qav) (l:List Sm):qav:=
 if h:l.length<2 then (if l.length=0 then qaH b 2 [] else b)
 else qaH (qcg (qcg b (l.take (half l.length))) (l.drop (half l.length))) 2 [qc8 (l.take (half l.length)),qc8 (l.drop (half l.length))]
termination_by l.length
decreasing_by
 all_goals
  have h1:=qdq (n:=l.length) (by omega)
  have h2:=qez (n:=l.length) (by omega)
  simp only [List.length_take,List.length_drop]
  omega
theorem qdv (b:qav):qcg b []=qaH b 2 []:=by rw [qcg];rfl
theorem qdw (b:qav) (x:Sm):qcg b [x]=b:=by rw [qcg];rfl
theorem qdx (b:qav) {l:List Sm} (h:2≤l.length):qcg b l=qaH (qcg (qcg b (l.take (half l.length))) (l.drop (half l.length))) 2 [qc8 (l.take (half l.length)),qc8 (l.drop (half l.length))]:=by
 rw [qcg,dif_neg (by omega)]
def qaJ (x:qav) (n:Nat):Prop:=∀y,x=some y→y.1.length+n≤1048576
theorem qaJ.room {x:qav} {n:Nat} (h:qaJ x n):qaZ x:=fun y hy=>by
 have:=h y hy
 omega
theorem qaJ.le {x:qav} {n m:Nat} (h:qaJ x n) (hm:m≤n):qaJ x m:=fun y hy=>by
 have:=h y hy
 omega
theorem qaJ.of {x:qav} {n:Nat} (h:qaJ x (n+1)) (k:Int) (l:List (List UInt8)):qaJ (qaH x k l) n:=by
 intro y hy
 cases x with
 | none=>cases hy
 | some z=>
   cases hy
   have h1:=h z rfl
   have h2:=qg9 z.1 (qaj k l) (preimage k l)
   show (addL z.1 (qaj k l) (preimage k l)).length+n≤1048576
   omega
theorem qaJ.root: ∀(k:Nat) {l:List Sm} {x:qav} {n:Nat},l.length≤k→1≤l.length→qaJ x (n+(l.length - 1))→qaJ (qcg x l) n
 | 0,l,x,n,hk,h1,h=>by omega
 | k+1,l,x,n,hk,h1,h=>by
   rcases Nat.lt_or_ge l.length 2 with h2 | h2
   ·match l,h1,h2 with
    | [a],_,_=>rw [qdw];exact h
   ·have a1:=qdq h2
    have a2:=qez h2
    rw [qdx x h2]
    refine qaJ.of (qaJ.root k ?_ ?_ (qaJ.root k ?_ ?_ (h.le ?_))) _ _<;>simp only [List.length_take,List.length_drop]<;>omega
def qhs:List Int→List Sm→Sm×Sm→qav→qav
 | a::A,p::P,s,x=>qhs A P (if a=1 then (s.1,qaj 2 [s.2,p]) else (qaj 2 [p,s.1],qaj 2 [p,s.2])) (if a=1 then qaH x 2 [s.2,p] else qaH (qaH x 2 [p,s.1]) 2 [p,s.2])
 | _,_,_,x=>x
end Go.Inc

set_option linter.unusedVariables false
set_option maxRecDepth 100000
namespace Go.Inc
open Go
end Go.Inc

set_option linter.unusedVariables false
namespace Go.Inc
open Go
def bkIn (N:List Nt) (x:qav):Prop:=∀y,x=some y→∀z∈y.1,z∈N
theorem bkIn.of {N:List Nt} {x:qav} {k:Int} {p:List (List UInt8)} (h:bkIn N (qaH x k p)):bkIn N x:=fun y hy z hz=>by
 subst hy
 exact h _ rfl z (qoO _ _ _ z hz)
theorem bkIn.root: ∀(k:Nat) {N:List Nt} {l:List Sm} {x:qav},l.length≤k→bkIn N (qcg x l)→bkIn N x
 | 0,N,l,x,hk,h=>by
   obtain rfl:l=[]:=List.length_eq_zero_iff.1 (by omega)
   rw [qdv] at h;exact h.of
 | k+1,N,l,x,hk,h=>by
   rcases Nat.lt_or_ge l.length 2 with h2 | h2
   ·match l,h2 with
    | [],_=>rw [qdv] at h;exact h.of
    | [a],_=>rw [qdw] at h;exact h
   ·have a1:=qdq h2
    have a2:=qez h2
    rw [qdx x h2] at h
    exact bkIn.root k (by simp only [List.length_take];omega) (bkIn.root k (by simp only [List.length_drop];omega) h.of)
def qcy (x:qav):Prop:=∀y,x=some y→∀z∈y.1,z.2.length≤200
theorem qcy.of {x:qav} {k:Int} {p:List (List UInt8)} (h:qcy x) (hp:qah p≤199):qcy (qaH x k p):=fun y hy z hz=>by
 cases x with
 | none=>cases hy
 | some u=>
   cases hy
   rcases qe2 hz with hz | hz
   ·exact h u rfl z hz
   ·rw [hz]
    have:=qbw k (l:=p) (by omega)
    exact Nat.le_trans this (by omega)
theorem qpA {a b:Sm} (ha:a.length=32) (hb:b.length=32):qah [a,b]≤199:=by simp [qah,ha,hb]
theorem qcy.root: ∀(k:Nat) {l:List Sm} {x:qav},l.length≤k→(∀z∈l,z.length=32)→qcy x→qcy (qcg x l)
 | 0,l,x,hk,hl,h=>by
   obtain rfl:l=[]:=List.length_eq_zero_iff.1 (by omega)
   rw [qdv];exact h.of (by simp [qah])
 | k+1,l,x,hk,hl,h=>by
   rcases Nat.lt_or_ge l.length 2 with h2 | h2
   ·match l,h2 with
    | [],_=>rw [qdv];exact h.of (by simp [qah])
    | [a],_=>rw [qdw];exact h
   ·have a1:=qdq h2
    have a2:=qez h2
    have w1: ∀z∈l.take (half l.length),z.length=32:=fun z hz=>hl z (List.mem_of_mem_take hz)
    have w2: ∀z∈l.drop (half l.length),z.length=32:=fun z hz=>hl z (List.mem_of_mem_drop hz)
    rw [qdx x h2]
    exact (qcy.root k (by simp only [List.length_drop];omega) w2 (qcy.root k (by simp only [List.length_take];omega) w1 h)).of (qpA (qis w1) (qis w2))
theorem qcy.fold: ∀ {A:List Int} {P:List Sm} {s:Sm×Sm} {x:qav},s.1.length=32→s.2.length=32→(∀z∈P,z.length=32)→qcy x→qcy (qhs A P s x)
 | [],P,s,x,_,_,_,h=>by simpa [qhs] using h
 | _::_,[],s,x,_,_,_,h=>by simpa [qhs] using h
 | a::A,p::P,s,x,h1,h2,hP,h=>by
   have hp:=hP p (by simp)
   have hP': ∀z∈P,z.length=32:=fun z hz=>hP z (by simp [hz])
   simp only [qhs]
   split
   ·exact qcy.fold h1 (qcx _ _) hP' (h.of (qpA h2 hp))
   ·exact qcy.fold (qcx _ _) (qcx _ _) hP' ((h.of (qpA hp h1)).of (qpA hp h2))
theorem qaJ.fold: ∀ {A:List Int} {P:List Sm} {s:Sm×Sm} {x:qav} {n:Nat},qaJ x (n+2 *P.length)→qaJ (qhs A P s x) n
 | [],P,s,x,n,h=>by simp only [qhs];exact h.le (by omega)
 | _::_,[],s,x,n,h=>by simp only [qhs];exact h.le (by omega)
 | a::A,p::P,s,x,n,h=>by
   simp only [qhs]
   refine qaJ.fold ?_
   have h':qaJ x (n+2 *P.length+1+1):=h.le (by simp only [List.length_cons];omega)
   split
   ·exact (h'.le (by omega):qaJ x (n+2 *P.length+1)).of _ _
   ·exact (h'.of _ _).of _ _
end Go.Inc

set_option linter.unusedVariables false
namespace Go.Inc
open Go
end Go.Inc

set_option linter.unusedVariables false
namespace Go.Inc
open Go
def qcl (x:qav) (n:Nat):Prop:=∃y,x=some y∧y.2=(n:Int)
theorem qcl.of {x:qav} {n:Nat} (h:qcl x n) (hn:n≤1048576) (k:Int) (l:List (List UInt8)):qcl (qaH x k l) (n+1):=by
 obtain ⟨y,rfl,hy⟩:=h
 refine ⟨_,rfl,?_⟩
 show IntKind.i64.wrap (y.2+1)=_
 rw [hy,qaw (wf64 (by omega) (by omega))]
 omega
theorem qcl.calls {x:qav} {n:Nat} (h:qcl x n):qbr x=(n:Int):=by
 obtain ⟨y,rfl,hy⟩:=h
 exact hy
theorem qcl.root: ∀(k:Nat) {l:List Sm} {x:qav} {n:Nat},l.length≤k→1≤l.length→qcl x n→n+l.length≤1048576→qcl (qcg x l) (n+(l.length - 1))
 | 0,l,x,n,hk,h1,h,hb=>by omega
 | k+1,l,x,n,hk,h1,h,hb=>by
   rcases Nat.lt_or_ge l.length 2 with h2 | h2
   ·match l,h1,h2 with
    | [a],_,_=>rw [qdw];exact h
   ·have a1:=qdq h2
    have a2:=qez h2
    have l1:(l.take (half l.length)).length=half l.length:=by rw [List.length_take];omega
    have l2:(l.drop (half l.length)).length=l.length - half l.length:=List.length_drop
    rw [qdx x h2]
    have i1:=qcl.root k (l:=l.take (half l.length)) (by omega) (by omega) h (by omega)
    have i2:=qcl.root k (l:=l.drop (half l.length)) (by omega) (by omega) i1 (by omega)
    have i3:=i2.of (by omega) 2 [qc8 (l.take (half l.length)),qc8 (l.drop (half l.length))]
    rw [l1,l2,show n+(half l.length - 1)+(l.length - half l.length - 1)+1=n+(l.length - 1) from by omega] at i3
    exact i3
end Go.Inc

set_option linter.unusedVariables false
namespace Go.Inc
open Go
end Go.Inc

set_option linter.unusedVariables false
namespace Go.Inc
open Go Go.RowKit
section
variable {P:Program} {w:World} {K:Ghost} {ρ:Env} {dst:Option Tmp} {x y:Operand} {ty:TypeId}
end
end Go.Inc

set_option linter.unusedVariables false
namespace Go.Inc
open Go Go.RowKit
section
variable {P:Program} {f:FuncId} {pm:List PM} {rm:List RM} {e:Nat}
end
end Go.Inc

set_option linter.unusedVariables false
namespace Go.Inc
open Go
end Go.Inc

set_option linter.unusedVariables false
set_option maxRecDepth 100000
set_option maxHeartbeats 20000000
namespace Go.Proofs.Ytmjjkpiglbpkhaa
open Go Go.RowKit Go.Inc
noncomputable def qcU:Ctr:=⟨[.v (.sl .byte)],[.ow 5 .byte],some (fun a=>(fun (a0_s:List UInt8)=>(a0_s.length≤140737488355328:Prop)) a.1),fun a=>(fun (a0_s:List UInt8)=>((a0_s,()),(()))) a.1⟩
noncomputable def qlI:Fx:=⟨seat,some bkT,fns,[],[],[],[]⟩
def qgT (a0_s:List UInt8) (Q:(List UInt8)→Prop):Prop:=
 ∀(x0:Bool),(x0=true→a0_s=([]:List UInt8))→(x0=true→Q ([]:List UInt8))∧(x0=false→(([]:List UInt8).length+a0_s.length) *(1:Nat)≤(140737488355328:Nat)∧Q (([]:List UInt8)++a0_s))
theorem qoq {a0_s:List UInt8} (w_0:(Ty.kd (.sl .byte)).wf a0_s) (hp:a0_s.length≤140737488355328):qgT a0_s (fun o0=>o0=a0_s):=by
 unfold qgT
 intro r hr
 refine ⟨fun h=>?_,fun _=>⟨?_,rfl⟩⟩
 ·rw [hr h]
 ·simpa using hp
theorem qop:(∀a,qcU.pre a→PM.wfP qcU.pm a (fvc qlI 200 69 qcU a (eqO qcU a)))=(∀a:(List UInt8)×Unit,((a.1).length≤140737488355328)→(Ty.kd (.sl .byte)).wf a.1→qgT a.1 (fun o0=>o0=(a.1))):=by kernel_rfl
theorem qgU:qcU.valid Try.prog 69:=qaB (X:=qlI) (qaY qas (fun b hb=>by cases hb;exact qaA) qaC trivial) 200 (qop.mpr fun a hp w_0=> @qoq a.1 w_0 hp)
noncomputable def qfo:Ctr:=⟨[.v (.sl .byte),.v (.sl .byte)],[.v .bool],none,fun a=>(fun (a0_a:List UInt8) (a1_b:List UInt8)=>((decide (a0_a=a1_b),()),(()))) a.1 a.2.1⟩
noncomputable def qlL:Fx:=⟨seat,some bkT,fns,[],[],[],[]⟩
def qjO (a0_a:List UInt8) (a1_b:List UInt8) (Q:Bool→Prop):Prop:=
 Q (decide (a0_a=a1_b))
theorem qou {a0_a:List UInt8} {a1_b:List UInt8} (w_0:(Ty.kd (.sl .byte)).wf a0_a) (w_1:(Ty.kd (.sl .byte)).wf a1_b):qjO a0_a a1_b (fun o0=>o0=decide (a0_a=a1_b)):=by
 exact rfl
theorem qot:(∀a,qfo.pre a→PM.wfP qfo.pm a (fvc qlL 200 85 qfo a (eqO qfo a)))=(∀a:(List UInt8)×(List UInt8)×Unit,True→(Ty.kd (.sl .byte)).wf a.1→(Ty.kd (.sl .byte)).wf a.2.1→qjO a.1 a.2.1 (fun o0=>o0=decide ((a.1)=(a.2.1)))):=by kernel_rfl
theorem qqF:qfo.valid Try.prog 85:=qaB (X:=qlL) (qaY qas (fun b hb=>by cases hb;exact qaA) qaC trivial) 200 (qot.mpr fun a hp w_0 w_1=> @qou a.1 a.2.1 w_0 w_1)
noncomputable def qej:Ctr:=⟨[.v (.int .u64)],[.v (.int .i64)],none,fun a=>(fun (a0_x:Int)=>(((blen a0_x.toNat:Int),()),(()))) a.1⟩
noncomputable def qlX:Fx:=⟨seat,some bkT,fns,[],[],[],[]⟩
def qgY (a0_x:Int) (Q:Int→Prop):Prop:=
 ((4294967296:Int)≤a0_x→((65536:Int)≤shr IntKind.u64 a0_x (32:Int)→((256:Int)≤shr IntKind.u64 (shr IntKind.u64 a0_x (32:Int)) (16:Int)→((0:Int)≤IntKind.u8.wrap (shr IntKind.u64 (shr IntKind.u64 (shr IntKind.u64 a0_x (32:Int)) (16:Int)) (8:Int))∧IntKind.u8.wrap (shr IntKind.u64 (shr IntKind.u64 (shr IntKind.u64 a0_x (32:Int)) (16:Int)) (8:Int))<(qap.length:Int))∧Q (IntKind.i64.wrap (IntKind.i64.wrap (IntKind.i64.wrap ((32:Int)+(16:Int))+(8:Int))+bI (ix qap (IntKind.u8.wrap (shr IntKind.u64 (shr IntKind.u64 (shr IntKind.u64 a0_x (32:Int)) (16:Int)) (8:Int)))))))∧(¬(256:Int)≤shr IntKind.u64 (shr IntKind.u64 a0_x (32:Int)) (16:Int)→((0:Int)≤IntKind.u8.wrap (shr IntKind.u64 (shr IntKind.u64 a0_x (32:Int)) (16:Int))∧IntKind.u8.wrap (shr IntKind.u64 (shr IntKind.u64 a0_x (32:Int)) (16:Int))<(qap.length:Int))∧Q (IntKind.i64.wrap (IntKind.i64.wrap ((32:Int)+(16:Int))+bI (ix qap (IntKind.u8.wrap (shr IntKind.u64 (shr IntKind.u64 a0_x (32:Int)) (16:Int))))))))∧(¬(65536:Int)≤shr IntKind.u64 a0_x (32:Int)→((256:Int)≤shr IntKind.u64 a0_x (32:Int)→((0:Int)≤IntKind.u8.wrap (shr IntKind.u64 (shr IntKind.u64 a0_x (32:Int)) (8:Int))∧IntKind.u8.wrap (shr IntKind.u64 (shr IntKind.u64 a0_x (32:Int)) (8:Int))<(qap.length:Int))∧Q (IntKind.i64.wrap (IntKind.i64.wrap ((32:Int)+(8:Int))+bI (ix qap (IntKind.u8.wrap (shr IntKind.u64 (shr IntKind.u64 a0_x (32:Int)) (8:Int)))))))∧(¬(256:Int)≤shr IntKind.u64 a0_x (32:Int)→((0:Int)≤IntKind.u8.wrap (shr IntKind.u64 a0_x (32:Int))∧IntKind.u8.wrap (shr IntKind.u64 a0_x (32:Int))<(qap.length:Int))∧Q (IntKind.i64.wrap ((32:Int)+bI (ix qap (IntKind.u8.wrap (shr IntKind.u64 a0_x (32:Int)))))))))∧(¬(4294967296:Int)≤a0_x→((65536:Int)≤a0_x→((256:Int)≤shr IntKind.u64 a0_x (16:Int)→((0:Int)≤IntKind.u8.wrap (shr IntKind.u64 (shr IntKind.u64 a0_x (16:Int)) (8:Int))∧IntKind.u8.wrap (shr IntKind.u64 (shr IntKind.u64 a0_x (16:Int)) (8:Int))<(qap.length:Int))∧Q (IntKind.i64.wrap (IntKind.i64.wrap (IntKind.i64.wrap ((0:Int)+(16:Int))+(8:Int))+bI (ix qap (IntKind.u8.wrap (shr IntKind.u64 (shr IntKind.u64 a0_x (16:Int)) (8:Int)))))))∧(¬(256:Int)≤shr IntKind.u64 a0_x (16:Int)→((0:Int)≤IntKind.u8.wrap (shr IntKind.u64 a0_x (16:Int))∧IntKind.u8.wrap (shr IntKind.u64 a0_x (16:Int))<(qap.length:Int))∧Q (IntKind.i64.wrap (IntKind.i64.wrap ((0:Int)+(16:Int))+bI (ix qap (IntKind.u8.wrap (shr IntKind.u64 a0_x (16:Int))))))))∧(¬(65536:Int)≤a0_x→((256:Int)≤a0_x→((0:Int)≤IntKind.u8.wrap (shr IntKind.u64 a0_x (8:Int))∧IntKind.u8.wrap (shr IntKind.u64 a0_x (8:Int))<(qap.length:Int))∧Q (IntKind.i64.wrap (IntKind.i64.wrap ((0:Int)+(8:Int))+bI (ix qap (IntKind.u8.wrap (shr IntKind.u64 a0_x (8:Int)))))))∧(¬(256:Int)≤a0_x→((0:Int)≤IntKind.u8.wrap a0_x∧IntKind.u8.wrap a0_x<(qap.length:Int))∧Q (IntKind.i64.wrap ((0:Int)+bI (ix qap (IntKind.u8.wrap a0_x)))))))
theorem qoA {a0_x:Int} (w_0:(Ty.kd (.int .u64)).wf a0_x):qgY a0_x (fun o0=>o0=(blen a0_x.toNat:Int)):=by
 obtain ⟨n,rfl⟩:=Int.eq_ofNat_of_zero_le w_0.1
 have hn:n<18446744073709551616:=by
  have h:((n:Int))≤(18446744073709551615:Int):=w_0.2
  omega
 have ht:qap=qdI:=by decide+kernel
 have s32: ∀m:Nat,shr .u64 (m:Int) 32=((m/4294967296:Nat):Int):=fun m=>qhJ (k:=32) (by decide)
 have s16: ∀m:Nat,shr .u64 (m:Int) 16=((m/65536:Nat):Int):=fun m=>qhJ (k:=16) (by decide)
 have s8: ∀m:Nat,shr .u64 (m:Int) 8=((m/256:Nat):Int):=fun m=>qhJ (k:=8) (by decide)
 have b32: ∀m:Nat,4294967296≤m→blen m=32+blen (m/4294967296):=fun m h=>qdk 32 h
 have b16: ∀m:Nat,65536≤m→blen m=16+blen (m/65536):=fun m h=>qdk 16 h
 have b8: ∀m:Nat,256≤m→blen m=8+blen (m/256):=fun m h=>qdk 8 h
 unfold qgY
 simp only [s32,s16,s8,Int.toNat_natCast]
 refine ⟨fun h1=>⟨fun h2=>⟨fun h3=>?_,fun h3=>?_⟩,fun h2=>⟨fun h3=>?_,fun h3=>?_⟩⟩,fun h1=>⟨fun h2=>⟨fun h3=>?_,fun h3=>?_⟩,fun h2=>⟨fun h3=>?_,fun h3=>?_⟩⟩⟩
 ·exact qcf (k:=56) (by omega) (by omega) (by rw [b32 n (by omega),b16 _ (by omega),b8 _ (by omega)];omega) (by decide) ht
 ·exact qcf (k:=48) (by omega) (by omega) (by rw [b32 n (by omega),b16 _ (by omega)];omega) (by decide) ht
 ·exact qcf (k:=40) (by omega) (by omega) (by rw [b32 n (by omega),b8 _ (by omega)];omega) (by decide) ht
 ·exact qcf (k:=32) (by omega) (by omega) (by rw [b32 n (by omega)]) (by decide) ht
 ·exact qcf (k:=24) (by omega) (by omega) (by rw [b16 n (by omega),b8 _ (by omega)];omega) (by decide) ht
 ·exact qcf (k:=16) (by omega) (by omega) (by rw [b16 n (by omega)]) (by decide) ht
 ·exact qcf (k:=8) (by omega) (by omega) (by rw [b8 n (by omega)]) (by decide) ht
 ·exact qcf (k:=0) (by omega) (by omega) (by omega) (by decide) ht
theorem qoz:(∀a,qej.pre a→PM.wfP qej.pm a (fvc qlX 200 108 qej a (eqO qej a)))=(∀a:Int×Unit,True→(Ty.kd (.int .u64)).wf a.1→qgY a.1 (fun o0=>o0=(blen (a.1).toNat:Int))):=by kernel_rfl
theorem qqR:qej.valid Try.prog 108:=qaB (X:=qlX) (qaY qas (fun b hb=>by cases hb;exact qaA) qaC trivial) 200 (qoz.mpr fun a hp w_0=> @qoA a.1 w_0)
noncomputable def qkW:Ctr:=⟨[.v (.sl .byte),.v (.sl (.int .u64))],[.ow 5 .byte],some (fun a=>(fun (a0_b:List UInt8) (a1_l:List Int)=>(a0_b.length+9 *a1_l.length≤140737488355328:Prop)) a.1 a.2.1),fun a=>(fun (a0_b:List UInt8) (a1_l:List Int)=>(((a0_b++qbA a1_l),()),(()))) a.1 a.2.1⟩
noncomputable def qsl:Fx:=⟨seat,some bkT,fns,[(69,qcU),(108,qej)],[],[],[]⟩
def ql3 (a0_b:List UInt8) (a1_l:List Int) (Q:(List UInt8)→Prop):Prop:=
 a0_b.length≤(140737488355328:Nat)∧(Ty.byte.kd.sl.wf a0_b→∃(x0:List UInt8→Int→Prop),∃(x1:List UInt8→Int→Nat),x0 a0_b (0:Int)∧∀(x2:List UInt8) (x3:Int),x0 x2 x3→Ty.byte.kd.sl.wf x2→(Kd.int IntKind.i64).wf x3→(x3<(a1_l.length:Int)→((0:Int)≤x3∧x3<(a1_l.length:Int))∧((Ty.int IntKind.i64).kd.wf (blen (ix a1_l x3).toNat:Int)→(x2.length+(toB (IntKind.u8.wrap (IntKind.i64.wrap ((IntKind.i64.wrap ((blen (ix a1_l x3).toNat:Int)+(7:Int))).tdiv (8:Int))))::([]:List UInt8)).length) *(1:Nat)≤(140737488355328:Nat)∧∃(x9:List UInt8→Int→Prop),∃(x10:List UInt8→Int→Nat),x9 (x2++toB (IntKind.u8.wrap (IntKind.i64.wrap ((IntKind.i64.wrap ((blen (ix a1_l x3).toNat:Int)+(7:Int))).tdiv (8:Int))))::([]:List UInt8)) (IntKind.i64.wrap ((8:Int) *IntKind.i64.wrap ((IntKind.i64.wrap ((blen (ix a1_l x3).toNat:Int)+(7:Int))).tdiv (8:Int))))∧∀(x11:List UInt8) (x12:Int),x9 x11 x12→Ty.byte.kd.sl.wf x11→(Kd.int IntKind.i64).wf x12→((0:Int)<x12→(0:Int)≤IntKind.i64.wrap (x12 - (8:Int))∧(x11.length+(toB (IntKind.u8.wrap (shr IntKind.u64 (ix a1_l x3) (IntKind.i64.wrap (x12 - (8:Int)))))::([]:List UInt8)).length) *(1:Nat)≤(140737488355328:Nat)∧x9 (x11++toB (IntKind.u8.wrap (shr IntKind.u64 (ix a1_l x3) (IntKind.i64.wrap (x12 - (8:Int)))))::([]:List UInt8)) (IntKind.i64.wrap (x12 - (8:Int)))∧x10 (x11++toB (IntKind.u8.wrap (shr IntKind.u64 (ix a1_l x3) (IntKind.i64.wrap (x12 - (8:Int)))))::([]:List UInt8)) (IntKind.i64.wrap (x12 - (8:Int)))<x10 x11 x12)∧(¬(0:Int)<x12→x3<(9223372036854775807:Int)∧x0 x11 (x3+(1:Int))∧x1 x11 (x3+(1:Int))<x1 x2 x3)))∧(¬x3<(a1_l.length:Int)→Q x2))
theorem qsn {a0_b:List UInt8} {a1_l:List Int} (w_0:(Ty.kd (.sl .byte)).wf a0_b) (w_1:(Ty.kd (.sl (.int .u64))).wf a1_l) (hp:a0_b.length+9 *a1_l.length≤140737488355328):ql3 a0_b a1_l (fun o0=>o0=(a0_b++qbA a1_l)):=by
 have hw: ∀x∈a1_l,∃n:Nat,x=(n:Int)∧n<2^64:=fun x hx=>by
  obtain ⟨n,rfl⟩:=Int.eq_ofNat_of_zero_le (w_1.2 x hx).1
  have h:((n:Int))≤(18446744073709551615:Int):=(w_1.2 (n:Int) hx).2
  exact ⟨n,rfl,by omega⟩
 have hlen: ∀j,j≤a1_l.length→(qbA (a1_l.take j)).length≤9 *j:=by
  intro j
  induction j with
  | zero=>intro _;simp [qbA]
  | succ j ih=>
    intro hj
    have hlt:(j:Int)<(a1_l.length:Int):=by omega
    obtain ⟨n,hn,hb⟩:=hw _ (qce (by omega) hlt)
    have h1:=qcL hb
    have h2:=ih (by omega)
    rw [qbh hlt]
    unfold qbA at *
    rw [List.flatMap_append,List.length_append]
    simp only [List.flatMap_cons,List.flatMap_nil,List.append_nil,hn,Int.toNat_natCast]
    omega
 unfold ql3
 refine ⟨by omega,fun _=>⟨fun out i=> ∃j:Nat,i=(j:Int)∧j≤a1_l.length∧out=a0_b++qbA (a1_l.take j),fun _ i=>a1_l.length - i.toNat,⟨0,rfl,by omega,by simp [qbA]⟩,?_⟩⟩
 rintro out i ⟨j,rfl,hj,rfl⟩ _ hwi
 refine ⟨fun hlt=>⟨⟨by omega,hlt⟩,fun _=>⟨?_,?_⟩⟩,fun hge=>?_⟩
 ·have:=hlen j hj
  simp only [List.length_append,List.length_cons,List.length_nil]
  omega
 ·obtain ⟨n,hn,hb⟩:=hw _ (qce (by omega) hlt)
  have hbl:=qfC 64 hb
  have hk:=quw hbl
  rw [hn]
  simp only [Int.toNat_natCast,hk]
  rw [qqu]
  generalize hkk:(blen n+7)/8=k
  have hk8:k≤8:=by omega
  have hT:a0_b++qbA (a1_l.take (j+1))=a0_b++qbA (a1_l.take j)++ [UInt8.ofNat k]++be n k:=by
   rw [qbh hlt]
   simp [qbA,numB,hn,hkk]
  have hTl:=hlen (j+1) (by omega)
  have hTl2:(a0_b++qbA (a1_l.take (j+1))).length≤140737488355328:=by
   rw [List.length_append]
   omega
  refine ⟨fun out at_=> ∃m:Nat,m≤k∧at_=((8 *m:Nat):Int)∧out++be n m=a0_b++qbA (a1_l.take (j+1)),fun _ at_=>at_.toNat,⟨k,Nat.le_refl _,?_,hT.symm⟩,?_⟩
  ·rw [qaw (wf64 (by omega) (by omega))]
   omega
  ·rintro out at_ ⟨m,hm,rfl,hout⟩ _ _
   refine ⟨fun hpos=>?_,fun hz=>?_⟩
   ·obtain ⟨m,rfl⟩: ∃m',m=m'+1:=⟨m - 1,by omega⟩
    have e8:IntKind.i64.wrap (((8 *(m+1):Nat):Int) - 8)=((8 *m:Nat):Int):=by
     rw [qaw (wf64 (by omega) (by omega))]
     omega
    rw [e8,qmL (by omega)]
    have hol:=congrArg List.length hout
    simp only [List.length_append,qa1] at hol
    simp only [List.length_append] at hTl2
    refine ⟨by omega,?_,⟨m,by omega,rfl,?_⟩,?_⟩
    ·simp only [List.length_cons,List.length_nil]
     omega
    ·rw [←hout]
     simp [be]
    ·show ((8 *m:Nat):Int).toNat<((8 *(m+1):Nat):Int).toNat
     omega
   ·have:m=0:=by omega
    subst this
    have h2:=w_1.1
    unfold LM at h2
    refine ⟨by omega,⟨j+1,rfl,by omega,by simpa [be] using hout⟩,?_⟩
    show a1_l.length - ((j+1:Nat):Int).toNat<a1_l.length - (j:Int).toNat
    omega
 ·have:j=a1_l.length:=by omega
  subst this
  rw [List.take_length]
theorem qsm:(∀a,qkW.pre a→PM.wfP qkW.pm a (fvc qsl 200 62 qkW a (eqO qkW a)))=(∀a:(List UInt8)×(List Int)×Unit,((a.1).length+9 *(a.2.1).length≤140737488355328)→(Ty.kd (.sl .byte)).wf a.1→(Ty.kd (.sl (.int .u64))).wf a.2.1→ql3 a.1 a.2.1 (fun o0=>o0=((a.1)++qbA (a.2.1)))):=by kernel_rfl
theorem qtR:qkW.valid Try.prog 62:=qaB (X:=qsl) (qaY qas (fun b hb=>by cases hb;exact qaA) qaC ⟨qgU,qqR,trivial⟩) 200 (qsm.mpr fun a hp w_0 w_1=> @qsn a.1 a.2.1 w_0 w_1 hp)
noncomputable def qgh:Ctr:=⟨[.v (.sl .byte),.v (.sl (.sl .byte))],[.ow 5 .byte],some (fun a=>(fun (a0_b:List UInt8) (a1_l:List (List UInt8))=>(a0_b.length+qah a1_l≤140737488355328:Prop)) a.1 a.2.1),fun a=>(fun (a0_b:List UInt8) (a1_l:List (List UInt8))=>(((a0_b++qaP a1_l),()),(()))) a.1 a.2.1⟩
noncomputable def qpW:Fx:=⟨seat,some bkT,fns,[(69,qcU),(62,qkW)],[],[],[]⟩
def qiG (a0_b:List UInt8) (a1_l:List (List UInt8)) (Q:(List UInt8)→Prop):Prop:=
 a0_b.length≤(140737488355328:Nat)∧(Ty.byte.kd.sl.wf a0_b→∃(x0:List UInt8→Int→Prop),∃(x1:List UInt8→Int→Nat),x0 a0_b (0:Int)∧∀(x2:List UInt8) (x3:Int),x0 x2 x3→Ty.byte.kd.sl.wf x2→(Kd.int IntKind.i64).wf x3→(x3<(a1_l.length:Int)→((0:Int)≤x3∧x3<(a1_l.length:Int))∧x2.length+(9:Nat) *(IntKind.u64.wrap ((ix a1_l x3).length:Int)::([]:List Int)).length≤(140737488355328:Nat)∧(Ty.byte.kd.sl.wf (x2++qbA (IntKind.u64.wrap ((ix a1_l x3).length:Int)::([]:List Int)))→((x2++qbA (IntKind.u64.wrap ((ix a1_l x3).length:Int)::([]:List Int))).length+(ix a1_l x3).length) *(1:Nat)≤(140737488355328:Nat)∧x3<(9223372036854775807:Int)∧x0 (x2++qbA (IntKind.u64.wrap ((ix a1_l x3).length:Int)::([]:List Int))++ix a1_l x3) (x3+(1:Int))∧x1 (x2++qbA (IntKind.u64.wrap ((ix a1_l x3).length:Int)::([]:List Int))++ix a1_l x3) (x3+(1:Int))<x1 x2 x3))∧(¬x3<(a1_l.length:Int)→Q x2))
theorem qqB {a0_b:List UInt8} {a1_l:List (List UInt8)} (w_0:(Ty.kd (.sl .byte)).wf a0_b) (w_1:(Ty.kd (.sl (.sl .byte))).wf a1_l) (hp:a0_b.length+qah a1_l≤140737488355328):qiG a0_b a1_l (fun o0=>o0=(a0_b++qaP a1_l)):=by
 have hw: ∀x∈a1_l,x.length≤LM:=fun x hx=>(w_1.2 x hx).1
 unfold qiG
 refine ⟨by omega,fun _=>⟨fun out i=> ∃j:Nat,i=(j:Int)∧j≤a1_l.length∧out=a0_b++qaP (a1_l.take j),fun _ i=>a1_l.length - i.toNat,⟨0,rfl,by omega,by simp [qaP]⟩,?_⟩⟩
 rintro out i ⟨j,rfl,hj,rfl⟩ _ _
 refine ⟨fun hlt=>⟨⟨by omega,hlt⟩,?_,fun _=>⟨?_,by have:=w_1.1;unfold LM at this;omega,?_,?_⟩⟩,fun hge=>?_⟩
 ·have h1:=qbq (a1_l.take j) (fun y hy=>by have:=hw y (List.mem_of_mem_take hy);unfold LM at this;omega)
  have h2:=qcD hlt
  simp only [List.length_append,List.length_cons,List.length_nil]
  omega
 ·have h1:=qbq (a1_l.take j) (fun y hy=>by have:=hw y (List.mem_of_mem_take hy);unfold LM at this;omega)
  have h2:=qcD hlt
  have h3:=hw _ (qce (by omega) hlt)
  have h4:IntKind.u64.wrap ((ix a1_l (j:Int)).length:Int)=((ix a1_l (j:Int)).length:Int):=qaw ⟨by show (0:Int)≤_;omega,by unfold LM at h3;show _≤(18446744073709551615:Int);omega⟩
  have h5:=qcL (n:=(ix a1_l (j:Int)).length) (by unfold LM at h3;omega)
  rw [h4]
  simp only [List.length_append,qbA,List.flatMap_cons,List.flatMap_nil,List.append_nil,Int.toNat_natCast]
  omega
 ·have h3:=hw _ (qce (by omega) hlt)
  have h4:IntKind.u64.wrap ((ix a1_l (j:Int)).length:Int)=((ix a1_l (j:Int)).length:Int):=qaw ⟨by show (0:Int)≤_;omega,by unfold LM at h3;show _≤(18446744073709551615:Int);omega⟩
  refine ⟨j+1,by omega,by omega,?_⟩
  rw [h4,qbh hlt]
  simp [qaP,qbA]
 ·show a1_l.length - ((j:Int)+1).toNat<a1_l.length - (j:Int).toNat
  omega
 ·have:j=a1_l.length:=by omega
  subst this
  rw [List.take_length]
theorem qqA:(∀a,qgh.pre a→PM.wfP qgh.pm a (fvc qpW 200 95 qgh a (eqO qgh a)))=(∀a:(List UInt8)×(List (List UInt8))×Unit,((a.1).length+qah (a.2.1)≤140737488355328)→(Ty.kd (.sl .byte)).wf a.1→(Ty.kd (.sl (.sl .byte))).wf a.2.1→qiG a.1 a.2.1 (fun o0=>o0=((a.1)++qaP (a.2.1)))):=by kernel_rfl
theorem qsa:qgh.valid Try.prog 95:=qaB (X:=qpW) (qaY qas (fun b hb=>by cases hb;exact qaA) qaC ⟨qgU,qtR,trivial⟩) 200 (qqA.mpr fun a hp w_0 w_1=> @qqB a.1 a.2.1 w_0 w_1 hp)
noncomputable def qbF:Ctr:=⟨[.v (.int .i64),.v (.sl (.sl .byte))],[.ow 5 .byte],some (fun a=>(fun (a0_kind:Int) (a1_parts:List (List UInt8))=>(1+qah a1_parts≤140737488355328:Prop)) a.1 a.2.1),fun a=>(fun (a0_kind:Int) (a1_parts:List (List UInt8))=>(((preimage a0_kind a1_parts),()),(()))) a.1 a.2.1⟩
noncomputable def qgk:Fx:=⟨seat,some bkT,fns,[(95,qgh)],[],[],[]⟩
def qdF (a0_kind:Int) (a1_parts:List (List UInt8)) (Q:(List UInt8)→Prop):Prop:=
 (toB (IntKind.u8.wrap a0_kind)::([]:List UInt8)).length+qah a1_parts≤(140737488355328:Nat)∧(Ty.byte.kd.sl.wf (toB (IntKind.u8.wrap a0_kind)::([]:List UInt8)++qaP a1_parts)→Q (toB (IntKind.u8.wrap a0_kind)::([]:List UInt8)++qaP a1_parts))
theorem qiS {a0_kind:Int} {a1_parts:List (List UInt8)} (w_0:(Ty.kd (.int .i64)).wf a0_kind) (w_1:(Ty.kd (.sl (.sl .byte))).wf a1_parts) (hp:1+qah a1_parts≤140737488355328):qdF a0_kind a1_parts (fun o0=>o0=(preimage a0_kind a1_parts)):=by
 unfold qdF
 refine ⟨by simpa using hp,fun _=>rfl⟩
theorem qiR:(∀a,qbF.pre a→PM.wfP qbF.pm a (fvc qgk 200 98 qbF a (eqO qbF a)))=(∀a:Int×(List (List UInt8))×Unit,(1+qah (a.2.1)≤140737488355328)→(Ty.kd (.int .i64)).wf a.1→(Ty.kd (.sl (.sl .byte))).wf a.2.1→qdF a.1 a.2.1 (fun o0=>o0=(preimage (a.1) (a.2.1)))):=by kernel_rfl
theorem qem:qbF.valid Try.prog 98:=qaB (X:=qgk) (qaY qas (fun b hb=>by cases hb;exact qaA) qaC ⟨qsa,trivial⟩) 200 (qiR.mpr fun a hp w_0 w_1=> @qiS a.1 a.2.1 w_0 w_1 hp)
noncomputable def qiN:Ctr:=⟨[],[.bx (.pr (.arr 8 (.int .u32)) (.pr (.int .u64) (.sl .byte)))],none,fun _=>((((List.replicate 8 (0:Int),(0:Int),([]:List UInt8)):List Int×Int×List UInt8),()),(()))⟩
noncomputable def qsg:Fx:=⟨seat,some bkT,fns,[],[],[],[]⟩
def qpZ (Q:((List Int)×Int×List UInt8)→Prop):Prop:=
 Q ((Ty.arr (8:Nat) (Ty.int IntKind.u32)).pr ((Ty.int IntKind.u64).pr Ty.byte.sl)).kd.z
theorem qsj  :qpZ  (fun o0=>o0=((List.replicate 8 (0:Int),(0:Int),([]:List UInt8)):List Int×Int×List UInt8)):=by
 exact rfl
theorem qsh:(∀a,qiN.pre a→PM.wfP qiN.pm a (fvc qsg 200 123 qiN a (eqO qiN a)))=(∀a:Unit,True→qpZ  (fun o0=>o0=((List.replicate 8 (0:Int),(0:Int),([]:List UInt8)):List Int×Int×List UInt8))):=by kernel_rfl
theorem qsi:qiN.valid Try.prog 123:=qaB (X:=qsg) (qaY qas (fun b hb=>by cases hb;exact qaA) qaC trivial) 200 (qsh.mpr fun a hp  => @qsj )
noncomputable def qgz:Ctr:=⟨[.v (.int .u64)],[.ow 5 .byte],none,fun a=>(fun (a0_x:Int)=>(((be a0_x.toNat 8),()),(()))) a.1⟩
noncomputable def qqf:Fx:=⟨seat,some bkT,fns,[],[],[],[]⟩
def qjk (a0_x:Int) (Q:(List UInt8)→Prop):Prop:=
 ∃(x0:List UInt8→Int→Prop),∃(x1:List UInt8→Int→Nat),x0 ([]:List UInt8) (56:Int)∧∀(x2:List UInt8) (x3:Int),x0 x2 x3→Ty.byte.kd.sl.wf x2→(Kd.int IntKind.i64).wf x3→((0:Int)≤x3→(0:Int)≤x3∧(x2.length+(toB (IntKind.u8.wrap (shr IntKind.u64 a0_x x3))::([]:List UInt8)).length) *(1:Nat)≤(140737488355328:Nat)∧x0 (x2++toB (IntKind.u8.wrap (shr IntKind.u64 a0_x x3))::([]:List UInt8)) (IntKind.i64.wrap (x3 - (8:Int)))∧x1 (x2++toB (IntKind.u8.wrap (shr IntKind.u64 a0_x x3))::([]:List UInt8)) (IntKind.i64.wrap (x3 - (8:Int)))<x1 x2 x3)∧(¬(0:Int)≤x3→Q x2)
theorem qru {a0_x:Int} (w_0:(Ty.kd (.int .u64)).wf a0_x):qjk a0_x (fun o0=>o0=(be a0_x.toNat 8)):=by
 obtain ⟨n,rfl⟩:=Int.eq_ofNat_of_zero_le w_0.1
 unfold qjk
 rw [Int.toNat_natCast]
 refine ⟨fun b i=> ∃m:Nat,m≤8∧i=8 *(m:Int) - 8∧b++be n m=be n 8,fun _ i=>(i+8).toNat,⟨8,by omega,by omega,rfl⟩,?_⟩
 rintro b i ⟨m,hm,rfl,hb⟩ _ _
 have hbl:=congrArg List.length hb
 simp only [List.length_append,qa1] at hbl
 refine ⟨fun h0=>⟨h0,?_,?_,?_⟩,fun h=>?_⟩
 ·simp only [List.length_cons,List.length_nil]
  omega
 ·obtain ⟨m,rfl⟩: ∃m',m=m'+1:=⟨m - 1,by omega⟩
  have e:8 *((m+1:Nat):Int) - 8=((8 *m:Nat):Int):=by omega
  rw [e,qmL (by omega),qaw (wf64 (by omega) (by omega))]
  refine ⟨m,by omega,by omega,?_⟩
  rw [←hb]
  simp [be]
 ·rw [qaw (wf64 (by omega) (by omega))]
  show (8 *(m:Int) - 8 - 8+8).toNat<(8 *(m:Int) - 8+8).toNat
  omega
 ·have:m=0:=by omega
  subst this
  simpa [be] using hb
theorem qrt:(∀a,qgz.pre a→PM.wfP qgz.pm a (fvc qqf 200 139 qgz a (eqO qgz a)))=(∀a:Int×Unit,True→(Ty.kd (.int .u64)).wf a.1→qjk a.1 (fun o0=>o0=(be (a.1).toNat 8))):=by kernel_rfl
theorem qtp:qgz.valid Try.prog 139:=qaB (X:=qqf) (qaY qas (fun b hb=>by cases hb;exact qaA) qaC trivial) 200 (qrt.mpr fun a hp w_0=> @qru a.1 w_0)
noncomputable def qey:Ctr:=⟨[],[.v (.arr 8 (.int .u32))],none,fun _=>((shaH,()),(()))⟩
noncomputable def qm9:Fx:=⟨seat,some bkT,fns,[],[],[],[]⟩
def qkj (Q:(List Int)→Prop):Prop:=
 Q ((1779033703:Int)::(3144134277:Int)::(1013904242:Int)::(2773480762:Int)::(1359893119:Int)::(2600822924:Int)::(528734635:Int)::(1541459225:Int)::([]:List Int))
theorem qpd  :qkj  (fun o0=>o0=shaH):=by
 exact rfl
theorem qpc:(∀a,qey.pre a→PM.wfP qey.pm a (fvc qm9 200 135 qey a (eqO qey a)))=(∀a:Unit,True→qkj  (fun o0=>o0=shaH)):=by kernel_rfl
theorem qrq:qey.valid Try.prog 135:=qaB (X:=qm9) (qaY qas (fun b hb=>by cases hb;exact qaA) qaC trivial) 200 (qpc.mpr fun a hp  => @qpd )
noncomputable def qdy:Ctr:=⟨[],[.v (.arr 64 (.int .u32))],none,fun _=>((shaK,()),(()))⟩
noncomputable def qkB:Fx:=⟨seat,some bkT,fns,[],[],[],[]⟩
def qit (Q:(List Int)→Prop):Prop:=
 Q ((1116352408:Int)::(1899447441:Int)::(3049323471:Int)::(3921009573:Int)::(961987163:Int)::(1508970993:Int)::(2453635748:Int)::(2870763221:Int)::(3624381080:Int)::(310598401:Int)::(607225278:Int)::(1426881987:Int)::(1925078388:Int)::(2162078206:Int)::(2614888103:Int)::(3248222580:Int)::(3835390401:Int)::(4022224774:Int)::(264347078:Int)::(604807628:Int)::(770255983:Int)::(1249150122:Int)::(1555081692:Int)::(1996064986:Int)::(2554220882:Int)::(2821834349:Int)::(2952996808:Int)::(3210313671:Int)::(3336571891:Int)::(3584528711:Int)::(113926993:Int)::(338241895:Int)::(666307205:Int)::(773529912:Int)::(1294757372:Int)::(1396182291:Int)::(1695183700:Int)::(1986661051:Int)::(2177026350:Int)::(2456956037:Int)::(2730485921:Int)::(2820302411:Int)::(3259730800:Int)::(3345764771:Int)::(3516065817:Int)::(3600352804:Int)::(4094571909:Int)::(275423344:Int)::(430227734:Int)::(506948616:Int)::(659060556:Int)::(883997877:Int)::(958139571:Int)::(1322822218:Int)::(1537002063:Int)::(1747873779:Int)::(1955562222:Int)::(2024104815:Int)::(2227730452:Int)::(2361852424:Int)::(2428436474:Int)::(2756734187:Int)::(3204031479:Int)::(3329325298:Int)::([]:List Int))
theorem qnQ  :qit  (fun o0=>o0=shaK):=by
 exact rfl
theorem qnP:(∀a,qdy.pre a→PM.wfP qdy.pm a (fvc qkB 200 147 qdy a (eqO qdy a)))=(∀a:Unit,True→qit  (fun o0=>o0=shaK)):=by kernel_rfl
theorem qpC:qdy.valid Try.prog 147:=qaB (X:=qkB) (qaY qas (fun b hb=>by cases hb;exact qaA) qaC trivial) 200 (qnP.mpr fun a hp  => @qnQ )
noncomputable def qgp:Ctr:=⟨[.v (.int .u32),.v (.int .i64)],[.v (.int .u32)],none,fun a=>(fun (a0_x:Int) (a1_k:Int)=>(((rotl a0_x a1_k),()),(()))) a.1 a.2.1⟩
noncomputable def qp6:Fx:=⟨seat,some bkT,fns,[],[],[],[]⟩
def qmh (a0_x:Int) (a1_k:Int) (Q:Int→Prop):Prop:=
 Q (bor IntKind.u32 (shl IntKind.u32 a0_x (band IntKind.u64 (IntKind.u64.wrap a1_k) (31:Int))) (shr IntKind.u32 a0_x (IntKind.u64.wrap ((32:Int) - band IntKind.u64 (IntKind.u64.wrap a1_k) (31:Int)))))
theorem qq7 {a0_x:Int} {a1_k:Int} (w_0:(Ty.kd (.int .u32)).wf a0_x) (w_1:(Ty.kd (.int .i64)).wf a1_k):qmh a0_x a1_k (fun o0=>o0=(rotl a0_x a1_k)):=by
 exact rfl
theorem qq6:(∀a,qgp.pre a→PM.wfP qgp.pm a (fvc qp6 200 148 qgp a (eqO qgp a)))=(∀a:Int×Int×Unit,True→(Ty.kd (.int .u32)).wf a.1→(Ty.kd (.int .i64)).wf a.2.1→qmh a.1 a.2.1 (fun o0=>o0=(rotl (a.1) (a.2.1)))):=by kernel_rfl
theorem qsU:qgp.valid Try.prog 148:=qaB (X:=qp6) (qaY qas (fun b hb=>by cases hb;exact qaA) qaC trivial) 200 (qq6.mpr fun a hp w_0 w_1=> @qq7 a.1 a.2.1 w_0 w_1)
noncomputable def qeI:Ctr:=⟨[.v (.int .u32),.v (.sl (.int .i64))],[.v (.int .u32)],none,fun a=>(fun (a0_x:Int) (a1_l:List Int)=>(((qaq a0_x a1_l),()),(()))) a.1 a.2.1⟩
noncomputable def qn0:Fx:=⟨seat,some bkT,fns,[(148,qgp)],[],[],[]⟩
def qhL (a0_x:Int) (a1_l:List Int) (Q:Int→Prop):Prop:=
 ∃(x0:Int→Int→Prop),∃(x1:Int→Int→Nat),x0 (0:Int) (0:Int)∧∀(x2 x3:Int),x0 x2 x3→(Kd.int IntKind.u32).wf x2→(Kd.int IntKind.i64).wf x3→(x3<(a1_l.length:Int)→((0:Int)≤x3∧x3<(a1_l.length:Int))∧((Ty.int IntKind.u32).kd.wf (rotl a0_x (IntKind.i64.wrap ((0:Int) - ix a1_l x3)))→x3<(9223372036854775807:Int)∧x0 (bxor IntKind.u32 x2 (rotl a0_x (IntKind.i64.wrap ((0:Int) - ix a1_l x3)))) (x3+(1:Int))∧x1 (bxor IntKind.u32 x2 (rotl a0_x (IntKind.i64.wrap ((0:Int) - ix a1_l x3)))) (x3+(1:Int))<x1 x2 x3))∧(¬x3<(a1_l.length:Int)→Q x2)
theorem qpN {a0_x:Int} {a1_l:List Int} (w_0:(Ty.kd (.int .u32)).wf a0_x) (w_1:(Ty.kd (.sl (.int .i64))).wf a1_l):qhL a0_x a1_l (fun o0=>o0=(qaq a0_x a1_l)):=by
 unfold qhL
 refine ⟨fun s i=> ∃j:Nat,i=(j:Int)∧j≤a1_l.length∧s=qaq a0_x (a1_l.take j),fun _ i=>a1_l.length - i.toNat,⟨0,rfl,by omega,rfl⟩,?_⟩
 rintro s i ⟨j,rfl,hj,rfl⟩ _ _
 refine ⟨fun hlt=>⟨⟨by omega,hlt⟩,fun _=>⟨by have:=w_1.1;unfold LM at this;omega,⟨j+1,by omega,by omega,?_⟩,?_⟩⟩,fun hge=>?_⟩
 ·rw [qbh hlt]
  simp [qaq]
 ·show a1_l.length - ((j:Int)+1).toNat<a1_l.length - (j:Int).toNat
  omega
 ·have:j=a1_l.length:=by omega
  subst this
  rw [List.take_length]
theorem qpM:(∀a,qeI.pre a→PM.wfP qeI.pm a (fvc qn0 200 146 qeI a (eqO qeI a)))=(∀a:Int×(List Int)×Unit,True→(Ty.kd (.int .u32)).wf a.1→(Ty.kd (.sl (.int .i64))).wf a.2.1→qhL a.1 a.2.1 (fun o0=>o0=(qaq (a.1) (a.2.1)))):=by kernel_rfl
theorem qrU:qeI.valid Try.prog 146:=qaB (X:=qn0) (qaY qas (fun b hb=>by cases hb;exact qaA) qaC ⟨qsU,trivial⟩) 200 (qpM.mpr fun a hp w_0 w_1=> @qpN a.1 a.2.1 w_0 w_1)
noncomputable def qgi:Ctr:=⟨[.bx (.pr (.arr 8 (.int .u32)) (.pr (.int .u64) (.sl .byte))) false],[.v (.int .u64)],none,fun a=>(fun (a0_h:(List Int)×Int×List UInt8)=>(((hLen a0_h),()),(()))) a.1⟩
noncomputable def qpX:Fx:=⟨seat,some bkT,fns,[],[],[],[(3,[],[.o 0 2,.o 1 2,.o 2 2,.o 3 2,.o 4 2,.o 5 2,.o 6 2,.o 7 2,.o 8 2,.o 9 2,.o 10 2,.o 11 2,.o 12 2])]⟩
def qlT (a0_h:(List Int)×Int×List UInt8) (Q:Int→Prop):Prop:=
 Q (IntKind.u64.wrap (IntKind.u64.wrap ((64:Int) *a0_h.snd.fst)+IntKind.u64.wrap (a0_h.snd.snd.length:Int)))
theorem qqN {a0_h:(List Int)×Int×List UInt8} (w_0:(Ty.kd (.pr (.arr 8 (.int .u32)) (.pr (.int .u64) (.sl .byte)))).wf a0_h):qlT a0_h (fun o0=>o0=(hLen a0_h)):=by
 exact rfl
theorem qqM:(∀a,qgi.pre a→PM.wfP qgi.pm a (fvc qpX 200 138 qgi a (eqO qgi a)))=(∀a:((List Int)×Int×List UInt8)×Unit,True→(Ty.kd (.pr (.arr 8 (.int .u32)) (.pr (.int .u64) (.sl .byte)))).wf a.1→qlT a.1 (fun o0=>o0=(hLen (a.1)))):=by kernel_rfl
theorem qsd:qgi.valid Try.prog 138:=qaB (X:=qpX) (qaY qas (fun b hb=>by cases hb;exact qaA) qaC trivial) 200 (qqM.mpr fun a hp w_0=> @qqN a.1 w_0)
noncomputable def qeh:Ctr:=⟨[.bx (.pr (.arr 8 (.int .u32)) (.pr (.int .u64) (.sl .byte))) false],[.bx (.pr (.arr 8 (.int .u32)) (.pr (.int .u64) (.sl .byte)))],some (fun a=>(fun (a0_h:(List Int)×Int×List UInt8)=>(a0_h.2.2.length≤140737488355328:Prop)) a.1),fun a=>(fun (a0_h:(List Int)×Int×List UInt8)=>((a0_h,()),(()))) a.1⟩
noncomputable def qlS:Fx:=⟨seat,some bkT,fns,[(69,qcU)],[],[],[]⟩
def qjP (a0_h:(List Int)×Int×List UInt8) (Q:((List Int)×Int×List UInt8)→Prop):Prop:=
 a0_h.snd.snd.length≤(140737488355328:Nat)∧(Ty.byte.kd.sl.wf a0_h.snd.snd→Q (a0_h.fst,a0_h.snd.fst,a0_h.snd.snd))
theorem qox {a0_h:(List Int)×Int×List UInt8} (w_0:(Ty.kd (.pr (.arr 8 (.int .u32)) (.pr (.int .u64) (.sl .byte)))).wf a0_h) (hp:a0_h.2.2.length≤140737488355328):qjP a0_h (fun o0=>o0=a0_h):=by
 exact ⟨hp,fun _=>rfl⟩
theorem qow:(∀a,qeh.pre a→PM.wfP qeh.pm a (fvc qlS 200 137 qeh a (eqO qeh a)))=(∀a:((List Int)×Int×List UInt8)×Unit,((a.1).2.2.length≤140737488355328)→(Ty.kd (.pr (.arr 8 (.int .u32)) (.pr (.int .u64) (.sl .byte)))).wf a.1→qjP a.1 (fun o0=>o0=(a.1))):=by kernel_rfl
theorem qqL:qeh.valid Try.prog 137:=qaB (X:=qlS) (qaY qas (fun b hb=>by cases hb;exact qaA) qaC ⟨qgU,trivial⟩) 200 (qow.mpr fun a hp w_0=> @qox a.1 w_0 hp)
end Go.Proofs.Ytmjjkpiglbpkhaa

set_option linter.unusedVariables false
set_option maxRecDepth 100000
set_option maxHeartbeats 20000000
namespace Go.Proofs.Ytmjjkpiglbpkhaa
open Go Go.RowKit Go.Inc
noncomputable def qgM:Ctr:=⟨[.bx (.arr 8 (.int .u32)) true,.v (.sl .byte)],[],some (fun a=>(fun (a0_s:List Int) (a1_b:List UInt8)=>(a1_b.length=64:Prop)) a.1 a.2.1),fun a=>(fun (a0_s:List Int) (a1_b:List UInt8)=>((()),((qbM a0_s a1_b),()))) a.1 a.2.1⟩
noncomputable def qqp:Fx:=⟨seat,some bkT,fns,[(146,qeI),(147,qdy)],[],[(2,[1],[]),(10,[2],[]),(18,[0],[])],[(5,[1],[.o 0 2,.o 1 2,.o 2 2,.o 3 2,.o 4 2,.o 5 2,.o 6 2,.o 7 2,.o 8 2,.o 9 2,.o 10 2,.o 11 2,.o 12 2,.o 13 2,.o 14 2,.o 15 2,.o 16 2,.o 17 2,.o 18 2,.o 19 2,.o 20 2,.o 21 2,.o 22 2,.o 23 2,.o 24 2,.o 25 2,.o 26 2,.o 27 2,.o 28 2,.o 29 2,.o 30 2,.o 31 2,.o 32 2,.o 33 2,.o 34 2,.o 35 1]),(6,[1],[.o 0 2,.o 1 2,.o 2 2,.o 3 2,.o 4 2,.o 5 2,.o 6 2,.o 7 2,.o 8 2,.o 9 2,.o 10 2,.o 11 2,.o 12 2,.o 13 2,.o 16 2,.o 17 2,.o 18 2,.o 19 2,.o 20 2,.o 23 2,.o 24 2,.o 25 2,.o 26 2,.o 29 2,.o 30 2,.o 31 2,.o 32 2,.o 33 2,.par [14,15,21,22,27] (.alt 14 0 (.alt 15 0 (.one 21 2 (.one 22 2 (.one 27 0 .fin))) (.alt 27 0 (.one 15 0 (.one 21 2 (.one 22 2 .fin))) .fin)) (.alt 27 0 (.one 14 0 (.one 15 0 (.one 21 2 (.one 22 2 .fin)))) .fin)),.o 28 0,.o 34 2,.o 35 2,.o 36 2,.o 37 1]),(12,[],[.o 0 2,.o 1 2,.o 2 2,.o 3 2,.o 4 2,.o 5 2]),(13,[],[.o 0 2,.o 1 2,.o 2 2,.o 6 2,.o 7 2,.o 8 2,.o 9 2,.o 10 2,.o 11 2,.o 12 2,.o 13 2,.o 14 2,.o 15 2,.o 17 2,.o 19 2,.o 20 2,.o 21 2,.o 3 0,.o 4 0,.o 5 2,.o 16 2,.o 18 2,.o 22 2,.o 23 2]),(14,[],[.o 0 2,.o 3 2,.o 4 2,.o 5 2,.o 6 2,.o 7 2,.o 8 2,.o 9 2,.o 10 2,.o 11 2,.o 12 2,.o 13 2,.o 14 2,.o 15 2,.o 16 2,.o 17 2,.o 1 0,.o 2 0,.o 18 2,.o 19 2]),(20,[0],[.o 0 2,.o 1 2,.o 2 2,.o 3 2,.o 4 2,.o 5 2,.o 6 2,.o 7 2,.o 8 2,.o 9 2,.o 10 2,.o 11 1])]⟩
def qjy (a0_s:List Int) (a1_b:List UInt8) (Q:(List Int)→Prop):Prop:=
 ∃(x0:Int→List Int→Prop),∃(x1:Int→List Int→Nat),x0 (0:Int) (Ty.arr (64:Nat) (Ty.int IntKind.u32)).kd.z∧∀(x2:Int) (x3:List Int),x0 x2 x3→(Kd.int IntKind.i64).wf x2→(Ty.arr (64:Nat) (Ty.int IntKind.u32)).kd.wf x3→(x2<(64:Int)→(x2<(16:Int)→((0:Int)≤IntKind.i64.wrap ((4:Int) *x2)∧IntKind.i64.wrap ((4:Int) *x2)<(a1_b.length:Int))∧((0:Int)≤IntKind.i64.wrap (IntKind.i64.wrap ((4:Int) *x2)+(1:Int))∧IntKind.i64.wrap (IntKind.i64.wrap ((4:Int) *x2)+(1:Int))<(a1_b.length:Int))∧((0:Int)≤IntKind.i64.wrap (IntKind.i64.wrap ((4:Int) *x2)+(2:Int))∧IntKind.i64.wrap (IntKind.i64.wrap ((4:Int) *x2)+(2:Int))<(a1_b.length:Int))∧((0:Int)≤IntKind.i64.wrap (IntKind.i64.wrap ((4:Int) *x2)+(3:Int))∧IntKind.i64.wrap (IntKind.i64.wrap ((4:Int) *x2)+(3:Int))<(a1_b.length:Int))∧((0:Int)≤x2∧x2<((64:Nat):Int))∧x2<(9223372036854775807:Int)∧x0 (x2+(1:Int)) (x3.set x2.toNat (bor IntKind.u32 (bor IntKind.u32 (bor IntKind.u32 (shl IntKind.u32 (bI (ix a1_b (IntKind.i64.wrap ((4:Int) *x2)))) (24:Int)) (shl IntKind.u32 (bI (ix a1_b (IntKind.i64.wrap (IntKind.i64.wrap ((4:Int) *x2)+(1:Int))))) (16:Int))) (shl IntKind.u32 (bI (ix a1_b (IntKind.i64.wrap (IntKind.i64.wrap ((4:Int) *x2)+(2:Int))))) (8:Int))) (bI (ix a1_b (IntKind.i64.wrap (IntKind.i64.wrap ((4:Int) *x2)+(3:Int)))))))∧x1 (x2+(1:Int)) (x3.set x2.toNat (bor IntKind.u32 (bor IntKind.u32 (bor IntKind.u32 (shl IntKind.u32 (bI (ix a1_b (IntKind.i64.wrap ((4:Int) *x2)))) (24:Int)) (shl IntKind.u32 (bI (ix a1_b (IntKind.i64.wrap (IntKind.i64.wrap ((4:Int) *x2)+(1:Int))))) (16:Int))) (shl IntKind.u32 (bI (ix a1_b (IntKind.i64.wrap (IntKind.i64.wrap ((4:Int) *x2)+(2:Int))))) (8:Int))) (bI (ix a1_b (IntKind.i64.wrap (IntKind.i64.wrap ((4:Int) *x2)+(3:Int)))))))<x1 x2 x3)∧(¬x2<(16:Int)→((0:Int)≤IntKind.i64.wrap (x2 - (16:Int))∧IntKind.i64.wrap (x2 - (16:Int))<((64:Nat):Int))∧((0:Int)≤IntKind.i64.wrap (x2 - (7:Int))∧IntKind.i64.wrap (x2 - (7:Int))<((64:Nat):Int))∧((0:Int)≤IntKind.i64.wrap (x2 - (15:Int))∧IntKind.i64.wrap (x2 - (15:Int))<((64:Nat):Int))∧((0:Int)≤IntKind.i64.wrap (x2 - (15:Int))∧IntKind.i64.wrap (x2 - (15:Int))<((64:Nat):Int))∧((0:Int)≤IntKind.i64.wrap (x2 - (2:Int))∧IntKind.i64.wrap (x2 - (2:Int))<((64:Nat):Int))∧((0:Int)≤IntKind.i64.wrap (x2 - (2:Int))∧IntKind.i64.wrap (x2 - (2:Int))<((64:Nat):Int))∧(((Ty.int IntKind.u32).kd.wf (qaq (ix x3 (IntKind.i64.wrap (x2 - (15:Int)))) ((7:Int)::(18:Int)::([]:List Int)))→(Ty.int IntKind.u32).kd.wf (qaq (ix x3 (IntKind.i64.wrap (x2 - (2:Int)))) ((17:Int)::(19:Int)::([]:List Int)))→((0:Int)≤x2∧x2<((64:Nat):Int))∧x2<(9223372036854775807:Int)∧x0 (x2+(1:Int)) (x3.set x2.toNat (IntKind.u32.wrap (IntKind.u32.wrap (IntKind.u32.wrap (ix x3 (IntKind.i64.wrap (x2 - (16:Int)))+ix x3 (IntKind.i64.wrap (x2 - (7:Int))))+bxor IntKind.u32 (qaq (ix x3 (IntKind.i64.wrap (x2 - (15:Int)))) ((7:Int)::(18:Int)::([]:List Int))) (shr IntKind.u32 (ix x3 (IntKind.i64.wrap (x2 - (15:Int)))) (3:Int)))+bxor IntKind.u32 (qaq (ix x3 (IntKind.i64.wrap (x2 - (2:Int)))) ((17:Int)::(19:Int)::([]:List Int))) (shr IntKind.u32 (ix x3 (IntKind.i64.wrap (x2 - (2:Int)))) (10:Int)))))∧x1 (x2+(1:Int)) (x3.set x2.toNat (IntKind.u32.wrap (IntKind.u32.wrap (IntKind.u32.wrap (ix x3 (IntKind.i64.wrap (x2 - (16:Int)))+ix x3 (IntKind.i64.wrap (x2 - (7:Int))))+bxor IntKind.u32 (qaq (ix x3 (IntKind.i64.wrap (x2 - (15:Int)))) ((7:Int)::(18:Int)::([]:List Int))) (shr IntKind.u32 (ix x3 (IntKind.i64.wrap (x2 - (15:Int)))) (3:Int)))+bxor IntKind.u32 (qaq (ix x3 (IntKind.i64.wrap (x2 - (2:Int)))) ((17:Int)::(19:Int)::([]:List Int))) (shr IntKind.u32 (ix x3 (IntKind.i64.wrap (x2 - (2:Int)))) (10:Int)))))<x1 x2 x3)∧((Ty.int IntKind.u32).kd.wf (qaq (ix x3 (IntKind.i64.wrap (x2 - (15:Int)))) ((7:Int)::(18:Int)::([]:List Int)))→(Ty.int IntKind.u32).kd.wf (qaq (ix x3 (IntKind.i64.wrap (x2 - (2:Int)))) ((17:Int)::(19:Int)::([]:List Int)))→((0:Int)≤x2∧x2<((64:Nat):Int))∧x2<(9223372036854775807:Int)∧x0 (x2+(1:Int)) (x3.set x2.toNat (IntKind.u32.wrap (IntKind.u32.wrap (IntKind.u32.wrap (ix x3 (IntKind.i64.wrap (x2 - (16:Int)))+ix x3 (IntKind.i64.wrap (x2 - (7:Int))))+bxor IntKind.u32 (qaq (ix x3 (IntKind.i64.wrap (x2 - (15:Int)))) ((7:Int)::(18:Int)::([]:List Int))) (shr IntKind.u32 (ix x3 (IntKind.i64.wrap (x2 - (15:Int)))) (3:Int)))+bxor IntKind.u32 (qaq (ix x3 (IntKind.i64.wrap (x2 - (2:Int)))) ((17:Int)::(19:Int)::([]:List Int))) (shr IntKind.u32 (ix x3 (IntKind.i64.wrap (x2 - (2:Int)))) (10:Int)))))∧x1 (x2+(1:Int)) (x3.set x2.toNat (IntKind.u32.wrap (IntKind.u32.wrap (IntKind.u32.wrap (ix x3 (IntKind.i64.wrap (x2 - (16:Int)))+ix x3 (IntKind.i64.wrap (x2 - (7:Int))))+bxor IntKind.u32 (qaq (ix x3 (IntKind.i64.wrap (x2 - (15:Int)))) ((7:Int)::(18:Int)::([]:List Int))) (shr IntKind.u32 (ix x3 (IntKind.i64.wrap (x2 - (15:Int)))) (3:Int)))+bxor IntKind.u32 (qaq (ix x3 (IntKind.i64.wrap (x2 - (2:Int)))) ((17:Int)::(19:Int)::([]:List Int))) (shr IntKind.u32 (ix x3 (IntKind.i64.wrap (x2 - (2:Int)))) (10:Int)))))<x1 x2 x3)∧True)∧((Ty.int IntKind.u32).kd.wf (qaq (ix x3 (IntKind.i64.wrap (x2 - (15:Int)))) ((7:Int)::(18:Int)::([]:List Int)))→(Ty.int IntKind.u32).kd.wf (qaq (ix x3 (IntKind.i64.wrap (x2 - (2:Int)))) ((17:Int)::(19:Int)::([]:List Int)))→((0:Int)≤x2∧x2<((64:Nat):Int))∧x2<(9223372036854775807:Int)∧x0 (x2+(1:Int)) (x3.set x2.toNat (IntKind.u32.wrap (IntKind.u32.wrap (IntKind.u32.wrap (ix x3 (IntKind.i64.wrap (x2 - (16:Int)))+ix x3 (IntKind.i64.wrap (x2 - (7:Int))))+bxor IntKind.u32 (qaq (ix x3 (IntKind.i64.wrap (x2 - (15:Int)))) ((7:Int)::(18:Int)::([]:List Int))) (shr IntKind.u32 (ix x3 (IntKind.i64.wrap (x2 - (15:Int)))) (3:Int)))+bxor IntKind.u32 (qaq (ix x3 (IntKind.i64.wrap (x2 - (2:Int)))) ((17:Int)::(19:Int)::([]:List Int))) (shr IntKind.u32 (ix x3 (IntKind.i64.wrap (x2 - (2:Int)))) (10:Int)))))∧x1 (x2+(1:Int)) (x3.set x2.toNat (IntKind.u32.wrap (IntKind.u32.wrap (IntKind.u32.wrap (ix x3 (IntKind.i64.wrap (x2 - (16:Int)))+ix x3 (IntKind.i64.wrap (x2 - (7:Int))))+bxor IntKind.u32 (qaq (ix x3 (IntKind.i64.wrap (x2 - (15:Int)))) ((7:Int)::(18:Int)::([]:List Int))) (shr IntKind.u32 (ix x3 (IntKind.i64.wrap (x2 - (15:Int)))) (3:Int)))+bxor IntKind.u32 (qaq (ix x3 (IntKind.i64.wrap (x2 - (2:Int)))) ((17:Int)::(19:Int)::([]:List Int))) (shr IntKind.u32 (ix x3 (IntKind.i64.wrap (x2 - (2:Int)))) (10:Int)))))<x1 x2 x3)∧True))∧(¬x2<(64:Int)→(Ty.arr (64:Nat) (Ty.int IntKind.u32)).kd.wf shaK→∃(x9:Int→List Int→Prop),∃(x10:Int→List Int→Nat),x9 (0:Int) a0_s∧∀(x11:Int) (x12:List Int),x9 x11 x12→(Kd.int IntKind.i64).wf x11→(Ty.arr (8:Nat) (Ty.int IntKind.u32)).kd.wf x12→(x11<(64:Int)→((0:Int)≤x11∧x11<((64:Nat):Int))∧((0:Int)≤x11∧x11<((64:Nat):Int))∧((Ty.int IntKind.u32).kd.wf (qaq (ix x12 (4:Int)) ((6:Int)::(11:Int)::(25:Int)::([]:List Int)))→(Ty.int IntKind.u32).kd.wf (qaq (ix x12 (0:Int)) ((2:Int)::(13:Int)::(22:Int)::([]:List Int)))→x11<(9223372036854775807:Int)∧x9 (x11+(1:Int)) (IntKind.u32.wrap (IntKind.u32.wrap (IntKind.u32.wrap (IntKind.u32.wrap (IntKind.u32.wrap (ix x12 (7:Int)+qaq (ix x12 (4:Int)) ((6:Int)::(11:Int)::(25:Int)::([]:List Int)))+bxor IntKind.u32 (band IntKind.u32 (ix x12 (4:Int)) (ix x12 (5:Int))) (band IntKind.u32 (bxor IntKind.u32 (if IntKind.u32.signed=true then (-1:Int) else IntKind.u32.max) (ix x12 (4:Int))) (ix x12 (6:Int))))+ix shaK x11)+ix x3 x11)+IntKind.u32.wrap (qaq (ix x12 (0:Int)) ((2:Int)::(13:Int)::(22:Int)::([]:List Int))+bxor IntKind.u32 (bxor IntKind.u32 (band IntKind.u32 (ix x12 (0:Int)) (ix x12 (1:Int))) (band IntKind.u32 (ix x12 (0:Int)) (ix x12 (2:Int)))) (band IntKind.u32 (ix x12 (1:Int)) (ix x12 (2:Int)))))::ix x12 (0:Int)::ix x12 (1:Int)::ix x12 (2:Int)::IntKind.u32.wrap (ix x12 (3:Int)+IntKind.u32.wrap (IntKind.u32.wrap (IntKind.u32.wrap (IntKind.u32.wrap (ix x12 (7:Int)+qaq (ix x12 (4:Int)) ((6:Int)::(11:Int)::(25:Int)::([]:List Int)))+bxor IntKind.u32 (band IntKind.u32 (ix x12 (4:Int)) (ix x12 (5:Int))) (band IntKind.u32 (bxor IntKind.u32 (if IntKind.u32.signed=true then (-1:Int) else IntKind.u32.max) (ix x12 (4:Int))) (ix x12 (6:Int))))+ix shaK x11)+ix x3 x11))::ix x12 (4:Int)::ix x12 (5:Int)::ix x12 (6:Int)::([]:List Int))∧x10 (x11+(1:Int)) (IntKind.u32.wrap (IntKind.u32.wrap (IntKind.u32.wrap (IntKind.u32.wrap (IntKind.u32.wrap (ix x12 (7:Int)+qaq (ix x12 (4:Int)) ((6:Int)::(11:Int)::(25:Int)::([]:List Int)))+bxor IntKind.u32 (band IntKind.u32 (ix x12 (4:Int)) (ix x12 (5:Int))) (band IntKind.u32 (bxor IntKind.u32 (if IntKind.u32.signed=true then (-1:Int) else IntKind.u32.max) (ix x12 (4:Int))) (ix x12 (6:Int))))+ix shaK x11)+ix x3 x11)+IntKind.u32.wrap (qaq (ix x12 (0:Int)) ((2:Int)::(13:Int)::(22:Int)::([]:List Int))+bxor IntKind.u32 (bxor IntKind.u32 (band IntKind.u32 (ix x12 (0:Int)) (ix x12 (1:Int))) (band IntKind.u32 (ix x12 (0:Int)) (ix x12 (2:Int)))) (band IntKind.u32 (ix x12 (1:Int)) (ix x12 (2:Int)))))::ix x12 (0:Int)::ix x12 (1:Int)::ix x12 (2:Int)::IntKind.u32.wrap (ix x12 (3:Int)+IntKind.u32.wrap (IntKind.u32.wrap (IntKind.u32.wrap (IntKind.u32.wrap (ix x12 (7:Int)+qaq (ix x12 (4:Int)) ((6:Int)::(11:Int)::(25:Int)::([]:List Int)))+bxor IntKind.u32 (band IntKind.u32 (ix x12 (4:Int)) (ix x12 (5:Int))) (band IntKind.u32 (bxor IntKind.u32 (if IntKind.u32.signed=true then (-1:Int) else IntKind.u32.max) (ix x12 (4:Int))) (ix x12 (6:Int))))+ix shaK x11)+ix x3 x11))::ix x12 (4:Int)::ix x12 (5:Int)::ix x12 (6:Int)::([]:List Int))<x10 x11 x12))∧(¬x11<(64:Int)→∃(x17:Int→List Int→Prop),∃(x18:Int→List Int→Nat),x17 (0:Int) a0_s∧∀(x19:Int) (x20:List Int),x17 x19 x20→(Kd.int IntKind.i64).wf x19→(Ty.arr (8:Nat) (Ty.int IntKind.u32)).kd.wf x20→(x19<(8:Int)→((0:Int)≤x19∧x19<((8:Nat):Int))∧((0:Int)≤x19∧x19<((8:Nat):Int))∧((0:Int)≤x19∧x19<((8:Nat):Int))∧x19<(9223372036854775807:Int)∧x17 (x19+(1:Int)) (x20.set x19.toNat (IntKind.u32.wrap (ix x20 x19+ix x12 x19)))∧x18 (x19+(1:Int)) (x20.set x19.toNat (IntKind.u32.wrap (ix x20 x19+ix x12 x19)))<x18 x19 x20)∧(¬x19<(8:Int)→Q x20)))
theorem qrR {a0_s:List Int} {a1_b:List UInt8} (w_0:(Ty.kd (.arr 8 (.int .u32))).wf a0_s) (w_1:(Ty.kd (.sl .byte)).wf a1_b) (hp:a1_b.length=64):qjy a0_s a1_b (fun o0=>o0=(qbM a0_s a1_b)):=by
 have wr: ∀a:Int, -1000≤a→a≤1000→IntKind.i64.wrap a=a:=fun a h1 h2=>qaw (wf64 (by omega) (by omega))
 unfold qjy
 refine ⟨fun i w=> ∃n:Nat,i=(n:Int)∧n≤64∧w=qax a1_b n,fun i _=>64 - i.toNat,⟨0,rfl,by omega,rfl⟩,?_⟩
 rintro i w ⟨n,rfl,hn,rfl⟩ _ _
 refine ⟨fun hlt=>⟨fun h16=>?_,fun h16=>?_⟩,fun hge _=>?_⟩
 ·rw [wr (4 *(n:Int)) (by omega) (by omega),wr (4 *(n:Int)+1) (by omega) (by omega),wr (4 *(n:Int)+2) (by omega) (by omega),wr (4 *(n:Int)+3) (by omega) (by omega)]
  refine ⟨by omega,by omega,by omega,by omega,by omega,by omega,⟨n+1,by omega,by omega,?_⟩,?_⟩
  ·simp only [qax,Int.toNat_natCast]
   rw [if_pos (by omega)]
   rfl
  ·show 64 - ((n:Int)+1).toNat<64 - (n:Int).toNat
   omega
 ·rw [wr ((n:Int) - 16) (by omega) (by omega),wr ((n:Int) - 7) (by omega) (by omega),wr ((n:Int) - 15) (by omega) (by omega),wr ((n:Int) - 2) (by omega) (by omega)]
  iterate 14 (all_goals (try intros);all_goals (try omega);all_goals (try (refine And.intro ?_ ?_)))
  all_goals first | trivial | omega | exact ⟨n+1,by omega,by omega,by simp only [qax,Int.toNat_natCast];rw [if_neg (by omega)];rfl⟩ | (show 64 - ((n:Int)+1).toNat<64 - (n:Int).toNat;omega)
 ·have:n=64:=by omega
  subst this
  refine ⟨fun i x=> ∃n:Nat,i=(n:Int)∧n≤64∧x=qbu (qax a1_b 64) a0_s n,fun i _=>64 - i.toNat,⟨0,rfl,by omega,rfl⟩,?_⟩
  rintro i x ⟨n,rfl,hn,rfl⟩ _ _
  refine ⟨fun hlt=>?_,fun hge=>?_⟩
  ·iterate 14 (all_goals (try intros);all_goals (try omega);all_goals (try (refine And.intro ?_ ?_)))
   all_goals first | trivial | omega | exact ⟨n+1,by omega,by omega,rfl⟩ | (show 64 - ((n:Int)+1).toNat<64 - (n:Int).toNat;omega)
  ·have:n=64:=by omega
   subst this
   refine ⟨fun i s=> ∃n:Nat,i=(n:Int)∧n≤8∧s=addN a0_s (qbu (qax a1_b 64) a0_s 64) n,fun i _=>8 - i.toNat,⟨0,rfl,by omega,rfl⟩,?_⟩
   rintro i s ⟨n,rfl,hn,rfl⟩ _ _
   refine ⟨fun hlt=>?_,fun hge=>?_⟩
   ·iterate 14 (all_goals (try intros);all_goals (try omega);all_goals (try (refine And.intro ?_ ?_)))
    all_goals first | trivial | omega | exact ⟨n+1,by omega,by omega,by simp [addN]⟩ | (show 8 - ((n:Int)+1).toNat<8 - (n:Int).toNat;omega)
   ·have:n=8:=by omega
    subst this
    rfl
theorem qrQ:(∀a,qgM.pre a→PM.wfP qgM.pm a (fvc qqp 200 136 qgM a (eqO qgM a)))=(∀a:(List Int)×(List UInt8)×Unit,((a.2.1).length=64)→(Ty.kd (.arr 8 (.int .u32))).wf a.1→(Ty.kd (.sl .byte)).wf a.2.1→qjy a.1 a.2.1 (fun o0=>o0=(qbM (a.1) (a.2.1)))):=by kernel_rfl
theorem qtA:qgM.valid Try.prog 136:=qaB (X:=qqp) (qaY qas (fun b hb=>by cases hb;exact qaA) qaC ⟨qrU,qpC,trivial⟩) 200 (qrQ.mpr fun a hp w_0 w_1=> @qrR a.1 a.2.1 w_0 w_1 hp)
end Go.Proofs.Ytmjjkpiglbpkhaa

set_option linter.unusedVariables false
set_option maxRecDepth 100000
set_option maxHeartbeats 20000000
namespace Go.Proofs.Ytmjjkpiglbpkhaa
open Go Go.RowKit Go.Inc
noncomputable def qcC:Ctr:=⟨[.bx (.pr (.arr 8 (.int .u32)) (.pr (.int .u64) (.sl .byte))) true,.v (.sl (.sl .byte))],[],some (fun a=>(fun (a0_h:(List Int)×Int×List UInt8) (a1_parts:List (List UInt8))=>((1+a1_parts.length) *24≤140737488355328∧(a0_h.2.2++a1_parts.flatten).length≤140737488355328:Prop)) a.1 a.2.1),fun a=>(fun (a0_h:(List Int)×Int×List UInt8) (a1_parts:List (List UInt8))=>((()),((qat a0_h a1_parts),()))) a.1 a.2.1⟩
noncomputable def qjQ:Fx:=⟨seat,some bkT,fns,[(134,qjM),(135,qey),(136,qgM)],[],[(2,[0],[])],[(6,[0,1,2,3,4,5,6,7,8,9,10,11,12],[.o 0 2,.o 1 2,.o 2 2,.o 3 2,.o 4 2,.o 5 2,.o 6 2,.o 7 2,.o 8 1])]⟩
def qfp (a0_h:(List Int)×Int×List UInt8) (a1_parts:List (List UInt8)) (Q:((List Int)×Int×List UInt8)→Prop):Prop:=
 ((a0_h.snd.snd::([]:List (List UInt8))).length+a1_parts.length) *(24:Nat)≤(140737488355328:Nat)∧(a0_h.snd.snd::([]:List (List UInt8))++a1_parts).flatten.length≤(140737488355328:Nat)∧(Ty.byte.kd.sl.wf (a0_h.snd.snd::([]:List (List UInt8))++a1_parts).flatten→∃(x0:List Int×Int×List UInt8→Prop),∃(x1:List Int×Int×List UInt8→Nat),x0 (a0_h.fst,a0_h.snd.fst,(a0_h.snd.snd::([]:List (List UInt8))++a1_parts).flatten)∧∀(x2:List Int×Int×List UInt8),x0 x2→((Ty.arr (8:Nat) (Ty.int IntKind.u32)).pr ((Ty.int IntKind.u64).pr Ty.byte.sl)).kd.wf x2→((64:Int)≤(x2.snd.snd.length:Int)→(x2.snd.fst=(0:Int)→(Ty.arr (8:Nat) (Ty.int IntKind.u32)).kd.wf shaH→((0:Int)≤(64:Int)∧(64:Int)≤(x2.snd.snd.length:Int))∧(List.take (Int.toNat (64:Int)) x2.snd.snd).length=(64:Nat)∧((0:Int)≤(64:Int)∧(64:Int)≤(x2.snd.snd.length:Int))∧x0 (qbM shaH (List.take (Int.toNat (64:Int)) x2.snd.snd),IntKind.u64.wrap (x2.snd.fst+(1:Int)),List.drop (Int.toNat (64:Int)) x2.snd.snd)∧x1 (qbM shaH (List.take (Int.toNat (64:Int)) x2.snd.snd),IntKind.u64.wrap (x2.snd.fst+(1:Int)),List.drop (Int.toNat (64:Int)) x2.snd.snd)<x1 x2)∧(¬x2.snd.fst=(0:Int)→((0:Int)≤(64:Int)∧(64:Int)≤(x2.snd.snd.length:Int))∧(List.take (Int.toNat (64:Int)) x2.snd.snd).length=(64:Nat)∧((0:Int)≤(64:Int)∧(64:Int)≤(x2.snd.snd.length:Int))∧x0 (qbM x2.fst (List.take (Int.toNat (64:Int)) x2.snd.snd),IntKind.u64.wrap (x2.snd.fst+(1:Int)),List.drop (Int.toNat (64:Int)) x2.snd.snd)∧x1 (qbM x2.fst (List.take (Int.toNat (64:Int)) x2.snd.snd),IntKind.u64.wrap (x2.snd.fst+(1:Int)),List.drop (Int.toNat (64:Int)) x2.snd.snd)<x1 x2))∧(¬(64:Int)≤(x2.snd.snd.length:Int)→Q x2))
theorem qlV {a0_h:(List Int)×Int×List UInt8} {a1_parts:List (List UInt8)} (w_0:(Ty.kd (.pr (.arr 8 (.int .u32)) (.pr (.int .u64) (.sl .byte)))).wf a0_h) (w_1:(Ty.kd (.sl (.sl .byte))).wf a1_parts) (hp:(1+a1_parts.length) *24≤140737488355328∧(a0_h.2.2++a1_parts.flatten).length≤140737488355328):qfp a0_h a1_parts (fun o0=>o0=(qat a0_h a1_parts)):=by
 obtain ⟨h1,h2⟩:=hp
 unfold qfp
 refine ⟨by simp only [List.length_cons,List.length_nil];omega,by simpa using h2,fun _=>⟨fun b=>eat b.1 b.2.1 b.2.2=qat a0_h a1_parts,fun b=>b.2.2.length,by simp [qat],?_⟩⟩
 rintro ⟨s,n,r⟩ hI hwf
 refine ⟨fun h64=>?_,fun h64=>?_⟩
 ·have hl:64≤r.length:=by
   have h:(64:Int)≤(r.length:Int):=h64
   omega
  have ht:(r.take 64).length=64:=by rw [List.length_take];omega
  have hd:(r.drop 64).length<r.length:=by rw [List.length_drop];omega
  dsimp only at hI⊢
  rw [eat,if_pos hl] at hI
  refine ⟨fun h0 _=>⟨⟨by omega,by omega⟩,ht,⟨by omega,by omega⟩,?_,hd⟩,fun h0=>⟨⟨by omega,by omega⟩,ht,⟨by omega,by omega⟩,?_,hd⟩⟩
  ·rw [if_pos h0] at hI
   exact hI
  ·rw [if_neg h0] at hI
   exact hI
 ·have hl: ¬(64≤r.length):=fun h=>h64 (by show (64:Int)≤(r.length:Int);omega)
  dsimp only at hI⊢
  rw [eat,if_neg hl] at hI
  exact hI
theorem qlU:(∀a,qcC.pre a→PM.wfP qcC.pm a (fvc qjQ 200 124 qcC a (eqO qcC a)))=(∀a:((List Int)×Int×List UInt8)×(List (List UInt8))×Unit,((1+(a.2.1).length) *24≤140737488355328∧((a.1).2.2++(a.2.1).flatten).length≤140737488355328)→(Ty.kd (.pr (.arr 8 (.int .u32)) (.pr (.int .u64) (.sl .byte)))).wf a.1→(Ty.kd (.sl (.sl .byte))).wf a.2.1→qfp a.1 a.2.1 (fun o0=>o0=(qat (a.1) (a.2.1)))):=by kernel_rfl
theorem qjR:qcC.valid Try.prog 124:=qaB (X:=qjQ) (qaY qas (fun b hb=>by cases hb;exact qaA) qaC ⟨qos,qrq,qtA,trivial⟩) 200 (qlU.mpr fun a hp w_0 w_1=> @qlV a.1 a.2.1 w_0 w_1 hp)
noncomputable def qgj:Ctr:=⟨[.bx (.pr (.arr 8 (.int .u32)) (.pr (.int .u64) (.sl .byte))) false],[.v (.arr 32 .byte)],some (fun a=>(fun (a0_h:(List Int)×Int×List UInt8)=>(a0_h.2.2.length<64:Prop)) a.1),fun a=>(fun (a0_h:(List Int)×Int×List UInt8)=>(((hSum a0_h),()),(()))) a.1⟩
noncomputable def qpY:Fx:=⟨seat,some bkT,fns,[(123,qiN),(137,qeh),(138,qgi),(139,qgz),(124,qcC)],[],[(8,[8],[])],[(5,[0,1,2,3,4,5,6,7,8,9,10,11,12],[.o 0 2,.o 2 2,.o 3 2,.o 4 2,.o 5 2,.o 6 2,.o 7 2,.o 8 2,.o 10 2,.o 11 2,.par [1,9,12] (.alt 1 0 (.alt 9 0 (.one 12 0 .fin) (.alt 12 0 (.one 9 0 .fin) .fin)) (.alt 9 0 (.alt 1 0 (.one 12 0 .fin) (.alt 12 0 (.one 1 0 .fin) .fin)) (.alt 12 0 (.alt 1 0 (.one 9 0 .fin) (.alt 9 0 (.one 1 0 .fin) .fin)) .fin))),.o 13 0,.o 14 1]),(10,[0,1,2,3,4,5,6,7,8,9,10,11,12],[.o 0 2,.o 1 2,.o 2 2,.o 3 2,.o 4 2,.o 5 0,.o 6 2,.o 7 1])]⟩
def qiK (a0_h:(List Int)×Int×List UInt8) (Q:(List UInt8)→Prop):Prop:=
 ((Ty.arr (8:Nat) (Ty.int IntKind.u32)).pr ((Ty.int IntKind.u64).pr Ty.byte.sl)).kd.wf (List.replicate (8:Nat) (0:Int),(0:Int),([]:List UInt8))→a0_h.snd.snd.length≤(140737488355328:Nat)∧(((Ty.arr (8:Nat) (Ty.int IntKind.u32)).pr ((Ty.int IntKind.u64).pr Ty.byte.sl)).kd.wf a0_h→(Ty.int IntKind.u64).kd.wf (hLen a0_h)→((((0:Int)≤(IntKind.i64.wrap ((119:Int) - (a0_h.snd.snd.length:Int))).tmod (64:Int)∧(IntKind.i64.wrap ((119:Int) - (a0_h.snd.snd.length:Int))).tmod (64:Int)≤(IntKind.i64.wrap ((119:Int) - (a0_h.snd.snd.length:Int))).tmod (64:Int)∧((1:Nat):Int) *(IntKind.i64.wrap ((119:Int) - (a0_h.snd.snd.length:Int))).tmod (64:Int)≤(281474976710656:Int)∧(IntKind.i64.wrap ((119:Int) - (a0_h.snd.snd.length:Int))).tmod (64:Int)≤(281474976710656:Int))∧(Ty.byte.kd.sl.wf (be (IntKind.u64.wrap ((8:Int) *hLen a0_h)).toNat (8:Nat))→(((1:Nat)+((toB (128:Int)::([]:List UInt8))::List.replicate ((IntKind.i64.wrap ((119:Int) - (a0_h.snd.snd.length:Int))).tmod (64:Int)).toNat Ty.byte.kd.z::be (IntKind.u64.wrap ((8:Int) *hLen a0_h)).toNat (8:Nat)::([]:List (List UInt8))).length) *(24:Nat)≤(140737488355328:Nat)∧(a0_h.snd.snd++((toB (128:Int)::([]:List UInt8))::List.replicate ((IntKind.i64.wrap ((119:Int) - (a0_h.snd.snd.length:Int))).tmod (64:Int)).toNat Ty.byte.kd.z::be (IntKind.u64.wrap ((8:Int) *hLen a0_h)).toNat (8:Nat)::([]:List (List UInt8))).flatten).length≤(140737488355328:Nat))∧∃(x0:Int→List UInt8→Prop),∃(x1:Int→List UInt8→Nat),x0 (0:Int) (Ty.arr (32:Nat) Ty.byte).kd.z∧∀(x2:Int) (x3:List UInt8),x0 x2 x3→(Kd.int IntKind.i64).wf x2→(Ty.arr (32:Nat) Ty.byte).kd.wf x3→(x2<(8:Int)→((0:Int)≤x2∧x2<((8:Nat):Int))∧((0:Int)≤IntKind.i64.wrap ((4:Int) *x2)∧IntKind.i64.wrap ((4:Int) *x2)≤((32:Nat):Int)∧((32:Nat):Int)≤((32:Nat):Int)∧IntKind.i64.wrap ((4:Int) *x2)<((32:Nat):Int))∧(Ty.byte.kd.sl.wf (be (ix (qat a0_h ((toB (128:Int)::([]:List UInt8))::List.replicate ((IntKind.i64.wrap ((119:Int) - (a0_h.snd.snd.length:Int))).tmod (64:Int)).toNat Ty.byte.kd.z::be (IntKind.u64.wrap ((8:Int) *hLen a0_h)).toNat (8:Nat)::([]:List (List UInt8)))).fst x2).toNat (8:Nat))→((0:Int)≤(4:Int)∧(4:Int)≤((be (ix (qat a0_h ((toB (128:Int)::([]:List UInt8))::List.replicate ((IntKind.i64.wrap ((119:Int) - (a0_h.snd.snd.length:Int))).tmod (64:Int)).toNat Ty.byte.kd.z::be (IntKind.u64.wrap ((8:Int) *hLen a0_h)).toNat (8:Nat)::([]:List (List UInt8)))).fst x2).toNat (8:Nat)).length:Int))∧x2<(9223372036854775807:Int)∧x0 (x2+(1:Int)) (List.take (IntKind.i64.wrap ((4:Int) *x2)).toNat x3++List.take (((32:Nat):Int).toNat - (IntKind.i64.wrap ((4:Int) *x2)).toNat) (List.drop (Int.toNat (4:Int)) (be (ix (qat a0_h ((toB (128:Int)::([]:List UInt8))::List.replicate ((IntKind.i64.wrap ((119:Int) - (a0_h.snd.snd.length:Int))).tmod (64:Int)).toNat Ty.byte.kd.z::be (IntKind.u64.wrap ((8:Int) *hLen a0_h)).toNat (8:Nat)::([]:List (List UInt8)))).fst x2).toNat (8:Nat)))++List.drop ((IntKind.i64.wrap ((4:Int) *x2)).toNat+min (List.drop (Int.toNat (4:Int)) (be (ix (qat a0_h ((toB (128:Int)::([]:List UInt8))::List.replicate ((IntKind.i64.wrap ((119:Int) - (a0_h.snd.snd.length:Int))).tmod (64:Int)).toNat Ty.byte.kd.z::be (IntKind.u64.wrap ((8:Int) *hLen a0_h)).toNat (8:Nat)::([]:List (List UInt8)))).fst x2).toNat (8:Nat))).length (((32:Nat):Int).toNat - (IntKind.i64.wrap ((4:Int) *x2)).toNat)) x3)∧x1 (x2+(1:Int)) (List.take (IntKind.i64.wrap ((4:Int) *x2)).toNat x3++List.take (((32:Nat):Int).toNat - (IntKind.i64.wrap ((4:Int) *x2)).toNat) (List.drop (Int.toNat (4:Int)) (be (ix (qat a0_h ((toB (128:Int)::([]:List UInt8))::List.replicate ((IntKind.i64.wrap ((119:Int) - (a0_h.snd.snd.length:Int))).tmod (64:Int)).toNat Ty.byte.kd.z::be (IntKind.u64.wrap ((8:Int) *hLen a0_h)).toNat (8:Nat)::([]:List (List UInt8)))).fst x2).toNat (8:Nat)))++List.drop ((IntKind.i64.wrap ((4:Int) *x2)).toNat+min (List.drop (Int.toNat (4:Int)) (be (ix (qat a0_h ((toB (128:Int)::([]:List UInt8))::List.replicate ((IntKind.i64.wrap ((119:Int) - (a0_h.snd.snd.length:Int))).tmod (64:Int)).toNat Ty.byte.kd.z::be (IntKind.u64.wrap ((8:Int) *hLen a0_h)).toNat (8:Nat)::([]:List (List UInt8)))).fst x2).toNat (8:Nat))).length (((32:Nat):Int).toNat - (IntKind.i64.wrap ((4:Int) *x2)).toNat)) x3)<x1 x2 x3))∧(¬x2<(8:Int)→Q x3)))∧(Ty.byte.kd.sl.wf (be (IntKind.u64.wrap ((8:Int) *hLen a0_h)).toNat (8:Nat))→((0:Int)≤(IntKind.i64.wrap ((119:Int) - (a0_h.snd.snd.length:Int))).tmod (64:Int)∧(IntKind.i64.wrap ((119:Int) - (a0_h.snd.snd.length:Int))).tmod (64:Int)≤(IntKind.i64.wrap ((119:Int) - (a0_h.snd.snd.length:Int))).tmod (64:Int)∧((1:Nat):Int) *(IntKind.i64.wrap ((119:Int) - (a0_h.snd.snd.length:Int))).tmod (64:Int)≤(281474976710656:Int)∧(IntKind.i64.wrap ((119:Int) - (a0_h.snd.snd.length:Int))).tmod (64:Int)≤(281474976710656:Int))∧(((1:Nat)+((toB (128:Int)::([]:List UInt8))::List.replicate ((IntKind.i64.wrap ((119:Int) - (a0_h.snd.snd.length:Int))).tmod (64:Int)).toNat Ty.byte.kd.z::be (IntKind.u64.wrap ((8:Int) *hLen a0_h)).toNat (8:Nat)::([]:List (List UInt8))).length) *(24:Nat)≤(140737488355328:Nat)∧(a0_h.snd.snd++((toB (128:Int)::([]:List UInt8))::List.replicate ((IntKind.i64.wrap ((119:Int) - (a0_h.snd.snd.length:Int))).tmod (64:Int)).toNat Ty.byte.kd.z::be (IntKind.u64.wrap ((8:Int) *hLen a0_h)).toNat (8:Nat)::([]:List (List UInt8))).flatten).length≤(140737488355328:Nat))∧∃(x0:Int→List UInt8→Prop),∃(x1:Int→List UInt8→Nat),x0 (0:Int) (Ty.arr (32:Nat) Ty.byte).kd.z∧∀(x2:Int) (x3:List UInt8),x0 x2 x3→(Kd.int IntKind.i64).wf x2→(Ty.arr (32:Nat) Ty.byte).kd.wf x3→(x2<(8:Int)→((0:Int)≤x2∧x2<((8:Nat):Int))∧((0:Int)≤IntKind.i64.wrap ((4:Int) *x2)∧IntKind.i64.wrap ((4:Int) *x2)≤((32:Nat):Int)∧((32:Nat):Int)≤((32:Nat):Int)∧IntKind.i64.wrap ((4:Int) *x2)<((32:Nat):Int))∧(Ty.byte.kd.sl.wf (be (ix (qat a0_h ((toB (128:Int)::([]:List UInt8))::List.replicate ((IntKind.i64.wrap ((119:Int) - (a0_h.snd.snd.length:Int))).tmod (64:Int)).toNat Ty.byte.kd.z::be (IntKind.u64.wrap ((8:Int) *hLen a0_h)).toNat (8:Nat)::([]:List (List UInt8)))).fst x2).toNat (8:Nat))→((0:Int)≤(4:Int)∧(4:Int)≤((be (ix (qat a0_h ((toB (128:Int)::([]:List UInt8))::List.replicate ((IntKind.i64.wrap ((119:Int) - (a0_h.snd.snd.length:Int))).tmod (64:Int)).toNat Ty.byte.kd.z::be (IntKind.u64.wrap ((8:Int) *hLen a0_h)).toNat (8:Nat)::([]:List (List UInt8)))).fst x2).toNat (8:Nat)).length:Int))∧x2<(9223372036854775807:Int)∧x0 (x2+(1:Int)) (List.take (IntKind.i64.wrap ((4:Int) *x2)).toNat x3++List.take (((32:Nat):Int).toNat - (IntKind.i64.wrap ((4:Int) *x2)).toNat) (List.drop (Int.toNat (4:Int)) (be (ix (qat a0_h ((toB (128:Int)::([]:List UInt8))::List.replicate ((IntKind.i64.wrap ((119:Int) - (a0_h.snd.snd.length:Int))).tmod (64:Int)).toNat Ty.byte.kd.z::be (IntKind.u64.wrap ((8:Int) *hLen a0_h)).toNat (8:Nat)::([]:List (List UInt8)))).fst x2).toNat (8:Nat)))++List.drop ((IntKind.i64.wrap ((4:Int) *x2)).toNat+min (List.drop (Int.toNat (4:Int)) (be (ix (qat a0_h ((toB (128:Int)::([]:List UInt8))::List.replicate ((IntKind.i64.wrap ((119:Int) - (a0_h.snd.snd.length:Int))).tmod (64:Int)).toNat Ty.byte.kd.z::be (IntKind.u64.wrap ((8:Int) *hLen a0_h)).toNat (8:Nat)::([]:List (List UInt8)))).fst x2).toNat (8:Nat))).length (((32:Nat):Int).toNat - (IntKind.i64.wrap ((4:Int) *x2)).toNat)) x3)∧x1 (x2+(1:Int)) (List.take (IntKind.i64.wrap ((4:Int) *x2)).toNat x3++List.take (((32:Nat):Int).toNat - (IntKind.i64.wrap ((4:Int) *x2)).toNat) (List.drop (Int.toNat (4:Int)) (be (ix (qat a0_h ((toB (128:Int)::([]:List UInt8))::List.replicate ((IntKind.i64.wrap ((119:Int) - (a0_h.snd.snd.length:Int))).tmod (64:Int)).toNat Ty.byte.kd.z::be (IntKind.u64.wrap ((8:Int) *hLen a0_h)).toNat (8:Nat)::([]:List (List UInt8)))).fst x2).toNat (8:Nat)))++List.drop ((IntKind.i64.wrap ((4:Int) *x2)).toNat+min (List.drop (Int.toNat (4:Int)) (be (ix (qat a0_h ((toB (128:Int)::([]:List UInt8))::List.replicate ((IntKind.i64.wrap ((119:Int) - (a0_h.snd.snd.length:Int))).tmod (64:Int)).toNat Ty.byte.kd.z::be (IntKind.u64.wrap ((8:Int) *hLen a0_h)).toNat (8:Nat)::([]:List (List UInt8)))).fst x2).toNat (8:Nat))).length (((32:Nat):Int).toNat - (IntKind.i64.wrap ((4:Int) *x2)).toNat)) x3)<x1 x2 x3))∧(¬x2<(8:Int)→Q x3))∧True)∧(((0:Int)≤(IntKind.i64.wrap ((119:Int) - (a0_h.snd.snd.length:Int))).tmod (64:Int)∧(IntKind.i64.wrap ((119:Int) - (a0_h.snd.snd.length:Int))).tmod (64:Int)≤(IntKind.i64.wrap ((119:Int) - (a0_h.snd.snd.length:Int))).tmod (64:Int)∧((1:Nat):Int) *(IntKind.i64.wrap ((119:Int) - (a0_h.snd.snd.length:Int))).tmod (64:Int)≤(281474976710656:Int)∧(IntKind.i64.wrap ((119:Int) - (a0_h.snd.snd.length:Int))).tmod (64:Int)≤(281474976710656:Int))∧(Ty.byte.kd.sl.wf (be (IntKind.u64.wrap ((8:Int) *hLen a0_h)).toNat (8:Nat))→(((1:Nat)+((toB (128:Int)::([]:List UInt8))::List.replicate ((IntKind.i64.wrap ((119:Int) - (a0_h.snd.snd.length:Int))).tmod (64:Int)).toNat Ty.byte.kd.z::be (IntKind.u64.wrap ((8:Int) *hLen a0_h)).toNat (8:Nat)::([]:List (List UInt8))).length) *(24:Nat)≤(140737488355328:Nat)∧(a0_h.snd.snd++((toB (128:Int)::([]:List UInt8))::List.replicate ((IntKind.i64.wrap ((119:Int) - (a0_h.snd.snd.length:Int))).tmod (64:Int)).toNat Ty.byte.kd.z::be (IntKind.u64.wrap ((8:Int) *hLen a0_h)).toNat (8:Nat)::([]:List (List UInt8))).flatten).length≤(140737488355328:Nat))∧∃(x0:Int→List UInt8→Prop),∃(x1:Int→List UInt8→Nat),x0 (0:Int) (Ty.arr (32:Nat) Ty.byte).kd.z∧∀(x2:Int) (x3:List UInt8),x0 x2 x3→(Kd.int IntKind.i64).wf x2→(Ty.arr (32:Nat) Ty.byte).kd.wf x3→(x2<(8:Int)→((0:Int)≤x2∧x2<((8:Nat):Int))∧((0:Int)≤IntKind.i64.wrap ((4:Int) *x2)∧IntKind.i64.wrap ((4:Int) *x2)≤((32:Nat):Int)∧((32:Nat):Int)≤((32:Nat):Int)∧IntKind.i64.wrap ((4:Int) *x2)<((32:Nat):Int))∧(Ty.byte.kd.sl.wf (be (ix (qat a0_h ((toB (128:Int)::([]:List UInt8))::List.replicate ((IntKind.i64.wrap ((119:Int) - (a0_h.snd.snd.length:Int))).tmod (64:Int)).toNat Ty.byte.kd.z::be (IntKind.u64.wrap ((8:Int) *hLen a0_h)).toNat (8:Nat)::([]:List (List UInt8)))).fst x2).toNat (8:Nat))→((0:Int)≤(4:Int)∧(4:Int)≤((be (ix (qat a0_h ((toB (128:Int)::([]:List UInt8))::List.replicate ((IntKind.i64.wrap ((119:Int) - (a0_h.snd.snd.length:Int))).tmod (64:Int)).toNat Ty.byte.kd.z::be (IntKind.u64.wrap ((8:Int) *hLen a0_h)).toNat (8:Nat)::([]:List (List UInt8)))).fst x2).toNat (8:Nat)).length:Int))∧x2<(9223372036854775807:Int)∧x0 (x2+(1:Int)) (List.take (IntKind.i64.wrap ((4:Int) *x2)).toNat x3++List.take (((32:Nat):Int).toNat - (IntKind.i64.wrap ((4:Int) *x2)).toNat) (List.drop (Int.toNat (4:Int)) (be (ix (qat a0_h ((toB (128:Int)::([]:List UInt8))::List.replicate ((IntKind.i64.wrap ((119:Int) - (a0_h.snd.snd.length:Int))).tmod (64:Int)).toNat Ty.byte.kd.z::be (IntKind.u64.wrap ((8:Int) *hLen a0_h)).toNat (8:Nat)::([]:List (List UInt8)))).fst x2).toNat (8:Nat)))++List.drop ((IntKind.i64.wrap ((4:Int) *x2)).toNat+min (List.drop (Int.toNat (4:Int)) (be (ix (qat a0_h ((toB (128:Int)::([]:List UInt8))::List.replicate ((IntKind.i64.wrap ((119:Int) - (a0_h.snd.snd.length:Int))).tmod (64:Int)).toNat Ty.byte.kd.z::be (IntKind.u64.wrap ((8:Int) *hLen a0_h)).toNat (8:Nat)::([]:List (List UInt8)))).fst x2).toNat (8:Nat))).length (((32:Nat):Int).toNat - (IntKind.i64.wrap ((4:Int) *x2)).toNat)) x3)∧x1 (x2+(1:Int)) (List.take (IntKind.i64.wrap ((4:Int) *x2)).toNat x3++List.take (((32:Nat):Int).toNat - (IntKind.i64.wrap ((4:Int) *x2)).toNat) (List.drop (Int.toNat (4:Int)) (be (ix (qat a0_h ((toB (128:Int)::([]:List UInt8))::List.replicate ((IntKind.i64.wrap ((119:Int) - (a0_h.snd.snd.length:Int))).tmod (64:Int)).toNat Ty.byte.kd.z::be (IntKind.u64.wrap ((8:Int) *hLen a0_h)).toNat (8:Nat)::([]:List (List UInt8)))).fst x2).toNat (8:Nat)))++List.drop ((IntKind.i64.wrap ((4:Int) *x2)).toNat+min (List.drop (Int.toNat (4:Int)) (be (ix (qat a0_h ((toB (128:Int)::([]:List UInt8))::List.replicate ((IntKind.i64.wrap ((119:Int) - (a0_h.snd.snd.length:Int))).tmod (64:Int)).toNat Ty.byte.kd.z::be (IntKind.u64.wrap ((8:Int) *hLen a0_h)).toNat (8:Nat)::([]:List (List UInt8)))).fst x2).toNat (8:Nat))).length (((32:Nat):Int).toNat - (IntKind.i64.wrap ((4:Int) *x2)).toNat)) x3)<x1 x2 x3))∧(¬x2<(8:Int)→Q x3))∧(Ty.byte.kd.sl.wf (be (IntKind.u64.wrap ((8:Int) *hLen a0_h)).toNat (8:Nat))→(((1:Nat)+((toB (128:Int)::([]:List UInt8))::List.replicate ((IntKind.i64.wrap ((119:Int) - (a0_h.snd.snd.length:Int))).tmod (64:Int)).toNat Ty.byte.kd.z::be (IntKind.u64.wrap ((8:Int) *hLen a0_h)).toNat (8:Nat)::([]:List (List UInt8))).length) *(24:Nat)≤(140737488355328:Nat)∧(a0_h.snd.snd++((toB (128:Int)::([]:List UInt8))::List.replicate ((IntKind.i64.wrap ((119:Int) - (a0_h.snd.snd.length:Int))).tmod (64:Int)).toNat Ty.byte.kd.z::be (IntKind.u64.wrap ((8:Int) *hLen a0_h)).toNat (8:Nat)::([]:List (List UInt8))).flatten).length≤(140737488355328:Nat))∧∃(x0:Int→List UInt8→Prop),∃(x1:Int→List UInt8→Nat),x0 (0:Int) (Ty.arr (32:Nat) Ty.byte).kd.z∧∀(x2:Int) (x3:List UInt8),x0 x2 x3→(Kd.int IntKind.i64).wf x2→(Ty.arr (32:Nat) Ty.byte).kd.wf x3→(x2<(8:Int)→((0:Int)≤x2∧x2<((8:Nat):Int))∧((0:Int)≤IntKind.i64.wrap ((4:Int) *x2)∧IntKind.i64.wrap ((4:Int) *x2)≤((32:Nat):Int)∧((32:Nat):Int)≤((32:Nat):Int)∧IntKind.i64.wrap ((4:Int) *x2)<((32:Nat):Int))∧(Ty.byte.kd.sl.wf (be (ix (qat a0_h ((toB (128:Int)::([]:List UInt8))::List.replicate ((IntKind.i64.wrap ((119:Int) - (a0_h.snd.snd.length:Int))).tmod (64:Int)).toNat Ty.byte.kd.z::be (IntKind.u64.wrap ((8:Int) *hLen a0_h)).toNat (8:Nat)::([]:List (List UInt8)))).fst x2).toNat (8:Nat))→((0:Int)≤(4:Int)∧(4:Int)≤((be (ix (qat a0_h ((toB (128:Int)::([]:List UInt8))::List.replicate ((IntKind.i64.wrap ((119:Int) - (a0_h.snd.snd.length:Int))).tmod (64:Int)).toNat Ty.byte.kd.z::be (IntKind.u64.wrap ((8:Int) *hLen a0_h)).toNat (8:Nat)::([]:List (List UInt8)))).fst x2).toNat (8:Nat)).length:Int))∧x2<(9223372036854775807:Int)∧x0 (x2+(1:Int)) (List.take (IntKind.i64.wrap ((4:Int) *x2)).toNat x3++List.take (((32:Nat):Int).toNat - (IntKind.i64.wrap ((4:Int) *x2)).toNat) (List.drop (Int.toNat (4:Int)) (be (ix (qat a0_h ((toB (128:Int)::([]:List UInt8))::List.replicate ((IntKind.i64.wrap ((119:Int) - (a0_h.snd.snd.length:Int))).tmod (64:Int)).toNat Ty.byte.kd.z::be (IntKind.u64.wrap ((8:Int) *hLen a0_h)).toNat (8:Nat)::([]:List (List UInt8)))).fst x2).toNat (8:Nat)))++List.drop ((IntKind.i64.wrap ((4:Int) *x2)).toNat+min (List.drop (Int.toNat (4:Int)) (be (ix (qat a0_h ((toB (128:Int)::([]:List UInt8))::List.replicate ((IntKind.i64.wrap ((119:Int) - (a0_h.snd.snd.length:Int))).tmod (64:Int)).toNat Ty.byte.kd.z::be (IntKind.u64.wrap ((8:Int) *hLen a0_h)).toNat (8:Nat)::([]:List (List UInt8)))).fst x2).toNat (8:Nat))).length (((32:Nat):Int).toNat - (IntKind.i64.wrap ((4:Int) *x2)).toNat)) x3)∧x1 (x2+(1:Int)) (List.take (IntKind.i64.wrap ((4:Int) *x2)).toNat x3++List.take (((32:Nat):Int).toNat - (IntKind.i64.wrap ((4:Int) *x2)).toNat) (List.drop (Int.toNat (4:Int)) (be (ix (qat a0_h ((toB (128:Int)::([]:List UInt8))::List.replicate ((IntKind.i64.wrap ((119:Int) - (a0_h.snd.snd.length:Int))).tmod (64:Int)).toNat Ty.byte.kd.z::be (IntKind.u64.wrap ((8:Int) *hLen a0_h)).toNat (8:Nat)::([]:List (List UInt8)))).fst x2).toNat (8:Nat)))++List.drop ((IntKind.i64.wrap ((4:Int) *x2)).toNat+min (List.drop (Int.toNat (4:Int)) (be (ix (qat a0_h ((toB (128:Int)::([]:List UInt8))::List.replicate ((IntKind.i64.wrap ((119:Int) - (a0_h.snd.snd.length:Int))).tmod (64:Int)).toNat Ty.byte.kd.z::be (IntKind.u64.wrap ((8:Int) *hLen a0_h)).toNat (8:Nat)::([]:List (List UInt8)))).fst x2).toNat (8:Nat))).length (((32:Nat):Int).toNat - (IntKind.i64.wrap ((4:Int) *x2)).toNat)) x3)<x1 x2 x3))∧(¬x2<(8:Int)→Q x3))∧True)∧(Ty.byte.kd.sl.wf (be (IntKind.u64.wrap ((8:Int) *hLen a0_h)).toNat (8:Nat))→(((0:Int)≤(IntKind.i64.wrap ((119:Int) - (a0_h.snd.snd.length:Int))).tmod (64:Int)∧(IntKind.i64.wrap ((119:Int) - (a0_h.snd.snd.length:Int))).tmod (64:Int)≤(IntKind.i64.wrap ((119:Int) - (a0_h.snd.snd.length:Int))).tmod (64:Int)∧((1:Nat):Int) *(IntKind.i64.wrap ((119:Int) - (a0_h.snd.snd.length:Int))).tmod (64:Int)≤(281474976710656:Int)∧(IntKind.i64.wrap ((119:Int) - (a0_h.snd.snd.length:Int))).tmod (64:Int)≤(281474976710656:Int))∧(((1:Nat)+((toB (128:Int)::([]:List UInt8))::List.replicate ((IntKind.i64.wrap ((119:Int) - (a0_h.snd.snd.length:Int))).tmod (64:Int)).toNat Ty.byte.kd.z::be (IntKind.u64.wrap ((8:Int) *hLen a0_h)).toNat (8:Nat)::([]:List (List UInt8))).length) *(24:Nat)≤(140737488355328:Nat)∧(a0_h.snd.snd++((toB (128:Int)::([]:List UInt8))::List.replicate ((IntKind.i64.wrap ((119:Int) - (a0_h.snd.snd.length:Int))).tmod (64:Int)).toNat Ty.byte.kd.z::be (IntKind.u64.wrap ((8:Int) *hLen a0_h)).toNat (8:Nat)::([]:List (List UInt8))).flatten).length≤(140737488355328:Nat))∧∃(x0:Int→List UInt8→Prop),∃(x1:Int→List UInt8→Nat),x0 (0:Int) (Ty.arr (32:Nat) Ty.byte).kd.z∧∀(x2:Int) (x3:List UInt8),x0 x2 x3→(Kd.int IntKind.i64).wf x2→(Ty.arr (32:Nat) Ty.byte).kd.wf x3→(x2<(8:Int)→((0:Int)≤x2∧x2<((8:Nat):Int))∧((0:Int)≤IntKind.i64.wrap ((4:Int) *x2)∧IntKind.i64.wrap ((4:Int) *x2)≤((32:Nat):Int)∧((32:Nat):Int)≤((32:Nat):Int)∧IntKind.i64.wrap ((4:Int) *x2)<((32:Nat):Int))∧(Ty.byte.kd.sl.wf (be (ix (qat a0_h ((toB (128:Int)::([]:List UInt8))::List.replicate ((IntKind.i64.wrap ((119:Int) - (a0_h.snd.snd.length:Int))).tmod (64:Int)).toNat Ty.byte.kd.z::be (IntKind.u64.wrap ((8:Int) *hLen a0_h)).toNat (8:Nat)::([]:List (List UInt8)))).fst x2).toNat (8:Nat))→((0:Int)≤(4:Int)∧(4:Int)≤((be (ix (qat a0_h ((toB (128:Int)::([]:List UInt8))::List.replicate ((IntKind.i64.wrap ((119:Int) - (a0_h.snd.snd.length:Int))).tmod (64:Int)).toNat Ty.byte.kd.z::be (IntKind.u64.wrap ((8:Int) *hLen a0_h)).toNat (8:Nat)::([]:List (List UInt8)))).fst x2).toNat (8:Nat)).length:Int))∧x2<(9223372036854775807:Int)∧x0 (x2+(1:Int)) (List.take (IntKind.i64.wrap ((4:Int) *x2)).toNat x3++List.take (((32:Nat):Int).toNat - (IntKind.i64.wrap ((4:Int) *x2)).toNat) (List.drop (Int.toNat (4:Int)) (be (ix (qat a0_h ((toB (128:Int)::([]:List UInt8))::List.replicate ((IntKind.i64.wrap ((119:Int) - (a0_h.snd.snd.length:Int))).tmod (64:Int)).toNat Ty.byte.kd.z::be (IntKind.u64.wrap ((8:Int) *hLen a0_h)).toNat (8:Nat)::([]:List (List UInt8)))).fst x2).toNat (8:Nat)))++List.drop ((IntKind.i64.wrap ((4:Int) *x2)).toNat+min (List.drop (Int.toNat (4:Int)) (be (ix (qat a0_h ((toB (128:Int)::([]:List UInt8))::List.replicate ((IntKind.i64.wrap ((119:Int) - (a0_h.snd.snd.length:Int))).tmod (64:Int)).toNat Ty.byte.kd.z::be (IntKind.u64.wrap ((8:Int) *hLen a0_h)).toNat (8:Nat)::([]:List (List UInt8)))).fst x2).toNat (8:Nat))).length (((32:Nat):Int).toNat - (IntKind.i64.wrap ((4:Int) *x2)).toNat)) x3)∧x1 (x2+(1:Int)) (List.take (IntKind.i64.wrap ((4:Int) *x2)).toNat x3++List.take (((32:Nat):Int).toNat - (IntKind.i64.wrap ((4:Int) *x2)).toNat) (List.drop (Int.toNat (4:Int)) (be (ix (qat a0_h ((toB (128:Int)::([]:List UInt8))::List.replicate ((IntKind.i64.wrap ((119:Int) - (a0_h.snd.snd.length:Int))).tmod (64:Int)).toNat Ty.byte.kd.z::be (IntKind.u64.wrap ((8:Int) *hLen a0_h)).toNat (8:Nat)::([]:List (List UInt8)))).fst x2).toNat (8:Nat)))++List.drop ((IntKind.i64.wrap ((4:Int) *x2)).toNat+min (List.drop (Int.toNat (4:Int)) (be (ix (qat a0_h ((toB (128:Int)::([]:List UInt8))::List.replicate ((IntKind.i64.wrap ((119:Int) - (a0_h.snd.snd.length:Int))).tmod (64:Int)).toNat Ty.byte.kd.z::be (IntKind.u64.wrap ((8:Int) *hLen a0_h)).toNat (8:Nat)::([]:List (List UInt8)))).fst x2).toNat (8:Nat))).length (((32:Nat):Int).toNat - (IntKind.i64.wrap ((4:Int) *x2)).toNat)) x3)<x1 x2 x3))∧(¬x2<(8:Int)→Q x3))∧(((0:Int)≤(IntKind.i64.wrap ((119:Int) - (a0_h.snd.snd.length:Int))).tmod (64:Int)∧(IntKind.i64.wrap ((119:Int) - (a0_h.snd.snd.length:Int))).tmod (64:Int)≤(IntKind.i64.wrap ((119:Int) - (a0_h.snd.snd.length:Int))).tmod (64:Int)∧((1:Nat):Int) *(IntKind.i64.wrap ((119:Int) - (a0_h.snd.snd.length:Int))).tmod (64:Int)≤(281474976710656:Int)∧(IntKind.i64.wrap ((119:Int) - (a0_h.snd.snd.length:Int))).tmod (64:Int)≤(281474976710656:Int))∧(((1:Nat)+((toB (128:Int)::([]:List UInt8))::List.replicate ((IntKind.i64.wrap ((119:Int) - (a0_h.snd.snd.length:Int))).tmod (64:Int)).toNat Ty.byte.kd.z::be (IntKind.u64.wrap ((8:Int) *hLen a0_h)).toNat (8:Nat)::([]:List (List UInt8))).length) *(24:Nat)≤(140737488355328:Nat)∧(a0_h.snd.snd++((toB (128:Int)::([]:List UInt8))::List.replicate ((IntKind.i64.wrap ((119:Int) - (a0_h.snd.snd.length:Int))).tmod (64:Int)).toNat Ty.byte.kd.z::be (IntKind.u64.wrap ((8:Int) *hLen a0_h)).toNat (8:Nat)::([]:List (List UInt8))).flatten).length≤(140737488355328:Nat))∧∃(x0:Int→List UInt8→Prop),∃(x1:Int→List UInt8→Nat),x0 (0:Int) (Ty.arr (32:Nat) Ty.byte).kd.z∧∀(x2:Int) (x3:List UInt8),x0 x2 x3→(Kd.int IntKind.i64).wf x2→(Ty.arr (32:Nat) Ty.byte).kd.wf x3→(x2<(8:Int)→((0:Int)≤x2∧x2<((8:Nat):Int))∧((0:Int)≤IntKind.i64.wrap ((4:Int) *x2)∧IntKind.i64.wrap ((4:Int) *x2)≤((32:Nat):Int)∧((32:Nat):Int)≤((32:Nat):Int)∧IntKind.i64.wrap ((4:Int) *x2)<((32:Nat):Int))∧(Ty.byte.kd.sl.wf (be (ix (qat a0_h ((toB (128:Int)::([]:List UInt8))::List.replicate ((IntKind.i64.wrap ((119:Int) - (a0_h.snd.snd.length:Int))).tmod (64:Int)).toNat Ty.byte.kd.z::be (IntKind.u64.wrap ((8:Int) *hLen a0_h)).toNat (8:Nat)::([]:List (List UInt8)))).fst x2).toNat (8:Nat))→((0:Int)≤(4:Int)∧(4:Int)≤((be (ix (qat a0_h ((toB (128:Int)::([]:List UInt8))::List.replicate ((IntKind.i64.wrap ((119:Int) - (a0_h.snd.snd.length:Int))).tmod (64:Int)).toNat Ty.byte.kd.z::be (IntKind.u64.wrap ((8:Int) *hLen a0_h)).toNat (8:Nat)::([]:List (List UInt8)))).fst x2).toNat (8:Nat)).length:Int))∧x2<(9223372036854775807:Int)∧x0 (x2+(1:Int)) (List.take (IntKind.i64.wrap ((4:Int) *x2)).toNat x3++List.take (((32:Nat):Int).toNat - (IntKind.i64.wrap ((4:Int) *x2)).toNat) (List.drop (Int.toNat (4:Int)) (be (ix (qat a0_h ((toB (128:Int)::([]:List UInt8))::List.replicate ((IntKind.i64.wrap ((119:Int) - (a0_h.snd.snd.length:Int))).tmod (64:Int)).toNat Ty.byte.kd.z::be (IntKind.u64.wrap ((8:Int) *hLen a0_h)).toNat (8:Nat)::([]:List (List UInt8)))).fst x2).toNat (8:Nat)))++List.drop ((IntKind.i64.wrap ((4:Int) *x2)).toNat+min (List.drop (Int.toNat (4:Int)) (be (ix (qat a0_h ((toB (128:Int)::([]:List UInt8))::List.replicate ((IntKind.i64.wrap ((119:Int) - (a0_h.snd.snd.length:Int))).tmod (64:Int)).toNat Ty.byte.kd.z::be (IntKind.u64.wrap ((8:Int) *hLen a0_h)).toNat (8:Nat)::([]:List (List UInt8)))).fst x2).toNat (8:Nat))).length (((32:Nat):Int).toNat - (IntKind.i64.wrap ((4:Int) *x2)).toNat)) x3)∧x1 (x2+(1:Int)) (List.take (IntKind.i64.wrap ((4:Int) *x2)).toNat x3++List.take (((32:Nat):Int).toNat - (IntKind.i64.wrap ((4:Int) *x2)).toNat) (List.drop (Int.toNat (4:Int)) (be (ix (qat a0_h ((toB (128:Int)::([]:List UInt8))::List.replicate ((IntKind.i64.wrap ((119:Int) - (a0_h.snd.snd.length:Int))).tmod (64:Int)).toNat Ty.byte.kd.z::be (IntKind.u64.wrap ((8:Int) *hLen a0_h)).toNat (8:Nat)::([]:List (List UInt8)))).fst x2).toNat (8:Nat)))++List.drop ((IntKind.i64.wrap ((4:Int) *x2)).toNat+min (List.drop (Int.toNat (4:Int)) (be (ix (qat a0_h ((toB (128:Int)::([]:List UInt8))::List.replicate ((IntKind.i64.wrap ((119:Int) - (a0_h.snd.snd.length:Int))).tmod (64:Int)).toNat Ty.byte.kd.z::be (IntKind.u64.wrap ((8:Int) *hLen a0_h)).toNat (8:Nat)::([]:List (List UInt8)))).fst x2).toNat (8:Nat))).length (((32:Nat):Int).toNat - (IntKind.i64.wrap ((4:Int) *x2)).toNat)) x3)<x1 x2 x3))∧(¬x2<(8:Int)→Q x3))∧True)∧True)
theorem qqP {a0_h:(List Int)×Int×List UInt8} (w_0:(Ty.kd (.pr (.arr 8 (.int .u32)) (.pr (.int .u64) (.sl .byte)))).wf a0_h) (hp:a0_h.2.2.length<64):qiK a0_h (fun o0=>o0=(hSum a0_h)):=by
 have wr: ∀a:Int, -1000≤a→a≤1000→IntKind.i64.wrap a=a:=fun a h1 h2=>qaw (wf64 (by omega) (by omega))
 have hk:Int.tmod (IntKind.i64.wrap (119 - (a0_h.2.2.length:Int))) 64=((119 - (a0_h.2.2.length:Int))%64):=by
  rw [wr _ (by omega) (by omega),Int.tmod_eq_emod_of_nonneg (by omega)]
 have hsum: ∀n,(sumN (qat a0_h (qhB a0_h)).1 n).length=32:=by
  intro n
  induction n with
  | zero=>simp [sumN]
  | succ n ih=>
    simp only [sumN,List.length_append,List.length_take,List.length_drop,ih,qa1]
    omega
 have hp': [[toB 128],List.replicate ((119 - (a0_h.2.2.length:Int))%64).toNat Ty.byte.kd.z,be (IntKind.u64.wrap (8 *hLen a0_h)).toNat 8]=qhB a0_h:=by unfold qhB;rw [hk];rfl
 unfold qiK
 rw [hk,hp']
 intro _
 refine ⟨by omega,fun _ _=>?_⟩
 repeat' (first | apply And.intro | intro _)
 all_goals first | trivial | omega | (simp only [←hp',List.length_cons,List.length_nil,List.length_append,List.flatten_cons,List.flatten_nil,List.length_replicate,qa1];omega) | skip
 all_goals
  refine ⟨fun i b=> ∃n:Nat,i=(n:Int)∧n≤8∧b=sumN (qat a0_h (qhB a0_h)).1 n,fun i _=>8 - i.toNat,⟨0,rfl,by omega,rfl⟩,?_⟩
  rintro i b ⟨n,rfl,hn,rfl⟩ _ _
  refine ⟨fun hlt=>?_,fun hge=>?_⟩
  ·rw [wr (4 *(n:Int)) (by omega) (by omega)]
   have e4:(4 *(n:Int)).toNat=4 *n:=by omega
   rw [e4]
   refine ⟨⟨by omega,hlt⟩,⟨by omega,by omega,by omega,by omega⟩,fun _=>⟨⟨by omega,by rw [qa1];omega⟩,by omega,⟨n+1,by omega,by omega,rfl⟩,?_⟩⟩
   show 8 - ((n:Int)+1).toNat<8 - (n:Int).toNat
   omega
  ·have:n=8:=by omega
   subst this
   rfl
theorem qqO:(∀a,qgj.pre a→PM.wfP qgj.pm a (fvc qpY 200 125 qgj a (eqO qgj a)))=(∀a:((List Int)×Int×List UInt8)×Unit,((a.1).2.2.length<64)→(Ty.kd (.pr (.arr 8 (.int .u32)) (.pr (.int .u64) (.sl .byte)))).wf a.1→qiK a.1 (fun o0=>o0=(hSum (a.1)))):=by kernel_rfl
theorem qse:qgj.valid Try.prog 125:=qaB (X:=qpY) (qaY qas (fun b hb=>by cases hb;exact qaA) qaC ⟨qsi,qqL,qsd,qtp,qjR,trivial⟩) 200 (qqO.mpr fun a hp w_0=> @qqP a.1 w_0 hp)
noncomputable def qd1:Ctr:=⟨[.v (.sl (.sl .byte))],[.v (.arr 32 .byte)],some (fun a=>(fun (a0_parts:List (List UInt8))=>((1+a0_parts.length) *24≤140737488355328∧a0_parts.flatten.length≤140737488355328:Prop)) a.1),fun a=>(fun (a0_parts:List (List UInt8))=>(((qaT a0_parts),()),(()))) a.1⟩
noncomputable def qjY:Fx:=⟨seat,some bkT,fns,[(123,qiN),(124,qcC),(125,qgj)],[],[],[]⟩
def qfw (a0_parts:List (List UInt8)) (Q:(List UInt8)→Prop):Prop:=
 ((Ty.arr (8:Nat) (Ty.int IntKind.u32)).pr ((Ty.int IntKind.u64).pr Ty.byte.sl)).kd.wf (List.replicate (8:Nat) (0:Int),(0:Int),([]:List UInt8))→(((1:Nat)+a0_parts.length) *(24:Nat)≤(140737488355328:Nat)∧(([]:List UInt8)++a0_parts.flatten).length≤(140737488355328:Nat))∧(qat (List.replicate (8:Nat) (0:Int),(0:Int),([]:List UInt8)) a0_parts).snd.snd.length<(64:Nat)∧((Ty.arr (32:Nat) Ty.byte).kd.wf (hSum (qat (List.replicate (8:Nat) (0:Int),(0:Int),([]:List UInt8)) a0_parts))→Q (hSum (qat (List.replicate (8:Nat) (0:Int),(0:Int),([]:List UInt8)) a0_parts)))
theorem qmn {a0_parts:List (List UInt8)} (w_0:(Ty.kd (.sl (.sl .byte))).wf a0_parts) (hp:(1+a0_parts.length) *24≤140737488355328∧a0_parts.flatten.length≤140737488355328):qfw a0_parts (fun o0=>o0=(qaT a0_parts)):=by
 unfold qfw
 exact fun _=>⟨⟨hp.1,hp.2⟩,qo7 _ _ _,fun _=>rfl⟩
theorem qmm:(∀a,qd1.pre a→PM.wfP qd1.pm a (fvc qjY 200 110 qd1 a (eqO qd1 a)))=(∀a:(List (List UInt8))×Unit,((1+(a.1).length) *24≤140737488355328∧(a.1).flatten.length≤140737488355328)→(Ty.kd (.sl (.sl .byte))).wf a.1→qfw a.1 (fun o0=>o0=(qaT (a.1)))):=by kernel_rfl
theorem qoJ:qd1.valid Try.prog 110:=qaB (X:=qjY) (qaY qas (fun b hb=>by cases hb;exact qaA) qaC ⟨qsi,qjR,qse,trivial⟩) 200 (qmm.mpr fun a hp w_0=> @qmn a.1 w_0 hp)
end Go.Proofs.Ytmjjkpiglbpkhaa

set_option linter.unusedVariables false
set_option maxRecDepth 100000
set_option maxHeartbeats 2000000
namespace Go.Proofs.Ytmjjkpiglbpkhaa
open Go Go.RowKit Go.Inc
theorem qio {θ:Th} {n:Nat} {K:Ghost} {s:SVal} {v:Value} (h:s.rel θ n K v):SVal.relL θ n K [s] [v]:=⟨v,[],rfl,h,rfl⟩
theorem qtx {θ:Th} {n:Nat} {K:Ghost} {s s':SVal} {v v':Value} (h:s.rel θ n K v) (h':s'.rel θ n K v'):SVal.relL θ n K [s,s'] [v,v']:=⟨v,[v'],rfl,h,qio h'⟩
theorem qfn {w0:World} {K0:Ghost} {a0_s_v:Value} {a0_s:(List UInt8)} (hM0:Models w0 K0) (h_a0_s:qai.V K0 a0_s a0_s_v) (hp:a0_s.length≤140737488355328):Calls Try.prog 69 #[a0_s_v] w0 (fun e w'=> ∃(K':Ghost) (r0:Value),e= .returned r0∧Ext NX w0 K0 w' K'∧Models w' K'∧Own Kd.byte 5 w' K' a0_s r0∧(∀g,ob r0=some g→w0.heap.size≤g)):=
 qtO (k:= .byte) qgU (fun _=>rfl) (a:=(a0_s,())) (vs:=[a0_s_v]) hp hM0 fun θ=>qio (SVal.of_rel (t:= .sl .byte) h_a0_s)
theorem qlM {w0:World} {K0:Ghost} {a0_a_v:Value} {a0_a:(List UInt8)} {a1_b_v:Value} {a1_b:(List UInt8)} (hM0:Models w0 K0) (h_a0_a:qai.V K0 a0_a a0_a_v) (h_a1_b:qai.V K0 a1_b a1_b_v):Calls Try.prog 85 #[a0_a_v,a1_b_v] w0 (fun e w'=> ∃(K':Ghost) (r0:Value),e= .returned r0∧Ext NX w0 K0 w' K'∧Models w' K'∧Kd.bool.V K' (decide (a0_a=a1_b)) r0):=
 un_v (t:= .bool) qqF (fun _=>rfl) (fun _=>rfl) (a:=(a0_a,a1_b,())) (vs:=[a0_a_v,a1_b_v]) trivial hM0 fun θ=>qtx (SVal.of_rel (t:= .sl .byte) h_a0_a) (SVal.of_rel (t:= .sl .byte) h_a1_b)
theorem qkX {w0:World} {K0:Ghost} {a0_kind_v:Value} {a0_kind:Int} {a1_parts_v:Value} {a1_parts:(List (List UInt8))} (hM0:Models w0 K0) (h_a0_kind:(Kd.int .i64).V K0 a0_kind a0_kind_v) (h_a1_parts:qaV.V K0 a1_parts a1_parts_v) (hp:1+qah a1_parts≤140737488355328):Calls Try.prog 98 #[a0_kind_v,a1_parts_v] w0 (fun e w'=> ∃(K':Ghost) (r0:Value),e= .returned r0∧Ext NX w0 K0 w' K'∧Models w' K'∧Own Kd.byte 5 w' K' (preimage a0_kind a1_parts) r0∧(∀g,ob r0=some g→w0.heap.size≤g)):=
 qtO (k:= .byte) qem (fun _=>rfl) (a:=(a0_kind,a1_parts,())) (vs:=[a0_kind_v,a1_parts_v]) hp hM0 fun θ=>qtx (SVal.of_rel (t:= .int .i64) h_a0_kind) (SVal.of_rel (t:= .sl (.sl .byte)) h_a1_parts)
theorem qjZ {w0:World} {K0:Ghost} {a0_parts_v:Value} {a0_parts:(List (List UInt8))} (hM0:Models w0 K0) (h_a0_parts:qaV.V K0 a0_parts a0_parts_v) (hp:(1+a0_parts.length) *24≤140737488355328∧a0_parts.flatten.length≤140737488355328):Calls Try.prog 110 #[a0_parts_v] w0 (fun e w'=> ∃(K':Ghost) (r0:Value),e= .returned r0∧Ext NX w0 K0 w' K'∧Models w' K'∧(Kd.arr 32 Kd.byte).V K' (qaT a0_parts) r0):=
 un_v (t:= .arr 32 .byte) qoJ (fun _=>rfl) (fun _=>rfl) (a:=(a0_parts,())) (vs:=[a0_parts_v]) hp hM0 fun θ=>qio (SVal.of_rel (t:= .sl (.sl .byte)) h_a0_parts)
end Go.Proofs.Ytmjjkpiglbpkhaa

set_option linter.unusedVariables false
namespace Go.Inc
open Go Go.RowKit
def Rd {α:Type} (k:Kd α) (D:Nat→Prop) (w:World) (K:Ghost) (x:α) (v:Value):Prop:=
 ∃K1,Models w K1∧(∀b,K b≠none→K1 b=K b)∧(∀b,K1 b≠none→K b=none→D b)∧(∀b,D b→b<w.heap.size∧K b=none)∧k.V K1 x v
section
variable {α β:Type} {k:Kd α} {D:Nat→Prop} {w w':World} {K K' K1:Ghost} {x:α} {v:Value} {X:Nat→Prop}
theorem Rd.ofV (hM:Models w K) (h:k.V K x v):Rd k (fun _=>False) w K x v:=⟨K,hM,fun _ _=>rfl,fun _ h1 h2=>absurd h2 h1,fun _ h=>h.elim,h⟩
theorem Rd.wf (h:Rd k D w K x v):k.wf x:=by obtain ⟨_,_,_,_,_,h⟩:=h;exact h.wf
theorem Rd.lt (h:Rd k D w K x v) (g:Nat) (hg:D g):g<w.heap.size:=by obtain ⟨_,_,_,_,h,_⟩:=h;exact (h g hg).1
theorem qpb (h: ∀b,K b≠none→K1 b=K b):K.le K1:=fun b t l hb=>⟨l,by rw [h b (by rw [hb];exact fun h=>by cases h)];exact hb,List.prefix_refl _⟩
theorem Rd.ext (h:Rd k D w K x v) (hE:Ext X w K w' K') (hM:Models w' K') (hX: ∀g,X g→¬D g):Rd k D w' K' x v:=by
 classical
 obtain ⟨K1,h1,h2,h3,h4,h5⟩:=h
 have hkn: ∀b,D b→K' b=none:=fun b hd=>by rw [hE.ghost b (h4 b hd).1 (fun hx=>hX b hx hd)];exact (h4 b hd).2
 refine ⟨fun b=>if D b then K1 b else K' b,fun b t l hb=>?_,fun b hb=>?_,fun b hb hk=>?_,fun b hd=>⟨Nat.lt_of_lt_of_le (h4 b hd).1 hE.size,hkn b hd⟩,h5.mono fun b t l hb=>?_⟩
 ·by_cases hd:D b
  ·simp only [if_pos hd] at hb
   rw [hE.heap b (h4 b hd).1 (fun hx=>hX b hx hd)]
   exact h1 b t l hb
  ·simp only [if_neg hd] at hb
   exact hM b t l hb
 ·by_cases hd:D b
  ·exact absurd (hkn b hd) hb
  ·exact if_neg hd
 ·by_cases hd:D b
  ·exact hd
  ·have hb':(if D b then K1 b else K' b)≠none:=hb
   rw [if_neg hd] at hb'
   exact absurd hk hb'
 ·by_cases hd:D b
  ·exact ⟨l,by simp only [if_pos hd];exact hb,List.prefix_refl _⟩
  ·simp only [if_neg hd]
   have hkb:K b≠none:=fun hk=>hd (h3 b (by rw [hb];exact fun h=>by cases h) hk)
   rw [h2 b hkb] at hb
   exact hE.le b t l hb
theorem Rd.use (h:Rd k D w K x v): ∃K1,Models w K1∧Ext D w K w K1∧k.V K1 x v∧∀(w':World) (K1':Ghost),Ext NX w K1 w' K1'→Models w' K1'→
 ∃K',Ext NX w K w' K'∧Models w' K'∧∀b,(D b→K' b=none)∧(¬D b→K' b=K1' b):=by
 classical
 obtain ⟨K1,h1,h2,h3,h4,h5⟩:=h
 have hEx:Ext D w K w K1:=⟨qpb h2,fun _ _ _=>rfl,fun b hb hd=>by
  by_cases hk:K b=none
  ·rw [hk]
   exact Decidable.byContradiction fun hh=>hd (h3 b hh hk)
  ·exact h2 b hk,Nat.le_refl _,rfl,rfl,rfl⟩
 refine ⟨K1,h1,hEx,h5,fun w' K1' hE hM=>⟨fun b=>if D b then none else K1' b,⟨fun b t l hb=>?_,hE.heap,fun b hb hx=>?_,hE.size,hE.os,hE.tape,hE.output⟩,fun b t l hb=>?_,fun b=>⟨fun hd=>if_pos hd,fun hd=>if_neg hd⟩⟩⟩
 ·have hd: ¬D b:=fun hd=>by rw [(h4 b hd).2] at hb;cases hb
  simp only [if_neg hd]
  exact hE.le b t l (by rw [h2 b (by rw [hb];exact fun h=>by cases h)];exact hb)
 ·by_cases hd:D b
  ·simp only [if_pos hd];exact (h4 b hd).2.symm
  ·simp only [if_neg hd]
   rw [hE.ghost b hb hx]
   exact hEx.ghost b hb hd
 ·by_cases hd:D b
  ·simp only [if_pos hd] at hb;cases hb
  ·simp only [if_neg hd] at hb;exact hM b t l hb
theorem Own.less {e:TypeId} {Y:List α} {K2:Ghost} (hf:k.Flat) (h:Own k e w K1 Y v) (hL: ∀g,ob v=some g→K2 g=K1 g):Own k e w K2 Y v:=by
 obtain ⟨hwf,hlm,h⟩:=h
 refine ⟨hwf,hlm,?_⟩
 rcases h with h | ⟨g,cap,c,pre,l,rfl,hg,hnc,hcm,hcs,hK,hp,hR⟩
 ·exact .inl h
 ·cases cap with
  | zero=>
    have hx:Y=[]:=List.eq_nil_of_length_eq_zero (by omega)
    subst hx
    exact .inl ⟨_,rfl,rfl⟩
  | succ cap=>exact .inr ⟨g,cap+1,c,pre,l,rfl,hg,hnc,hcm,hcs,(hL g rfl).trans hK,hp,RL.mono (fun _ _=>hf _ _ _ _) hR⟩
end
end Go.Inc
