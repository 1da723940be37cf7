/- Calls are what the interpreter says. Conditions: each theorem's own hypotheses. -/
import Derived.Test.YtlkbjdmfbadhaaaGreatDoorOLmb
set_option linter.unusedVariables false
set_option linter.unusedSimpArgs false
namespace Go.LM
def gA:List Value→List Value
 | []=>[]
 |.func _ a b::l=>a.toList++b.toList++gA l
 |_::l=>gA l
def gP(w:World)(Z:ah)(key:Nat):(ps:List bE)→(bE.ins ps).D→List Value→ah→Prop
 | [],_,us,_=>us=[]
 |.fn mW p7::ps,x,us,F=>∃a b aY,us=.func (.func key) a b::aY∧(a.size=mW∧b.size=p7)∧gP w Z key ps x aY F
 |.val t m::ps,x,us,F=>∃vs aY G H,us=dW t vs::aY∧t.ar w Z m x.1 vs G∧gP w Z key ps x.2 aY H∧ah.apart G H∧ah.sub G F∧ah.sub H F
 |.ic t::ps,x,us,F=>∃vs aY G H,us=dW t vs::aY∧t.ar w Z .R x.1 vs G∧gP w Z key ps x.2 aY H∧ah.apart G H∧ah.sub G F∧ah.sub H F
 |.hI t m::ps,x,us,F=>∃vs aY G H,us=dW t vs::aY∧t.ar w Z m x.1 vs G∧gP w Z key ps x.2 aY H∧ah.apart G H∧ah.sub G F∧ah.sub H F
 |.ref t::ps,x,us,F=>∃b o vs aY,us=.pointer (some (at_ b o))::aY∧cf w b o vs∧t.ar w Z .R x.1 vs ah.none∧(∀j,j<t.size→Z b (o+j))∧gP w Z key ps x.2 aY F
 |.mut t m _::ps,x,us,F=>∃b o vs aY G H,us=.pointer (some (at_ b o))::aY∧cf w b o vs∧(∀j,j<t.size→fN w b (o+j))∧t.ar w Z m x.1 vs G∧gP w Z key ps x.2 aY H ∧
   ah.apart (G.or (ah.run b o t.size)) H∧ah.apart G (ah.run b o t.size)∧ah.sub (G.or (ah.run b o t.size)) F∧ah.sub H F
def iT(w:World)(Z:ah):(ps:List bE)→List Value→(bE.en ps).D→ah→Prop
 | [],_,_,_=>True
 |.mut t _ m'::ps,us,x,F=>∃b o vs aY G H,us=.pointer (some (at_ b o))::aY∧cf w b o vs∧t.ar w Z m' x.1 vs G∧iT w Z ps aY x.2 H ∧
   ah.apart (G.or (ah.run b o t.size)) H∧ah.apart G (ah.run b o t.size)∧ah.sub (G.or (ah.run b o t.size)) F∧ah.sub H F
 |.hI t m::ps,us,x,F=>∃vs aY G H,us=dW t vs::aY∧t.ar w Z m x.1 vs G∧iT w Z ps aY x.2 H∧ah.apart G H∧ah.sub G F∧ah.sub H F
 |.val _ _::ps,us,x,F=>∃u aY,us=u::aY∧iT w Z ps aY x F
 |.ic _::ps,us,x,F=>∃u aY,us=u::aY∧iT w Z ps aY x F
 |.ref _::ps,us,x,F=>∃u aY,us=u::aY∧iT w Z ps aY x F
 |.fn _ _::ps,us,x,F=>∃u aY,us=u::aY∧iT w Z ps aY x F
def Mx(w:World)(us:List Value)(a off size:Nat)(x:Int)(v:Value):Prop:=
 (x<0∧v=.pointer none)∨(0≤x∧∃b o jw dS n c,us[a]?=some (.pointer (some (at_ b o)))∧w.cell? (at_ b (o+off))=some (.slice (some (at_ jw dS)) n c)∧x.toNat<n∧v=.pointer (some (at_ jw (dS+x.toNat*size))))
def iK(w:World)(Z:ah)(ps:List bE)(us:List Value):(rs:List c4)→(c4.outs rs (bE.en ps)).D→List Value→ah→Prop
 | [],x,dE,F=>dE=[]∧iT w Z ps us x F
 |.val t m::rs,x,dE,F=>∃vs et G H,dE=dW t vs::et∧t.ar w Z m x.1 vs G∧iK w Z ps us rs x.2 et H∧ah.apart G H∧ah.sub G F∧ah.sub H F
 |.opt a off t::rs,x,dE,F=>∃v et,dE=v::et∧Mx w us a off t.size x.1 v∧iK w Z ps us rs x.2 et F
 |.any t::rs,x,dE,F=>∃v et,dE=v::et∧(v.cells.toList.length=t.size∧∀u∈v.cells.toList,eC u=true)∧iK w Z ps us rs x et F
 |.p8 t::rs,x,dE,F=>∃v et,dE=v::et∧((x.1=[]∧v=.pointer none)∨∃y b o vs,x.1=[y]∧v=.pointer (some (at_ b o))∧cf w b o vs∧t.ar w Z .R y vs ah.none∧∀j,j<t.size→Z b (o+j))∧iK w Z ps us rs x.2 et F
 |.new t m::rs,x,dE,F=>∃b o vs et G H,dE=.pointer (some (at_ b o))::et∧cf w b o vs∧(∀j,j<t.size→fN w b (o+j))∧t.ar w Z m x.1 vs G∧iK w Z ps us rs x.2 et H ∧
   ah.apart (G.or (ah.run b o t.size)) H∧ah.apart G (ah.run b o t.size)∧ah.sub (G.or (ah.run b o t.size)) F∧ah.sub H F
def pe:List Value→Value
 | [v]=>v
 |l=>.tuple l.toArray
structure Ends(w:World)(Z F:ah)(e:Entry)(us:List Value)(r:(c4.outs e.rs (bE.en e.ps)).D)(v:Value)(w':World):Prop where
 out:∃dE Z' F',v=pe dE∧Ext w w' F∧ah.sub Z Z'∧(∀b o,Z' b o→Z b o∨((F b o∨w.heap.size≤b)∧b<w'.heap.size))∧(∀b o,F' b o→(F b o∨w.heap.size≤b)∧b<w'.heap.size) ∧
  ah.apart F' Z'∧iK w' Z' e.ps (us++gA us) e.rs r dE F'
structure Sound(P:Program)(f:FuncId)(key:Nat)(e:Entry):Prop where
 fn:∃fn,P.funcs[f]?=some fn∧fn.body.isNone=false∧(fn.name == "runtime.NumGoroutine")=false
 calls:∀(w:World) (Z F:ah) (x:(bE.ins e.ps).D) (us:List Value) (r:(c4.outs e.rs (bE.en e.ps)).D),
  (∀b o,Z b o→b<w.heap.size)→(∀b o,F b o→b<w.heap.size)→ah.apart F Z→gP w Z key e.ps x (us++gA us) F→e.f x=some r →
  Calls P f us.toArray w fun end_ w'=>∃v,end_=.returned v∧Ends w Z F e us r v w'
def yF(P:Program)(f:FuncId)(us:Array Value)(w:World)(R:Ending→World→Prop):Prop:=
 ((∃fn,P.funcs[f]?=some fn∧fn.body.isNone=false∧(fn.name == "runtime.NumGoroutine")=false)∧Calls P f us w R)∨∃v w',(callFunc f us).run P w=.ok (.value v) w'∧R (.returned v) w'
structure iD(P:Program)(f:FuncId)(key:Nat)(e:Entry):Prop where
 calls:∀(w:World) (Z F:ah) (x:(bE.ins e.ps).D) (us:List Value) (r:(c4.outs e.rs (bE.en e.ps)).D),
  (∀b o,Z b o→b<w.heap.size)→(∀b o,F b o→b<w.heap.size)→ah.apart F Z→gP w Z key e.ps x (us++gA us) F→e.f x=some r →
  yF P f us.toArray w fun end_ w'=>∃v,end_=.returned v∧Ends w Z F e us r v w'
theorem Sound.x{P:Program}{f:FuncId}{key:Nat}{e:Entry}(h:Sound P f key e):iD P f key e:=
 ⟨fun w Z F x us r h1 h2 h3 h4 a6=>.inl ⟨h.fn,h.calls w Z F x us r h1 h2 h3 h4 a6⟩⟩
instance {P:Program}{f:FuncId}{key:Nat}{e:Entry}:Coe (Sound P f key e) (iD P f key e):=⟨Sound.x⟩
section
variable{P:Program}{Q:Exit→Act→World→Prop}
variable{w0:World}{F0 Z0:ah}{n:cN}{s au:az}{a b8:Act}{w w':World}{ι bp:Nat→bI}{Z Z':ah}
theorem gP.mono{key:Nat}(hZ:ah.sub Z Z'):∀(ps:List bE) {x:(bE.ins ps).D}{us:List Value}{F F':ah},ah.sub F F'→gP w Z key ps x us F→gP w Z' key ps x us F'
 | [],_,_,_,_,_,h=>h
 |.fn _ _::ps,_,_,_,_,hF,h=>by obtain⟨a,b,aY,h1,h0,h2⟩:=h;exact⟨a,b,aY,h1,h0,gP.mono hZ ps hF h2⟩
 |.val t m::ps,_,_,_,_,hF,h=>by obtain⟨vs,aY,G,H,h1,h2,h3,h4,a6,bj⟩:=h;exact⟨vs,aY,G,H,h1,ad.ar.mono hZ _ _ (fun _ _ h=>h) h2,gP.mono hZ ps (fun _ _ h=>h) h3,h4,fun b o h=>hF b o (a6 b o h),fun b o h=>hF b o (bj b o h)⟩
 |.ic t::ps,_,_,_,_,hF,h=>by obtain⟨vs,aY,G,H,h1,h2,h3,h4,a6,bj⟩:=h;exact⟨vs,aY,G,H,h1,ad.ar.mono hZ _ _ (fun _ _ h=>h) h2,gP.mono hZ ps (fun _ _ h=>h) h3,h4,fun b o h=>hF b o (a6 b o h),fun b o h=>hF b o (bj b o h)⟩
 |.hI t m::ps,_,_,_,_,hF,h=>by obtain⟨vs,aY,G,H,h1,h2,h3,h4,a6,bj⟩:=h;exact⟨vs,aY,G,H,h1,ad.ar.mono hZ _ _ (fun _ _ h=>h) h2,gP.mono hZ ps (fun _ _ h=>h) h3,h4,fun b o h=>hF b o (a6 b o h),fun b o h=>hF b o (bj b o h)⟩
 |.ref t::ps,_,_,_,_,hF,h=>by obtain⟨b,o,vs,aY,h1,h2,h3,h4,a6⟩:=h;exact⟨b,o,vs,aY,h1,h2,ad.ar.mono hZ _ _ (fun _ _ h=>h) h3,fun j hj=>hZ _ _ (h4 j hj),gP.mono hZ ps hF a6⟩
 |.mut t m m'::ps,_,_,_,_,hF,h=>by obtain⟨b,o,vs,aY,G,H,h1,h2,h3,h4,a6,bj,bL,dk,jB⟩:=h;exact⟨b,o,vs,aY,G,H,h1,h2,h3,ad.ar.mono hZ _ _ (fun _ _ h=>h) h4,gP.mono hZ ps (fun _ _ h=>h) a6,bj,bL,fun b o h=>hF b o (dk b o h),fun b o h=>hF b o (jB b o h)⟩
structure fX(s:az)(ι:Nat→bI)(Z:ah)(au:az)(Z':ah):Prop where
 o:∀id,au.o id=s.o id∨((s.o id).live∧(au.o id=.dead∨au.o id=.cr (s.o id)))
 t:au.t=s.t
 g:au.g=s.g
 dU:ah.sub Z Z'
 qa:∀b o,Z' b o→Z b o∨∃id,(s.o id).live∧¬(au.o id).live∧(ι id).F b o
theorem ft.m9(h:ft s ι Z au Z'):fX s ι Z au Z':=
 ⟨fun id=>(h.o id).imp (fun h=>h) fun h=>⟨h.1,.inl h.2⟩,h.t,h.g,h.dU,fun b o hz=>(h.qa b o hz).imp (fun h=>h) fun⟨id,h1,h2,h3⟩=>⟨id,h1,by rw[h2];exact agL,h3⟩⟩
where agL:¬cD.live .dead:=fun h=>h
theorem fX.refl:fX s ι Z s Z:=ft.m9 .refl
theorem fX.live(h:fX s ι Z au Z'){id:Nat}(hl:(au.o id).live):(s.o id).live∧au.o id=s.o id:=by
 rcases h.o id with h1|⟨_,h1|h1⟩
 ·exact⟨h1▸hl,h1⟩
 ·rw[h1]at hl;exact hl.elim
 ·rw[h1]at hl;exact hl.elim
theorem fX.trans{s2:az}{bR:ah}(h:fX s ι Z au Z')(k:fX au ι Z' s2 bR):fX s ι Z s2 bR:=by
 refine⟨fun id=>?_,k.t.trans h.t,k.g.trans h.g,fun b o hz=>k.dU b o (h.dU b o hz),fun b o hz=>?_⟩
 ·rcases k.o id with h1|⟨h0,h1⟩
  ·rw[h1];exact h.o id
  ·obtain⟨h2,h3⟩:=h.live h0;rw[h3]at h1;exact .inr ⟨h2,h1⟩
 ·rcases k.qa b o hz with h1|⟨id,h1,h2,h3⟩
  ·rcases h.qa b o h1 with h1|⟨id,h1,h2,h3⟩
   ·exact .inl h1
   ·exact .inr ⟨id,h1,fun hl=>h2 (k.live hl).1,h3⟩
  ·exact .inr ⟨id,(h.live h1).1,h2,h3⟩
theorem fX.eI(h:fX s ι Z au Z'):e5 w Z s ι w Z' au ι :=by
 refine⟨fun id=>?_,h.dU,ch.refl _ _⟩;rcases h.o id with h1|⟨h0,h1|h1⟩
 ·rw[h1];exact .stay _ _
 ·rw[h1];exact .dead _ _ _
 ·rw[h1];exact .fP _ _ h0
theorem bM.vH{F:ah}(hf:bM w0 F0 s w ι Z F)(h:fX s ι Z au Z'):bM w0 F0 au w ι Z' F:=by
 refine⟨hf.own,fun id hl=>hf.apart id (h.live hl).1,fun b o h1 h2=>?_⟩;rcases h.qa b o h2 with h3|⟨id,h3,_,h4⟩
 ·exact hf.db b o h1 h3
 ·exact hf.apart id h3 b o h1 h4
theorem AY{id:Nat}(hl:(s.o id).live):fX s ι Z (s.bV id (.cr (s.o id))) Z:=by
 refine⟨fun j=>?_,rfl,rfl,fun _ _ h=>h,fun _ _ h=>.inl h⟩;by_cases hj:id=j
 ·subst hj;exact .inr ⟨hl,.inr (cM _ _ _)⟩
 ·exact .inl (cX hj)
theorem Inv.m9(h:Inv w0 F0 Z0 n s a w ι Z)(aB:fX s ι Z au Z'):Inv w0 F0 Z0 n au a w ι Z':=by
 have hm:e5 w Z s ι w Z' au ι :=aB.eI;refine h.next hm (Ext.refl _ ah.none) (fun _ _ h=>h.elim) ?_ ?_ ?_ (fun k=>by rw[aB.t];exact(h.tmps k).move hm) h.size h.defers aB.g
 ·intro b o hz;rcases aB.qa b o hz with h1|⟨id,h1,_,h3⟩
  ·exact .inl h1
  ·exact .inr (h.own id h1 b o h3)
 ·intro id hl hne;exact absurd ⟨(aB.live hl).2,rfl⟩ hne
 ·intro id hl b o h1 h2;obtain⟨ei,_⟩:=aB.live hl;rcases aB.qa b o h2 with h3|⟨j,h3,h4,a6⟩
  ·exact h.db id ei b o h1 h3
  ·have hne:id≠j:=fun e=>h4 (e▸hl)
   exact h.apart id j ei h3 hne b o h1 a6
theorem Inv.AZ(h:Inv w0 F0 Z0 n s a w ι Z){id:Nat}(hl:(s.o id).live):bM w0 F0 (s.bV id (.cr (s.o id))) w ι Z (ι id).F:=by
 refine⟨h.own id hl,fun j hj=>?_,h.db id hl⟩;have hj':(bW s.o id (cD.cr (s.o id)) j).live:=hj;by_cases hne:id=j
 ·subst hne;rw[cM]at hj';exact hj'.elim
 ·rw[cX hne]at hj';exact h.apart id j hl hj' hne
def yG(g:Bool)(w:World)(Z:ah)(s:az)(ι:Nat→bI)(t:ad)(p:Place)(u:Value)(H:ah):Prop:=
 ∃ver old b o vs,(g=true→¬(s.o p.id).live)∧(∀eV,s.o p.id=.cr eV→eV=.var ver old∧(ι p.id).base=some (at_ b o))∧p.fO=none∧u=.pointer (some (at_ b (o+p.off)))∧p.off+t.size≤old.length∧bO w Z s ι old vs ∧
  (∀j,j<old.length→fN w b (o+j))∧(∀j,j<old.length→(j<p.off∨p.off+t.size≤j)→H b (o+j)) ∧
  (∀(j:Nat) (v:Value),vs[j]?=some v→(j<p.off∨p.off+t.size≤j)→w.cell? (at_ b (o+j))=some v)
def yH(g:Bool)(w:World)(Z:ah)(s:az)(ι:Nat→bI)(t:ad)(m:bg)(p:Place)(u:Value)(H:ah):Prop:=
 ∃ver xs i b o c G1 G2,(g=true→¬(s.o p.id).live)∧(∀eV,s.o p.id=.cr eV→eV=.row t m ver xs∧(ι p.id).base=some (at_ b o)∧(ι p.id).cap=c)∧p.fO=some i∧i<xs.length∧u=.pointer (some (at_ b (o+i*t.size)))∧xs.length≤c ∧
  (∀j,j<c*t.size→gm w t.size b (o+j))∧(∀j,j<c*t.size→(j<i*t.size∨(i+1)*t.size≤j)→H b (o+j)) ∧
  Row w (t.ar w Z m) t.size (xs.take i) b o G1∧Row w (t.ar w Z m) t.size (xs.drop (i+1)) b (o +(i+1)*t.size) G2∧ah.apart G1 G2∧ah.sub G1 H∧ah.sub G2 H ∧
  (∀j,j<c*t.size→¬G1 b (o+j)∧¬G2 b (o+j))
def agM(g:Bool)(s:az)(ι:Nat→bI)(t:ad)(e:bg)(cJ:Option Place)(v:Value)(H:ah)(w:World):Prop:=
 ∃(p:Place) (i:Nat) (T:ad) (ver:Nat) (ys:List T.D) (b o c:Nat),cJ=some p∧p.fO=some i∧(g=true→¬(s.o p.id).live)∧(∀eV,s.o p.id=.cr eV→eV=.row T T.own ver ys∧(ι p.id).base=some (at_ b o)∧(ι p.id).cap=c)∧i<ys.length∧e=t.own ∧
  ∀(ck:World) (bR X:ah) (y:List t.D) (bA:T.D),ch w ck H→(ad.sl t).ar ck bR (.O t.own) y [v] X→ah.apart X H→T.setAt p.off t y (I T ys i)=some bA→nT ck (T.ar ck bR T.own) T.size (ys.set i bA) (at_ b o) c (X.or H)
mutual
def c7(g:Bool)(w:World)(Z:ah)(s:az)(ι:Nat→bI):(t:ad)→bg→List ba→List Value→ah→Prop
 |.sl t,.O e,cs,vs,H=>∃c v,cs=[c]∧vs=[v]∧match c with
  |.nil _=>v=.slice none 0 0
  |.af id none=>∃ver xs A k c,(g=true→¬(s.o id).live)∧(∀eV,s.o id=.cr eV→eV=.row t e ver xs∧(ι id).cap=c∧LO (ι id) t.size none xs.length A xs.length k)∧v=.slice A xs.length k ∧
    ((xs=[]∧c=0)∨∃b o,(∀eV,s.o id=.cr eV→(ι id).base=some (at_ b o))∧xs.length≤c∧k≤c∧(k=0∨A=some (at_ b o))∧(∀j,j<c*t.size→gm w t.size b (o+j))∧(∀j,k*t.size≤j→j<c*t.size→H b (o+j)))
  |.bG _ _ cJ _=>agM g s ι t e cJ v H w
  |_=>False
 |.sl _,_,_,_,_=>False
 |.st ak,m,cs,vs,H=>gf g w Z s ι ak m.parts cs vs H
 |_,_,cs,vs,_=>cs.length=1∧vs.length=1
def gf(g:Bool)(w:World)(Z:ah)(s:az)(ι:Nat→bI):(ak:aA)→c5→List ba→List Value→ah→Prop
 |.nil,_,cs,vs,_=>cs=[]∧vs=[]
 |.cons t ak,m,cs,vs,H=>∃c1 fV v1 v2 H1 H2,cs=c1++fV∧vs=v1++v2∧c7 g w Z s ι t m.af c1 v1 H1∧gf g w Z s ι ak m.dK fV v2 H2∧ah.apart H1 H2∧ah.sub H1 H∧ah.sub H2 H
end
def fc(g:Bool)(w:World)(Z:ah)(s:az)(ι:Nat→bI):(ps:List bE)→List a_→List Value→ah→Prop
 | [],_,_,_=>True
 |.mut t m m'::ps,vs,us,H=>∃p bK u aY H1 H2,vs=.ptr p::bK∧us=u::aY∧(yG g w Z s ι t p u H1∨(m'=m∧m=t.own∧yH g w Z s ι t m p u H1))∧fc g w Z s ι ps bK aY H2∧ah.apart H1 H2∧ah.sub H1 H∧ah.sub H2 H
 |.hI t m::ps,vs,us,H=>∃v bK u aY cs H1 H2,vs=v::bK∧us=u::aY∧jo t v=some cs∧m=t.own∧c7 g w Z s ι t m cs u.cells.toList H1∧fc g w Z s ι ps bK aY H2∧ah.apart H1 H2∧ah.sub H1 H∧ah.sub H2 H
 |_::ps,vs,us,H=>∃v bK u aY,vs=v::bK∧us=u::aY∧fc g w Z s ι ps bK aY H
end
end Go.LM
namespace Go.LM
section
variable{P:Program}{Q:Exit→Act→World→Prop}
variable{g:Bool}{w0:World}{F0 Z0:ah}{n:cN}{s au:az}{a b8:Act}{w w':World}{ι bp:Nat→bI}{Z Z':ah}
structure g'(g:Bool)(w:World)(Z:ah)(s:az)(ι:Nat→bI)(w':World)(Z':ah)(au:az)(bp:Nat→bI)(H:ah):Prop where
 aG:∀x v,aV w Z s ι x v→aV w' Z' au bp x v
 cell:∀c v,cz w Z s ι c v→cz w' Z' au bp c v
 dU:ah.sub Z Z'
 cr:∀id o',(g=true→¬(s.o id).live)→au.o id=.cr o'→s.o id=.cr o'∧bp id=ι id
 nl:g=true→∀id,¬(s.o id).live→¬(au.o id).live
 same:ch w w' H
 EB:ch w w' Z
 wr:∀b o,fN w b o→fN w' b o
 A0:∀z b o,gm w z b o→gm w' z b o
theorem g'.mono{H gv:ah}(h:g' g w Z s ι w' Z' au bp H)(hs:ah.sub gv H):g' g w Z s ι w' Z' au bp gv:=⟨h.aG,h.cell,h.dU,h.cr,h.nl,h.same.mono hs,h.EB,h.wr,h.A0⟩
theorem yG.move{t:ad}{p:Place}{u:Value}{H gv:ah}(h:g' g w Z s ι w' Z' au bp H)(cO:ah.sub H gv)(hk:yG g w Z s ι t p u H):yG g w' Z' au bp t p u gv:=by
 obtain⟨ver,old,b,o,vs,h0,h1,h2,h4,a6,bj,bL,dk,jB⟩:=hk;have hl:=bj.len;refine⟨ver,old,b,o,vs,fun aB=>h.nl aB _ (h0 aB),fun eV b2=>?_,h2,h4,a6,bO.mono h.cell bj,fun j hj=>h.wr _ _ (bL j hj),fun j hj hh=>cO _ _ (dk j hj hh),fun j v hv hh=>?_⟩
 ·obtain⟨dI,eP⟩:=h.cr _ _ h0 b2;rw[eP];exact h1 eV dI
 have hj:j<old.length:=by
  rcases Nat.lt_or_ge j vs.length with h|h
  ·omega
  ·rw[List.getElem?_eq_none h]at hv;simp at hv
 rw[(h.same _ _ (dk j hj hh)).1];exact jB j v hv hh
theorem yH.move{t:ad}{m:bg}{p:Place}{u:Value}{H gv:ah}(h:g' g w Z s ι w' Z' au bp H)(cO:ah.sub H gv)(hk:yH g w Z s ι t m p u H):yH g w' Z' au bp t m p u gv:=by
 obtain⟨ver,xs,i,b,o,c,G1,G2,h0,h1,h2,h3,a6,bj,bL,dk,jB,kP,rG,ko,yI,yJ⟩:=hk;have cT:∀(G:ah),ah.sub G H→∀y us dB,ah.sub dB G→t.ar w Z m y us dB→t.ar w' Z' m y us dB:=fun G hG y us dB L2 hr=>ad.ar.mono h.dU _ _ (fun _ _ h=>h) (ad.ar.same h.EB _ _ (h.same.mono fun b o aB=>hG b o (L2 b o aB)) hr)
 have hcap:(i+1)*t.size≤c*t.size:=Nat.mul_le_mul_right _ (by omega);have hcell:∀j,j<c*t.size→(j<i*t.size∨(i+1)*t.size≤j)→w'.cell? (at_ b (o+j))=w.cell? (at_ b (o+j)):=fun j hj hh=>(h.same _ _ (dk j hj hh)).1
 refine⟨ver,xs,i,b,o,c,G1,G2,fun aB=>h.nl aB _ (h0 aB),fun eV b2=>?_,h2,h3,a6,bj,fun j hj=>h.A0 _ _ _ (bL j hj),fun j hj hh=>cO _ _ (dk j hj hh),?_,?_,rG,fun b o aB=>cO b o (ko b o aB),fun b o aB=>cO b o (yI b o aB),yJ⟩
 ·obtain⟨dI,eP⟩:=h.cr _ _ h0 b2;rw[eP];exact h1 eV dI
 ·refine jB.imp (cT G1 ko) fun j hj=>hcell j ?_ (.inl ?_)
  all_goals
   have:(xs.take i).length=i:=by simp;omega
   rw[this]at hj;rw[Nat.add_one_mul]at hcap;omega
 ·refine kP.imp (cT G2 yI) fun j hj=>?_
  have hle:xs.length*t.size≤c*t.size:=Nat.mul_le_mul_right _ bj;have e1:(xs.drop (i+1)).length=xs.length-(i+1):=by simp
  rw[e1,Nat.sub_mul]at hj;have:=hcell ((i+1)*t.size+j) (by omega) (.inr (by omega));rwa[←Nat.add_assoc]at this
mutual
theorem c7.move{H gv:ah}(h:g' g w Z s ι w' Z' au bp H)(cO:ah.sub H gv):∀(t:ad) (m:bg) {cs:List ba}{vs:List Value},c7 g w Z s ι t m cs vs H→c7 g w' Z' au bp t m cs vs gv
 |.int _,_,_,_,hk=>by simp only[c7]at hk⊢;exact hk
 |.bool,_,_,_,hk=>by simp only[c7]at hk⊢;exact hk
 |.str,_,_,_,hk=>by simp only[c7]at hk⊢;exact hk
 |.raw,_,_,_,hk=>by simp only[c7]at hk⊢;exact hk
 |.sl t,.R,_,_,hk=>by simp only[c7]at hk
 |.sl t,.S _,_,_,hk=>by simp only[c7]at hk
 |.sl t,.O e,_,_,hk=>by
  simp only[c7]at hk⊢;obtain⟨c,v,h1,h2,hk⟩:=hk;refine⟨c,v,h1,h2,?_⟩
  cases c with
  |nil=>exact hk
  |af id sub=>
   cases sub with
   |some=>exact hk
   |none=>
    obtain⟨ver,xs,A,k,c,kL,k1,k2,bn⟩:=hk;refine⟨ver,xs,A,k,c,fun aB=>h.nl aB _ (kL aB),fun eV b2=>?_,k2,?_⟩
    ·obtain⟨dI,eP⟩:=h.cr _ _ kL b2;rw[eP];exact k1 eV dI
    rcases bn with bn|⟨b,o,c2,eb,gY,hJ,ij,pf⟩
    ·exact .inl bn
    ·right;refine⟨b,o,fun eV b2=>?_,eb,gY,hJ,fun j hj=>h.A0 _ _ _ (ij j hj),fun j h1 h2=>cO _ _ (pf j h1 h2)⟩;obtain⟨dI,eP⟩:=h.cr _ _ kL b2;rw[eP];exact c2 eV dI
  |bG u dp cJ xs=>
   obtain⟨p,i,T,ver,ys,b,o,c,av,hi,kL,k1,k2,k3,bn⟩:=hk;refine⟨p,i,T,ver,ys,b,o,c,av,hi,fun aB=>h.nl aB _ (kL aB),fun eV b2=>?_,k2,k3,fun ck bR X y bA c2 eb gY hJ=>?_⟩
   ·obtain⟨dI,eP⟩:=h.cr _ _ kL b2;rw[eP];exact k1 eV dI
   ·have:=bn ck bR X y bA (h.same.trans (c2.mono cO)) eb (fun b o x y=>gY b o x (cO b o y)) hJ;obtain⟨G,g1,g2,g3⟩:=this.row;exact⟨this.spot,this.cap,this.wr,fun j hj=>(this.inF j hj).imp (fun h=>h) (cO _ _),G,g1,g2,fun b o x=>(g3 b o x).imp (fun h=>h) (cO b o)⟩
  |_=>exact hk
 |.st ak,m,_,_,hk=>by simp only[c7]at hk⊢;exact gf.move h cO ak m.parts hk
theorem gf.move{H gv:ah}(h:g' g w Z s ι w' Z' au bp H)(cO:ah.sub H gv):∀(ak:aA) (m:c5) {cs:List ba}{vs:List Value},gf g w Z s ι ak m cs vs H→gf g w' Z' au bp ak m cs vs gv
 |.nil,_,_,_,hk=>by simp only[gf]at hk⊢;exact hk
 |.cons t ak,m,_,_,hk=>by simp only[gf]at hk⊢;obtain⟨c1,fV,v1,v2,H1,H2,h1,h2,h3,h4,a6,bj,bL⟩:=hk;exact⟨c1,fV,v1,v2,H1,H2,h1,h2,c7.move (h.mono bj) (fun _ _ h=>h) t m.af h3,gf.move (h.mono bL) (fun _ _ h=>h) ak m.dK h4,a6,fun b o x=>cO b o (bj b o x),fun b o x=>cO b o (bL b o x)⟩
end
theorem fc.move{H gv:ah}(h:g' g w Z s ι w' Z' au bp H)(cO:ah.sub H gv):∀(ps:List bE) {vs:List a_}{us:List Value},fc g w Z s ι ps vs us H→fc g w' Z' au bp ps vs us gv
 | [],_,_,_=>trivial
 |.mut t m m'::ps,_,_,⟨p,bK,u,aY,H1,H2,h1,h2,h3,h4,a6,bj,bL⟩=>⟨p,bK,u,aY,H1,H2,h1,h2,h3.imp (yG.move (h.mono bj) (fun _ _ h=>h)) (fun hk=>⟨hk.1,hk.2.1,yH.move (h.mono bj) (fun _ _ h=>h) hk.2.2⟩),fc.move (h.mono bL) (fun _ _ h=>h) ps h4,a6,fun b o x=>cO b o (bj b o x),fun b o x=>cO b o (bL b o x)⟩
 |.hI t m::ps,_,_,⟨v,bK,u,aY,cs,H1,H2,h1,h2,h3,pg,h4,a6,bj,bL,dk⟩=>⟨v,bK,u,aY,cs,H1,H2,h1,h2,h3,pg,c7.move (h.mono bL) (fun _ _ h=>h) t m h4,fc.move (h.mono dk) (fun _ _ h=>h) ps a6,bj,fun b o x=>cO b o (bL b o x),fun b o x=>cO b o (dk b o x)⟩
 |.val _ _::ps,_,_,⟨v,bK,u,aY,h1,h2,h3⟩=>⟨v,bK,u,aY,h1,h2,fc.move h cO ps h3⟩
 |.ic _::ps,_,_,⟨v,bK,u,aY,h1,h2,h3⟩=>⟨v,bK,u,aY,h1,h2,fc.move h cO ps h3⟩
 |.ref _::ps,_,_,⟨v,bK,u,aY,h1,h2,h3⟩=>⟨v,bK,u,aY,h1,h2,fc.move h cO ps h3⟩
 |.fn _ _::ps,_,_,⟨v,bK,u,aY,h1,h2,h3⟩=>⟨v,bK,u,aY,h1,h2,fc.move h cO ps h3⟩
theorem fX.held(h:fX s ι Z au Z')(H:ah):g' true w Z s ι w Z' au ι H:=by
 refine⟨fun _ _=>aV.move h.eI,fun _ _=>cz.move h.eI,h.dU,fun id o' hn ho=>⟨?_,rfl⟩,fun _ id hn hl=>hn (h.live hl).1,ch.refl _ _,ch.refl _ _,fun _ _ h=>h,fun _ _ _ h=>h⟩;rcases h.o id with h1|⟨h0,_⟩
 ·rw[←h1,ho]
 ·exact absurd h0 (hn rfl)
def My(w0:World)(F0 Z0:ah)(n:cN)(s:az)(a:Act)(w:World)(ι:Nat→bI)(Z:ah)(R:List Value→ah→Prop)(EC:az→List ba→List Value→ah→Prop)(cs:List ba)(vs:List Value)(cs':List ba)(au:az):Prop:=
 ∃c1 us bK F H,cs=c1++cs'∧vs=us++bK∧Inv w0 F0 Z0 n au a w ι Z∧fX s ι Z au Z∧bO w Z au ι cs' bK∧bM w0 F0 au w ι Z F∧bM w0 F0 au w ι Z H∧ah.apart F H ∧
  R us F∧EC au c1 us H∧∀b o,F b o∨H b o→∃id,(s.o id).live∧(ι id).F b o
theorem ED{R:List Value→ah→Prop}{EC:az→List ba→List Value→ah→Prop}{c:ba}{v:Value}{cs':List ba}{bK:List Value}(h:Inv w0 F0 Z0 n s a w ι Z)(hc:bO w Z s ι cs' bK)
  (fa:R [v] ah.none) (Mz:EC s [c] [v] ah.none):My w0 F0 Z0 n s a w ι Z R EC (c::cs') (v::bK) cs' s:=
 ⟨[c],[v],bK,ah.none,ah.none,rfl,rfl,h,.refl,hc,.none,.none,fun _ _ h=>h.elim,fa,Mz,fun _ _ h=>h.elim (fun h=>h.elim) fun h=>h.elim⟩
mutual
theorem ad.A1:∀(t:ad) (m:bg) (cs:List ba) (s:az) (r:t.D×List ba×az) (vs:List Value),t.fP m cs s=some r→Inv w0 F0 Z0 n s a w ι Z→bO w Z s ι cs vs →
  My w0 F0 Z0 n s a w ι Z (fun us F=>t.ar w Z m r.1 us F) (fun s c us H=>c7 true w Z s ι t m c us H) cs vs r.2.1 r.2.2
 |.int k,m,cs,s,r,vs,hi,h,hc=>by
  match cs,vs,hc with
  | [],_,_=>simp[ad.fP]at hi
  |_::_,[],hc=>exact hc.elim
  |c::cs,v::vs,hc=>
   cases c<;>simp only[ad.fP]at hi<;>try (simp at hi;done)
   rename_i k' x;cases hb:Nat.beq (dD k) (dD k')
   ·rw[hb]at hi;simp at hi
   rw[hb]at hi;obtain rfl:=aX hi;have:=El hb;subst this;have hv:v=.int k x:=hc.1;exact ED h hc.2 (by simp only[ad.ar];rw[hv]) (by simp only[c7];exact⟨rfl,rfl⟩)
 |.bool,m,cs,s,r,vs,hi,h,hc=>by
  match cs,vs,hc with
  | [],_,_=>simp[ad.fP]at hi
  |_::_,[],hc=>exact hc.elim
  |c::cs,v::vs,hc=>
   cases c<;>simp only[ad.fP]at hi<;>try (simp at hi;done)
   obtain rfl:=aX hi;have hv:=hc.1;simp only[cz]at hv;exact ED h hc.2 (by simp only[ad.ar];rw[hv]) (by simp only[c7];exact⟨rfl,rfl⟩)
 |.str,m,cs,s,r,vs,hi,h,hc=>by
  match cs,vs,hc with
  | [],_,_=>simp[ad.fP]at hi
  |_::_,[],hc=>exact hc.elim
  |c::cs,v::vs,hc=>
   cases c<;>simp only[ad.fP]at hi<;>try (simp at hi;done)
   obtain rfl:=aX hi;have hv:=hc.1;obtain⟨kn,hv,hx⟩:=hv;exact ED h hc.2 (by simp only[ad.ar];exact⟨kn,by rw[hv],hx⟩) (by simp only[c7];exact⟨rfl,rfl⟩)
 |.raw,m,cs,s,r,vs,hi,h,hc=>by cases cs<;>cases m<;>simp[ad.fP]at hi
 |.sl t,m,cs,s,r,vs,hi,h,hc=>by
  match cs,vs,hc with
  | [],_,_=>cases m<;>simp[ad.fP]at hi
  |_::_,[],hc=>exact hc.elim
  |c::cs,v::vs,hc=>
   cases m with
   |R=>simp[ad.fP]at hi
   |S=>simp[ad.fP]at hi
   |O e=>
    cases c with
    |nil u=>
     simp only[ad.fP]at hi;obtain⟨x,hx,hi⟩:=bb hi;obtain⟨e1,rfl⟩:=hK hx;subst e1;obtain rfl:=aX hi;have hv:v=.slice none 0 0:=hc.1;refine ED h hc.2 ?_ ?_
     ·simp only[ad.ar];exact⟨none,0,by rw[hv];rfl,.inl (by simp)⟩
     ·simp only[c7];exact⟨_,_,rfl,rfl,hv⟩
    |af id sub=>
     cases sub with
     |some=>simp[ad.fP]at hi
     |none=>
      simp only[ad.fP]at hi
      cases ho:s.o id with
      |row u em ver xs=>
       rw[ho]at hi;simp only at hi;cases hb:bg.beq em e
       ·rw[hb]at hi;simp at hi
       rw[hb]at hi;simp only[cond_true]at hi;have:=bg.eq_of_beq _ _ hb;subst this;obtain⟨x,hx,hi⟩:=bb hi;obtain⟨e1,rfl⟩:=hK hx;subst e1;obtain rfl:=aX hi;have cn:(s.o id).live:=by rw[ho];trivial
       have aB:fX s ι Z (s.bV id (.cr (.row u em ver xs))) Z:=by have:=AY (s:=s) (ι :=ι) (Z:=Z) cn;rw[ho]at this;exact this
       have fD:bM w0 F0 (s.bV id (.cr (.row u em ver xs))) w ι Z (ι id).F:=by have:=h.AZ cn;rw[ho]at this;exact this
       have c9:=h.gp id;rw[ho]at c9;obtain⟨_,A,m',k,hv,hh⟩:=hc.1;have hh:=hh u em ver xs (mg ho);have n7:=ym c9 hh;have qj:m'=xs.length:=hh.Uo;subst qj;have na:(s.bV id (.cr (.row u em ver xs))).o id=.cr (.row u em ver xs):=cM _ _ _;simp only[ad.ar,lH]at n7;obtain⟨n2,k',mh,n7⟩:=n7;simp only[List.cons.injEq,Value.slice.injEq,and_true,true_and]at mh;obtain⟨rfl,rfl⟩:=mh;rcases c9 with⟨hx0,agN⟩|⟨⟨b,o,sp⟩,eW,hr⟩
       ·refine⟨[.af id none],[v],vs,ah.none,ah.none,rfl,rfl,h.m9 aB,aB,hc.2.move aB.eI,.none,.none,fun _ _ h=>h.elim,?_,?_,fun _ _ h=>h.elim (fun h=>h.elim) fun h=>h.elim⟩
        ·simp only[ad.ar];have hk0:k=0:=by have:=hh.cap;omega
         exact⟨A,k,by rw[hv],.inl ⟨hx0,hk0⟩⟩
        ·simp only[c7];exact⟨_,_,rfl,rfl,ver,xs,A,k,_,fun _=>by rw[na];exact fun h=>h,fun eV b2=>by rw[na]at b2;exact⟨(cD.cr.inj b2).symm,rfl,hh⟩,hv,.inl ⟨hx0,agN⟩⟩
       ·have hsp:=hr.spot;simp only at hsp;subst hsp;have agO:k*u.size≤(ι id).cap*u.size:=Nat.mul_le_mul_right _ (by have:=hh.cap;simp only[eH]at this;omega)
        let T:ah:=ah.run b (o+k*u.size) ((ι id).cap*u.size-k*u.size)
        refine⟨[.af id none],[v],vs,ah.diff (ι id).F T,fun b o=>(ι id).F b o∧T b o,rfl,rfl,h.m9 aB,aB,hc.2.move aB.eI,fD.sub fun _ _ h=>h.1,fD.sub fun _ _ h=>h.1,fun b o h1 h2=>h1.2 h2.2,?_,?_,?_⟩
        ·simp only[ad.ar];refine⟨A,k,by rw[hv],?_⟩;rcases n7 with n7|⟨⟨b',o',sp⟩,hA,iX⟩
         ·exact .inl n7
         ·rcases hh.at_ with hk0|⟨a1,n_,vI⟩
          ·exact .inl ⟨List.eq_nil_of_length_eq_zero (by have:=hh.le;omega),hk0⟩
          ·right;rw[eW]at n_;obtain rfl:=aX n_;rw[hA]at vI;simp only[eH,Nat.zero_mul,Nat.add_zero,Option.some.injEq,at_,Addr.mk.injEq]at vI;obtain⟨rfl,rfl,rfl⟩:=vI;obtain⟨G,g1,g2,g3⟩:=hr.row;refine⟨_,hA,rfl,iX.cap,iX.wr,fun j hj=>⟨iX.inF j hj,?_⟩,G,g1,fun j hj=>g2 j (by omega),fun b o aB=>⟨g3 b o aB,?_⟩⟩
           ·rintro⟨_,h1,_⟩;simp only at h1;omega
           ·rintro⟨rfl,h1,h2⟩
            have:=g2 (o-o') (by omega);simp only at this;rw[show o' +(o-o')=o by omega]at this;exact this aB
        ·simp only[c7];refine⟨_,_,rfl,rfl,ver,xs,A,k,(ι id).cap,fun _=>by rw[na];exact fun h=>h,fun eV b2=>by rw[na]at b2;exact⟨(cD.cr.inj b2).symm,rfl,hh⟩,hv,.inr ⟨b,o,fun _ _=>eW,hr.cap,by have:=hh.cap;simp only[eH]at this;omega,?_,hr.wr,fun j h1 h2=>⟨hr.inF j h2,rfl,by omega,by omega⟩⟩⟩;rcases hh.at_ with h0|⟨a1,n_,vI⟩
         ·exact .inl h0
         ·rw[eW]at n_;obtain rfl:=aX n_;right;rw[vI];simp[eH,at_]
        ·rintro b o (hf|hf)
         ·exact⟨id,cn,hf.1⟩
         ·exact⟨id,cn,hf.1⟩
      |_=>rw[ho]at hi;simp at hi
    |bG u dp cJ xs=>
     simp only[ad.fP]at hi;obtain⟨EE,iZ,hi⟩:=bb hi;obtain rfl:=aX hi
     cases cJ with
     |none=>simp[vm]at iZ
     |some p=>
      simp only[vm]at iZ
      cases fl:p.fO with
      |none=>rw[fl]at iZ;simp at iZ
      |some i=>
       rw[fl]at iZ
       cases ho:s.o p.id with
       |row T em ver ys=>
        rw[ho]at iZ;simp only at iZ;cases hb:(alive s dp&&bg.beq em T.own&&bg.beq e t.own)
        ·rw[hb]at iZ;simp at iZ
        rw[hb]at iZ;simp only[cond_true]at iZ;simp only[Bool.and_eq_true]at hb;obtain rfl:=bg.eq_of_beq _ _ hb.1.2;obtain rfl:=bg.eq_of_beq _ _ hb.2;obtain⟨x,hx,iZ⟩:=bb iZ;obtain rfl:=aX iZ;obtain⟨_,_,_,lP⟩:=hc.1;obtain⟨_,lP⟩:=lP _ rfl;obtain⟨cV,ed,⟨_,gx⟩,hcell,hin⟩:=lP hb.1.1;simp only[ho,cD.core]at gx;obtain⟨er,hii,lQ,a0,eW,n5⟩:=gx;rw[fl]at hii;obtain rfl:=aX hii;have cn:(s.o p.id).live:=by rw[ho];trivial
        have aB:fX s ι Z (s.bV p.id (.cr (.row T T.own ver ys))) Z:=by have:=AY (s:=s) (ι :=ι) (Z:=Z) cn;rw[ho]at this;exact this
        have fD:bM w0 F0 (s.bV p.id (.cr (.row T T.own ver ys))) w ι Z (ι p.id).F:=by have:=h.AZ cn;rw[ho]at this;exact this
        have c9:=h.gp p.id;rw[ho]at c9;rcases c9 with⟨hx0,_⟩|⟨a1,hb1,hr⟩
        ·rw[hx0]at lQ;simp at lQ
        rw[eW]at hb1;obtain rfl:=aX hb1;obtain⟨ab,ao,sp⟩:=a0;have hsp:=hr.spot;simp only at hsp;subst hsp;obtain⟨e9,H1,dI,eP,o9,qe⟩:=hr.lens lQ hx;rw[←n5]at dI;have MA:e9=v:=by rw[hcell]at dI;exact(aX dI).symm
        subst MA;have na:(s.bV p.id (.cr (.row T T.own ver ys))).o p.id=.cr (.row T T.own ver ys):=cM _ _ _;refine⟨[.bG u dp (some p) xs],[e9],vs,H1,ah.diff (ι p.id).F H1,rfl,rfl,h.m9 aB,aB,hc.2.move aB.eI,fD.sub o9,fD.sub fun _ _ h=>h.1,fun b o h1 h2=>h2.2 h1,eP,?_,?_⟩
        ·simp only[c7];exact⟨_,_,rfl,rfl,p,i,T,ver,ys,ab,ao,(ι p.id).cap,rfl,fl,fun _=>by rw[na];exact fun h=>h,fun eV b2=>by rw[na]at b2;exact⟨(cD.cr.inj b2).symm,eW,rfl⟩,lQ,rfl,qe⟩
        ·rintro b o (hf|hf)
         ·exact⟨p.id,cn,o9 b o hf⟩
         ·exact⟨p.id,cn,hf.1⟩
       |_=>rw[ho]at iZ;simp at iZ
    |_=>simp[ad.fP]at hi
 |.st ak,m,cs,s,r,vs,hi,h,hc=>by simp only[ad.fP]at hi;have:=aA.A1 ak m.parts cs s r vs hi h hc;simpa only[ad.ar,c7]using this
theorem aA.A1:∀(ak:aA) (m:c5) (cs:List ba) (s:az) (r:ak.D×List ba×az) (vs:List Value),ak.fP m cs s=some r→Inv w0 F0 Z0 n s a w ι Z→bO w Z s ι cs vs →
  My w0 F0 Z0 n s a w ι Z (fun us F=>ak.ar w Z m r.1 us F) (fun s c us H=>gf true w Z s ι ak m c us H) cs vs r.2.1 r.2.2
 |.nil,m,cs,s,r,vs,hi,h,hc=>by simp only[aA.fP]at hi;obtain rfl:=aX hi;exact⟨[],[],vs,ah.none,ah.none,rfl,rfl,h,.refl,hc,.none,.none,fun _ _ h=>h.elim,by simp only[aA.ar],by simp[gf],fun _ _ h=>h.elim (fun h=>h.elim) fun h=>h.elim⟩
 |.cons t ak,m,cs,s,r,vs,hi,h,hc=>by
  simp only[aA.fP]at hi;obtain⟨bF,h1,hi⟩:=bb hi;obtain⟨cq,h2,hi⟩:=bb hi;obtain rfl:=aX hi;obtain⟨c1,us1,vs1,F1,H1,e1,e2,i1,g1,c2,f1,A2,a1,eD,k1,dI⟩:=ad.A1 t m.af cs s bF vs h1 h hc;obtain⟨fV,us2,vs2,ec,H2,d1,d2,i2,g2,eb,f2,agP,a2,fb,k2,eP⟩:=aA.A1 ak m.dK bF.2.1 bF.2.2 cq vs1 h2 i1 c2;have hap:∀{X:ah},bM w0 F0 bF.2.2 w ι Z X→∀b o,X b o→(ec b o∨H2 b o)→False:=by intro X hX b o hx hh;obtain⟨id,hl,hf⟩:=eP b o hh;exact hX.apart id hl b o hx hf
  refine⟨c1++fV,us1++us2,vs2,F1.or ec,H1.or H2,by rw[e1,d1,List.append_assoc],by rw[e2,d2,List.append_assoc],i2,g1.trans g2,eb,(f1.vH g2).or f2,(A2.vH g2).or agP,?_,?_,?_,?_⟩
  ·rintro b o (hf|hf) (hh|hh)
   ·exact a1 b o hf hh
   ·exact hap f1 b o hf (.inr hh)
   ·exact hap A2 b o hh (.inl hf)
   ·exact a2 b o hf hh
  ·simp only[aA.ar];exact⟨us1,us2,F1,ec,rfl,eD,fb,fun b o h1 h2=>hap f1 b o h1 (.inl h2),fun _ _ h=>.inl h,fun _ _ h=>.inr h⟩
  ·simp only[gf];exact⟨c1,fV,us1,us2,H1,H2,rfl,rfl,c7.move (g2.held H1) (fun _ _ h=>h) t m.af k1,k2,fun b o h1 h2=>hap A2 b o h1 (.inr h2),fun _ _ h=>.inl h,fun _ _ h=>.inr h⟩
  ·rintro b o ((hf|hf)|(hf|hf))
   ·exact dI b o (.inl hf)
   ·obtain⟨id,hl,rH⟩:=eP b o (.inl hf);exact⟨id,(g1.live hl).1,rH⟩
   ·exact dI b o (.inr hf)
   ·obtain⟨id,hl,rH⟩:=eP b o (.inr hf);exact⟨id,(g1.live hl).1,rH⟩
end
end
end Go.LM
namespace Go.LM
section
variable{P:Program}{Q:Exit→Act→World→Prop}
variable{w0:World}{F0 Z0:ah}{n:cN}{s au:az}{a b8:Act}{w w':World}{ι bp:Nat→bI}{Z Z':ah}
theorem EF{t:ad}{x:a_}{v:Value}(hf:o1 t x=true)(hv:aV w Z s ι x v):v=dW t v.cells.toList:=by
 cases t<;>cases x<;>simp only[o1]at hf<;>try (simp at hf;done)
 all_goals simp only[aV]at hv
 all_goals first
  |(rw[L7 hv.eC];rfl)
  |(subst hv;rfl)
  |(obtain⟨vs,rfl,_⟩:=hv;simp[dW,Value.cells])
theorem Vw(h:Inv w0 F0 Z0 n s a w ι Z){k:Nat}{p:Place}{cs:List ba}{A:Addr}(hr:mX s k p=some cs)(av:j2 s ι p A):
  ∃b o vs,A=at_ b o∧bO w Z s ι cs vs∧cf w b o vs∧vs.length=k∧(s.o p.id).live∧∀j,j<k→(ι p.id).F b (o+j):=by
 obtain⟨b,o,vs,rfl,h1,h2,h3⟩:=AN h hr av;refine⟨b,o,vs,rfl,h1,h2,h3,?_⟩;obtain⟨hs,av⟩:=av;unfold mX at hr
 cases ho:s.o p.id with
 |var ver old=>rw[ho]at hr av;obtain⟨he,a0,hb,hA⟩:=av;rw[he]at hr;obtain⟨hle,rfl⟩:=qc hr;have c9:=h.gp p.id;rw[ho]at c9;obtain⟨yn,bK,dV,hsp,hc,cE,hF⟩:=c9;rw[hb]at dV;obtain rfl:=aX dV;simp only[at_,Addr.mk.injEq,and_true]at hA;obtain⟨rfl,rfl⟩:=hA;refine⟨trivial,fun j hj=>?_⟩;have:=(hF (p.off+j) (by omega)).2;rwa[←Nat.add_assoc]at this
 |row t em ver xs=>
  rw[ho]at hr av;obtain⟨i,he,hi,a0,hb,hA⟩:=av;rw[he]at hr;obtain⟨hle,rfl⟩:=qc hr;have c9:=h.gp p.id;rw[ho]at c9;obtain⟨yn,bK,dV,hsp,hc,cE,hl⟩:=Ut h ho hi;rcases c9 with⟨rfl,_⟩|⟨a1,hb1,hrow⟩
  ·simp at hi
  rw[hb]at hb1;obtain rfl:=aX hb1;simp only[at_,Addr.mk.injEq,and_true]at hA;obtain⟨rfl,rfl⟩:=hA;refine⟨trivial,fun j hj=>?_⟩;have hcl:=hc.len;have L0:(i+1)*t.size≤(ι p.id).cap*t.size:=Nat.mul_le_mul_right _ (by have:=hrow.cap;omega);rw[Nat.add_one_mul]at L0;have:=hrow.inF (i*t.size+p.off+j) (by omega);rwa[show a0.off +(i*t.size+p.off+j)=a0.off+i*t.size+p.off+j by omega]at this
 |none=>rw[ho]at hr;simp at hr
 |dead=>rw[ho]at hr;simp at hr
 |cr=>rw[ho]at hr;simp at hr
def EG(w0:World)(F0 Z0:ah)(n:cN)(s:az)(a:Act)(w:World)(ι:Nat→bI)(Z:ah)(key:Nat)(bu:List (Nat×Nat))(ps:List bE)(vs:List a_)(us:List Value)(q:(bE.ins ps).D×az×List (Nat×Nat)):Prop:=
 ∃F H cI,Inv w0 F0 Z0 n q.2.1 a w ι cI∧fX s ι Z q.2.1 cI∧gP w (cI.or (dz ι q.2.2)) key ps q.1 us F∧fc true w cI q.2.1 ι ps vs us H∧bM w0 F0 q.2.1 w ι cI F∧bM w0 F0 q.2.1 w ι cI H∧ah.apart F H ∧
  (∃nb,q.2.2=nb++bu)∧(∀d,d∈q.2.2→eO q.2.1 d)∧∀b o,F b o∨H b o→∃id,(s.o id).live∧(ι id).F b o
theorem MB(h:fX s ι Z au Z'){d:Nat×Nat}(af:eO s d):eO au d:=(h.eI (w:=default)).turns.dep af
theorem yK{key:Nat}{sp:bE}{ps:List bE}{v:a_}{vs:List a_}{u:Value}{us:List Value}{bu MC nb:List (Nat×Nat)}{s1:az}{cI F1 H1:ah}{q:(bE.ins ps).D×az×List (Nat×Nat)}{x:(bE.ins (sp::ps)).D}
  (g1:fX s ι Z s1 cI) (f1:bM w0 F0 s1 w ι cI F1) (h1:bM w0 F0 s1 w ι cI H1) (a1:ah.apart F1 H1) (src:∀b o,F1 b o∨H1 b o→∃id,(s.o id).live∧(ι id).F b o) (nc:MC=nb++bu)
  (hr:EG w0 F0 Z0 n s1 a w ι cI key MC ps vs us q)
  (hA:∀(bR ec:ah),ah.sub (cI.or (dz ι MC)) bR→gP w bR key ps q.1 us ec→ah.apart F1 ec→gP w bR key (sp::ps) x (u::us) (F1.or ec))
  (Mz:∀(s2:az) (bR H2:ah),fX s1 ι cI s2 bR→fc true w bR s2 ι ps vs us H2→ah.apart H1 H2→fc true w bR s2 ι (sp::ps) (v::vs) (u::us) (H1.or H2)):
  EG w0 F0 Z0 n s a w ι Z key bu (sp::ps) (v::vs) (u::us) (x,q.2):=by
 obtain⟨ec,H2,bR,i2,g2,cq,k2,f2,h2,a2,⟨LY,kH⟩,d2,s2⟩:=hr;have hap:∀{X:ah},bM w0 F0 s1 w ι cI X→∀b o,X b o→(ec b o∨H2 b o)→False:=by intro X hX b o hx hh;obtain⟨id,hl,hf⟩:=s2 b o hh;exact hX.apart id hl b o hx hf
 refine⟨F1.or ec,H1.or H2,bR,i2,g1.trans g2,hA _ _ ?_ cq (fun b o h1 h2=>hap f1 b o h1 (.inl h2)),Mz _ _ _ g2 k2 (fun b o x y=>hap h1 b o x (.inr y)),(f1.vH g2).or f2,(h1.vH g2).or h2,?_,⟨LY++nb,by show q.2.2=_;rw[kH,nc,List.append_assoc]⟩,d2,?_⟩
 ·rintro b o (hz|hz)
  ·exact .inl (g2.dU b o hz)
  ·show bR b o∨dz ι q.2.2 b o;rw[kH];exact .inr (LU _ _ _ b o hz)
 ·rintro b o (hf|hf) (hh|hh)
  ·exact a1 b o hf hh
  ·exact hap f1 b o hf (.inr hh)
  ·exact hap h1 b o hh (.inl hf)
  ·exact a2 b o hf hh
 ·rintro b o ((hf|hf)|(hf|hf))
  ·exact src b o (.inl hf)
  ·obtain⟨id,hl,rH⟩:=s2 b o (.inl hf);exact⟨id,(g1.live hl).1,rH⟩
  ·exact src b o (.inr hf)
  ·obtain⟨id,hl,rH⟩:=s2 b o (.inr hf);exact⟨id,(g1.live hl).1,rH⟩
theorem MD{sp:bE}{ps:List bE}{v:a_}{vs:List a_}{u:Value}{us:List Value}{H gv:ah}(hsp:(∃t m,sp=.val t m)∨(∃t,sp=.ref t)∨(∃a b,sp=.fn a b)∨∃t,sp=.ic t)(cO:ah.sub H gv)
  (h:fc true w Z s ι ps vs us H) (hz:g' true w Z s ι w Z s ι H):fc true w Z s ι (sp::ps) (v::vs) (u::us) gv:=by
 have:=fc.move hz cO ps h;rcases hsp with⟨t,m,rfl⟩|⟨t,rfl⟩|⟨a,b,rfl⟩|⟨t,rfl⟩<;>exact⟨v,vs,u,us,rfl,rfl,this⟩
theorem ME:∀{x:List a_}{us:List Value},a8 w Z s ι x us→us.length=x.length
 | [],_,h=>by simp only[a8]at h;rw[h];rfl
 |_::_,_,h=>by simp only[a8]at h;obtain⟨u,aY,rfl,_,h2⟩:=h;simp[ME h2]
theorem rI{key:Nat}:∀(ps:List bE) (vs:List a_) (us:List Value) (s:az) (Z:ah) (bu:List (Nat×Nat)) (q:(bE.ins ps).D×az×List (Nat×Nat)),gB key s ps vs bu=some q→Inv w0 F0 Z0 n s a w ι Z →
  a8 w Z s ι vs us→(∀d,d∈bu→eO s d)→EG w0 F0 Z0 n s a w ι Z key bu ps vs us q
 | [],vs,us,s,Z,bu,q,hm,h,hv,hb=>by
  cases vs with
  |cons=>simp[gB]at hm
  |nil=>simp only[gB,Option.some.injEq]at hm;subst hm;simp only[a8]at hv;exact⟨ah.none,ah.none,Z,h,.refl,hv,trivial,.none,.none,fun _ _ h=>h.elim,⟨[],rfl⟩,hb,fun _ _ h=>h.elim (fun h=>h.elim) fun h=>h.elim⟩
 |.fn mW p7::ps,vs,us,s,Z,bu,q,hm,h,hv,hb=>by
  cases vs with
  |nil=>simp[gB]at hm
  |cons v vs=>
   cases v<;>simp only[gB]at hm<;>try (simp at hm;done)
   rename_i g agQ Mt;cases aB:(Nat.beq g key&&Nat.beq agQ.length mW&&Nat.beq Mt.length p7)
   ·rw[aB]at hm;cases hm
   rw[aB]at hm;simp only[Bool.and_eq_true]at aB;obtain⟨⟨aB,Vx⟩,EH⟩:=aB;have aB:=Nat.eq_of_beq_eq_true aB;have Vx:=Nat.eq_of_beq_eq_true Vx;have EH:=Nat.eq_of_beq_eq_true EH;subst aB;simp only[a8,aV]at hv;obtain⟨u,aY,rfl,⟨x,y,hx,agR,U8⟩,gr⟩:=hv;have auI:=ME agR;have auJ:=ME U8;obtain⟨F,H,cI,i1,g1,bF,k1,f1,h1,a1,fw,d1,s1⟩:=rI ps vs aY s Z bu q hm h gr hb;exact⟨F,H,cI,i1,g1,⟨_,_,aY,by rw[hx],⟨by simp;omega,by simp;omega⟩,bF⟩,⟨_,_,_,_,rfl,rfl,k1⟩,f1,h1,a1,fw,d1,s1⟩
 |.val t m::ps,vs,us,s,Z,bu,q,hm,h,hv,hb=>by
  cases vs with
  |nil=>simp[gB]at hm
  |cons v vs=>
   simp only[gB]at hm;cases hf:o1 t v
   ·rw[hf]at hm;simp at hm
   rw[hf]at hm;simp only[cond_true]at hm
   cases hcs:jo t v with
   |none=>rw[hcs]at hm;simp at hm
   |some cs=>
    rw[hcs]at hm;simp only at hm;obtain⟨r,hr,hm⟩:=bb hm
    cases eJ:r.2.1 with
    |cons=>rw[eJ]at hm;simp at hm
    |nil=>
     rw[eJ]at hm;simp only at hm;obtain⟨p,av,hm⟩:=bb hm;obtain rfl:=aX hm;simp only[a8]at hv;obtain⟨u,aY,rfl,hu,gr⟩:=hv;obtain⟨us1,vs1,F1,cI,e1,i1,s1,c1,f1,bF,⟨nb,fw⟩,_,d1,g1⟩:=ad.mi t true m cs s bu r _ Z hr h (tt hcs hu) hb;rw[eJ]at c1;have hvs1:vs1=[]:=by cases vs1 with|nil=>rfl|cons=>exact c1.elim
     subst hvs1;rw[List.append_nil]at e1;have hw:=EF hf hu;rw[e1]at hw;have ob:=rI ps vs aY r.2.2.1 cI r.2.2.2 p av i1 (a8.move s1.eI gr) d1;refine yK s1.m9 f1 .none (fun _ _ _ h=>h) (fun b o hf=>hf.elim (g1 b o) fun h=>h.elim) fw ob ?_ ?_
     ·intro bR ec hZ hA hap;exact⟨us1,aY,F1,ec,by rw[←hw],ad.ar.mono hZ _ _ (fun _ _ h=>h) bF,hA,hap,fun _ _ h=>.inl h,fun _ _ h=>.inr h⟩
     ·intro s2 bR H2 aB hk lR;exact MD (.inl ⟨_,_,rfl⟩) (fun _ _ h=>.inr h) hk (fX.refl.held H2)
 |.ic t::ps,vs,us,s,Z,bu,q,hm,h,hv,hb=>by
  cases vs with
  |nil=>simp[gB]at hm
  |cons v vs=>
   simp only[gB]at hm;cases hf:o1 t v
   ·rw[hf]at hm;simp at hm
   rw[hf]at hm;simp only[cond_true]at hm
   cases hcs:jo t v with
   |none=>rw[hcs]at hm;simp at hm
   |some cs=>
    rw[hcs]at hm;simp only at hm;obtain⟨r,hr,hm⟩:=bb hm
    cases eJ:r.2.1 with
    |cons=>rw[eJ]at hm;simp at hm
    |nil=>
     rw[eJ]at hm;simp only at hm;obtain⟨p,av,hm⟩:=bb hm;obtain rfl:=aX hm;simp only[a8]at hv;obtain⟨u,aY,rfl,hu,gr⟩:=hv;obtain⟨us1,vs1,F1,cI,e1,i1,s1,c1,f1,bF,⟨nb,fw⟩,_,d1,g1⟩:=ad.mi t false .R cs s bu r _ Z hr h (tt hcs hu) hb;rw[eJ]at c1;have hvs1:vs1=[]:=by cases vs1 with|nil=>rfl|cons=>exact c1.elim
     subst hvs1;rw[List.append_nil]at e1;have hw:=EF hf hu;rw[e1]at hw;have ob:=rI ps vs aY r.2.2.1 cI r.2.2.2 p av i1 (a8.move s1.eI gr) d1;refine yK s1.m9 f1 .none (fun _ _ _ h=>h) (fun b o hf=>hf.elim (g1 b o) fun h=>h.elim) fw ob ?_ ?_
     ·intro bR ec hZ hA hap;exact⟨us1,aY,F1,ec,by rw[←hw],ad.ar.mono hZ _ _ (fun _ _ h=>h) bF,hA,hap,fun _ _ h=>.inl h,fun _ _ h=>.inr h⟩
     ·intro s2 bR H2 aB hk lR;exact MD (.inr (.inr (.inr ⟨_,rfl⟩))) (fun _ _ h=>.inr h) hk (fX.refl.held H2)
 |.hI t m::ps,vs,us,s,Z,bu,q,hm,h,hv,hb=>by
  cases vs with
  |nil=>simp[gB]at hm
  |cons v vs=>
   simp only[gB]at hm;cases hf:(o1 t v&&bg.beq m t.own)
   ·rw[hf]at hm;simp at hm
   rw[hf]at hm;simp only[cond_true]at hm;simp only[Bool.and_eq_true]at hf;obtain⟨hf,pg⟩:=hf;have pg:=bg.eq_of_beq _ _ pg
   cases hcs:jo t v with
   |none=>rw[hcs]at hm;simp at hm
   |some cs=>
    rw[hcs]at hm;simp only at hm;obtain⟨r,hr,hm⟩:=bb hm
    cases eJ:r.2.1 with
    |cons=>rw[eJ]at hm;simp at hm
    |nil=>
     rw[eJ]at hm;simp only at hm;obtain⟨p,av,hm⟩:=bb hm;obtain rfl:=aX hm;simp only[a8]at hv;obtain⟨u,aY,rfl,hu,gr⟩:=hv;obtain⟨c1,us1,vs1,F1,H1,e0,e1,i1,g1,c2,f1,A2,a1,bF,k1,dI⟩:=ad.A1 t m cs s r _ hr h (tt hcs hu);rw[eJ]at c2 e0;have hvs1:vs1=[]:=by cases vs1 with|nil=>rfl|cons=>exact c2.elim
     subst hvs1;rw[List.append_nil]at e1 e0;subst e0;have hw:=EF hf hu;have ob:=rI ps vs aY r.2.2 Z bu p av i1 (a8.move g1.eI gr) (fun d af=>MB g1 (hb d af));refine yK (nb:=[]) g1 f1 A2 a1 dI rfl ob ?_ ?_
     ·intro bR ec hZ hA hap;exact⟨us1,aY,F1,ec,by rw[←e1,←hw],ad.ar.mono (fun b o hz=>hZ b o (.inl hz)) _ _ (fun _ _ h=>h) bF,hA,hap,fun _ _ h=>.inl h,fun _ _ h=>.inr h⟩
     ·intro s2 bR H2 aB hk lR;refine⟨v,vs,u,aY,cs,H1,H2,rfl,rfl,hcs,pg,?_,hk,lR,fun _ _ h=>.inl h,fun _ _ h=>.inr h⟩;rw[e1];exact c7.move (aB.held H1) (fun _ _ h=>h) t m k1
 |.ref t::ps,vs,us,s,Z,bu,q,hm,h,hv,hb=>by
  cases vs with
  |nil=>simp[gB]at hm
  |cons v vs=>
   simp only[a8]at hv;obtain⟨u,aY,rfl,hu,gr⟩:=hv
   have go:∀(cs:List ba) (nY:List (Nat×Nat)) (b o:Nat) (ws:List Value),bO w Z s ι cs ws→cf w b o ws→ws.length=t.size→u=.pointer (some (at_ b o))→(∃nb,nY=nb++bu)→(∀d,d∈nY→eO s d) →
     (∀j,j<t.size→Z.or (dz ι nY) b (o+j)) →
     ((t.imp true .R cs s nY).bind fun r=>match r.2.1 with| []=>(gB key r.2.2.1 ps vs r.2.2.2).bind fun q=>some ((r.1,q.1),q.2)|_=>none)=some q→EG w0 F0 Z0 n s a w ι Z key bu (.ref t::ps) (v::vs) (u::aY) q:=by
    intro cs nY b o ws qg cE vy j3 ⟨agS,agT⟩ agU hin hm;obtain⟨r,hr,hm⟩:=bb hm
    cases eJ:r.2.1 with
    |cons=>rw[eJ]at hm;simp at hm
    |nil=>
     rw[eJ]at hm;simp only at hm;obtain⟨p,av,hm⟩:=bb hm;obtain rfl:=aX hm;obtain⟨us1,vs1,F1,cI,e1,i1,s1,c1,f1,bF,⟨nb,fw⟩,_,d1,g1⟩:=ad.mi t true .R cs s nY r _ Z hr h qg agU;rw[eJ]at c1;have hvs1:vs1=[]:=by cases vs1 with|nil=>rfl|cons=>exact c1.elim
     subst hvs1;rw[List.append_nil]at e1;subst e1;have ob:=rI ps vs aY r.2.2.1 cI r.2.2.2 p av i1 (a8.move s1.eI gr) d1;refine yK (nb:=nb++agS) s1.m9 .none .none (fun _ _ h=>h.elim) (fun b o hf=>hf.elim (fun h=>h.elim) fun h=>h.elim) (by rw[fw,agT,List.append_assoc]) ob ?_ ?_
     ·intro bR ec hZ hA hap;refine⟨b,o,ws,aY,by rw[j3],cE,ad.ar.mono hZ _ _ (fun _ _ h=>h) (tj bF),fun j hj=>hZ _ _ ?_,gP.mono (fun _ _ h=>h) ps (fun _ _ h=>.inr h) hA⟩;rcases hin j hj with hz|hz
      ·exact .inl (s1.dU _ _ hz)
      ·rw[fw];exact .inr (LU _ _ _ _ _ hz)
     ·intro s2 bR H2 aB hk lR;exact MD (.inr (.inl ⟨_,rfl⟩)) (fun _ _ h=>.inr h) hk (fX.refl.held H2)
   cases v<;>simp only[gB]at hm<;>try (simp at hm;done)
   ·rename_i p
    cases hr:mX s t.size p with
    |none=>rw[hr]at hm;simp at hm
    |some cs=>
     rw[hr]at hm;simp only[aV]at hu;obtain⟨hk,A,hu,av⟩:=hu;obtain⟨b,o,ws,rfl,h1,h2,h3,h4,a6⟩:=Vw h hr av;refine go cs ((p.id,lf s p.id)::bu) b o ws h1 h2 h3 hu ⟨[_],rfl⟩ ?_ (fun j hj=>.inr ⟨_,List.mem_cons_self,a6 j hj⟩) hm;intro d af;rcases List.mem_cons.1 af with rfl|af
     ·exact⟨hk,.inr (Nat.le_refl _)⟩
     ·exact hb d af
   ·rename_i dp cs off
    cases ht:takeN off t.size cs with
    |none=>rw[ht]at hm;simp at hm
    |some ds=>
     rw[ht]at hm;simp only at hm;cases dN:alive s dp
     ·rw[dN]at hm;simp at hm
     rw[dN]at hm;simp only[cond_true]at hm;obtain⟨hle,rfl⟩:=qc ht;simp only[aV]at hu;obtain⟨af,b,o,ws,hu,hx⟩:=hu;obtain⟨h1,h2,h3⟩:=hx dN;have hl:=h1.len;refine go _ (dp++bu) b (o+off) ((ws.drop off).take t.size) ((h1.drop off).take _) (h2.part off _) (by simp;omega) hu ⟨dp,rfl⟩ ?_ ?_ hm
     ·intro d iH;rcases List.mem_append.1 iH with h|h
      ·exact af d h
      ·exact hb d h
     ·intro j hj;have:=h3 (off+j) (by omega);rw[←Nat.add_assoc]at this;rcases this with hz|⟨d,af,hf⟩
      ·exact .inl hz
      ·exact .inr ⟨d,List.mem_append.2 (.inl af),hf⟩
 |.mut t m m'::ps,vs,us,s,Z,bu,q,hm,h,hv,hb=>by
  cases vs with
  |nil=>simp[gB]at hm
  |cons v vs=>
   simp only[a8]at hv;obtain⟨u,aY,rfl,hu,gr⟩:=hv;cases v<;>simp only[gB]at hm<;>try (simp at hm;done)
   rename_i p;simp only[aV]at hu;obtain⟨hk,A,hu,av⟩:=hu;obtain⟨auK,av⟩:=av
   cases ho:s.o p.id with
   |none=>rw[ho]at hm;simp at hm
   |dead=>rw[ho]at hm;simp at hm
   |cr=>rw[ho]at hm;simp at hm
   |var ver old=>
    rw[ho]at hm av;obtain⟨he,a0,eW,hA⟩:=av;rw[he]at hm;simp only at hm
    cases ht:takeN p.off t.size old with
    |none=>rw[ht]at hm;simp at hm
    |some cs=>
     rw[ht]at hm;simp only at hm;obtain⟨hle,rfl⟩:=qc ht;obtain⟨r,hr,hm⟩:=bb hm
     cases eJ:r.2.1 with
     |cons=>rw[eJ]at hm;simp at hm
     |nil=>
      rw[eJ]at hm;simp only at hm;obtain⟨MF,hq,hm⟩:=bb hm;obtain rfl:=aX hm;have cn:(s.o p.id).live:=by rw[ho];trivial
      have aB:fX s ι Z (s.bV p.id (.cr (.var ver old))) Z:=by have:=AY (s:=s) (ι :=ι) (Z:=Z) cn;rw[ho]at this;exact this
      have fD:bM w0 F0 (s.bV p.id (.cr (.var ver old))) w ι Z (ι p.id).F:=by have:=h.AZ cn;rw[ho]at this;exact this
      have c9:=h.gp p.id;rw[ho]at c9;obtain⟨⟨b,o,sp⟩,ws,dV,hsp,hc,cE,hF⟩:=c9;simp only at hsp;subst hsp;rw[eW]at dV;obtain rfl:=aX dV;have hl:=hc.len;have na:(s.bV p.id (.cr (.var ver old))).o p.id=.cr (.var ver old):=cM _ _ _;have Vy:=hc.move aB.eI;obtain⟨us1,vs1,F1,cI,e1,i1,s1,c1,f1,bF,⟨nb,fw⟩,_,d1,g1⟩:=ad.mi t true m _ _ bu r _ Z hr (h.m9 aB) ((Vy.drop p.off).take t.size) (fun d af=>MB aB (hb d af));rw[eJ]at c1;have hvs1:vs1=[]:=by cases vs1 with|nil=>rfl|cons=>exact c1.elim
      subst hvs1;rw[List.append_nil]at e1;have ob:=rI ps vs aY r.2.2.1 cI r.2.2.2 MF hq i1 (a8.move s1.eI (a8.move aB.eI gr)) d1;have AL:=aB.trans s1.m9
      have hrun:ah.sub (ah.run b (o+p.off) t.size) (ι p.id).F:=by
       rintro b' o' ⟨rfl,h1,h2⟩
       have:=(hF (o'-o) (by omega)).2;simp only at this;rwa[show o +(o'-o)=o' by omega]at this
      have Vz:=fD.shrink s1;have VA:ah.apart F1 (ι p.id).F:=by intro b o h1 h2;obtain⟨id,hl,hf⟩:=g1 b o h1;exact fD.apart id hl b o h2 hf
      refine yK (F1:=F1.or (ah.run b (o+p.off) t.size)) (H1:=ah.diff (ι p.id).F (ah.run b (o+p.off) t.size)) AL (f1.or (Vz.sub hrun)) (Vz.sub fun _ _ h=>h.1) ?_ ?_ fw ob ?_ ?_
      ·rintro b o (hf|hf) hh
       ·exact VA b o hf hh.1
       ·exact hh.2 hf
      ·rintro b' o' ((hf|hf)|hh)
       ·obtain⟨id,hl,rH⟩:=g1 b' o' hf;exact⟨id,(aB.live hl).1,rH⟩
       ·exact⟨p.id,cn,hrun b' o' hf⟩
       ·exact⟨p.id,cn,hh.1⟩
      ·intro bR ec hZ qk hap;refine⟨b,o+p.off,us1,aY,F1,ec,by rw[hu,hA],?_,?_,ad.ar.mono hZ _ _ (fun _ _ h=>h) bF,qk,hap,fun b o h1 h2=>VA b o h1 (hrun b o h2),fun _ _ h=>.inl h,fun _ _ h=>.inr h⟩
       ·rw[←e1];exact cE.part p.off t.size
       ·intro j hj;have:=(hF (p.off+j) (by omega)).1;rwa[←Nat.add_assoc]at this
      ·intro s2 bR H2 MG hkk lR;refine⟨p,vs,u,aY,_,H2,rfl,rfl,.inl ?_,hkk,lR,fun _ _ h=>.inl h,fun _ _ h=>.inr h⟩;refine yG.move ((s1.m9.trans MG).held (ah.diff (ι p.id).F (ah.run b (o+p.off) t.size))) (fun _ _ h=>h) ?_;refine⟨ver,old,b,o,ws,fun _=>by rw[na];exact fun h=>h,fun eV b2=>by rw[na]at b2;exact⟨(cD.cr.inj b2).symm,eW⟩,he,by rw[hu,hA],hle,Vy,fun j hj=>(hF j hj).1,fun j hj hh=>⟨(hF j hj).2,?_⟩,fun j v hv hh=>cE j v hv⟩
       rintro⟨_,h1,h2⟩
       omega
   |row hd em ver xs=>
    rw[ho]at hm av;obtain⟨i,he,hi,a0,eW,hA⟩:=av;rw[he]at hm;simp only at hm;cases EI:(Nat.beq p.off 0&&bg.beq em m&&bg.beq m' em&&bg.beq m t.own)
    ·rw[EI]at hm;simp at hm
    rw[EI]at hm;simp only[Bool.and_eq_true]at EI;obtain⟨⟨⟨hc1,hc2⟩,A3⟩,MH⟩:=EI;have MH:=bg.eq_of_beq _ _ MH;have hc1:=Nat.eq_of_beq_eq_true hc1;have hc2:=bg.eq_of_beq _ _ hc2;have A3:=bg.eq_of_beq _ _ A3;subst hc2;subst A3;simp only[cond_true]at hm;obtain⟨x,hx,hm⟩:=bb hm;obtain⟨e1,rfl⟩:=D8 hx;subst e1;obtain⟨MF,hq,hm⟩:=bb hm;obtain rfl:=aX hm;have cn:(s.o p.id).live:=by rw[ho];trivial
    have aB:fX s ι Z (s.bV p.id (.cr (.row hd m' ver xs))) Z:=by have:=AY (s:=s) (ι :=ι) (Z:=Z) cn;rw[ho]at this;exact this
    have fD:bM w0 F0 (s.bV p.id (.cr (.row hd m' ver xs))) w ι Z (ι p.id).F:=by have:=h.AZ cn;rw[ho]at this;exact this
    have c9:=h.gp p.id;rw[ho]at c9;rcases c9 with⟨rfl,_⟩|⟨⟨b,o,sp⟩,dV,hrow⟩
    ·simp at hi
    have hsp:=hrow.spot;simp only at hsp;subst hsp;rw[eW]at dV;obtain rfl:=aX dV;obtain⟨G,g1,g2,g3⟩:=hrow.row;obtain⟨G1,jC,G2,ws,k1,k2,k3,bn,bs,dh,ee,cW,gd,dd,dt⟩:=g1.Ey i hi;have na:(s.bV p.id (.cr (.row hd m' ver xs))).o p.id=.cr (.row hd m' ver xs):=cM _ _ _;have hcap:(i+1)*hd.size≤(ι p.id).cap*hd.size:=Nat.mul_le_mul_right _ (by have:=hrow.cap;omega);rw[Nat.add_one_mul]at hcap
    have hrun:ah.sub (ah.run b (o+i*hd.size) hd.size) (ι p.id).F:=by
     rintro b' o' ⟨rfl,h1,h2⟩
     have:=hrow.inF (o'-o) (by omega);simp only at this;rwa[show o +(o'-o)=o' by omega]at this
    have EJ:∀{X:ah},ah.sub X G→∀j,j<(ι p.id).cap*hd.size→¬X b (o+j):=fun hX j hj hh=>g2 j hj (hX _ _ hh)
    have tE:∀{X:ah},ah.sub X G→ah.apart X (ah.run b (o+i*hd.size) hd.size):=by
     rintro X hX b' o' hx ⟨rfl,h1,h2⟩
     have:=EJ hX (o'-o) (by omega);rw[show o +(o'-o)=o' by omega]at this;exact this hx
    have ob:=rI ps vs aY _ Z bu MF hq (h.m9 aB) (a8.move aB.eI gr) (fun d af=>MB aB (hb d af));have VB:ah.sub (jC.or (ah.run b (o+i*hd.size) hd.size)) (ι p.id).F:=fun b o h=>h.elim (fun h=>g3 b o (dd b o h)) (hrun b o)
    have j3:u=.pointer (some (at_ b (o+i*hd.size))):=by rw[hu,hA,hc1];rfl
    refine yK (nb:=[]) (F1:=jC.or (ah.run b (o+i*hd.size) hd.size)) (H1:=ah.diff (ι p.id).F (jC.or (ah.run b (o+i*hd.size) hd.size))) aB (fD.sub VB) (fD.sub fun _ _ h=>h.1) (fun b o h1 h2=>h2.2 h1) ?_ rfl ob ?_ ?_
    ·rintro b' o' (hf|hf)
     ·exact⟨p.id,cn,VB b' o' hf⟩
     ·exact⟨p.id,cn,hf.1⟩
    ·intro bR ec hZ qk hap;refine⟨b,o+i*hd.size,ws,aY,jC,ec,by rw[j3],bn,fun j hj=>?_,?_,qk,hap,tE dd,fun _ _ h=>.inl h,fun _ _ h=>.inr h⟩
     ·have:=(hrow.wr (i*hd.size+j) (by omega)).1;rwa[←Nat.add_assoc]at this
     ·rw[c3 hi];exact ad.ar.mono (fun b o hz=>hZ b o (.inl hz)) _ _ (fun _ _ h=>h) k2
    ·intro s2 bR H2 MG hkk lR;refine⟨p,vs,u,aY,_,H2,rfl,rfl,.inr ⟨rfl,MH,?_⟩,hkk,lR,fun _ _ h=>.inl h,fun _ _ h=>.inr h⟩;refine yH.move (MG.held (ah.diff (ι p.id).F (jC.or (ah.run b (o+i*hd.size) hd.size)))) (fun _ _ h=>h) ?_;refine⟨ver,xs,i,b,o,_,G1,G2,fun _=>by rw[na];exact fun h=>h,fun eV b2=>by rw[na]at b2;exact⟨(cD.cr.inj b2).symm,eW,rfl⟩,he,hi,j3,hrow.cap,hrow.wr,fun j hj hh=>⟨hrow.inF j hj,?_⟩,k1,bs,ee,fun b o aB=>⟨g3 b o (gd b o aB),?_⟩,fun b o aB=>⟨g3 b o (dt b o aB),?_⟩,fun j hj=>⟨EJ gd j hj,EJ dt j hj⟩⟩
     ·rintro (agV|⟨_,h1,h2⟩)
      ·exact EJ dd j hj agV
      ·rw[Nat.add_one_mul]at hh;omega
     ·rintro (hh|hh)
      ·exact dh b o aB hh
      ·exact tE gd b o aB hh
     ·rintro (hh|hh)
      ·exact cW b o hh aB
      ·exact tE dt b o aB hh
end
end Go.LM
namespace Go.LM
section
variable{P:Program}{Q:Exit→Act→World→Prop}
variable{g:Bool}{w0:World}{F0 Z0:ah}{n:cN}{s au:az}{a b8:Act}{w w' ck:World}{ι bp eU:Nat→bI}{Z Z' bR:ah}
theorem g'.trans{s2:az}{H:ah}(h:g' g w Z s ι w' Z' au bp H)(k:g' g w' Z' au bp ck bR s2 eU H):g' g w Z s ι ck bR s2 eU H:=by
 refine⟨fun x v hx=>k.aG x v (h.aG x v hx),fun c v hc=>k.cell c v (h.cell c v hc),fun b o hz=>k.dU b o (h.dU b o hz),fun id o' hn ho=>?_,fun aB id hn=>k.nl aB id (h.nl aB id hn),h.same.trans k.same,h.EB.trans ?_,fun b o hw=>k.wr b o (h.wr b o hw),fun z b o hw=>k.A0 z b o (h.A0 z b o hw)⟩
 ·obtain⟨h1,h2⟩:=k.cr id o' (fun aB=>h.nl aB id (hn aB)) ho;obtain⟨h3,h4⟩:=h.cr id o' hn h1;exact⟨h3,h2.trans h4⟩
 ·exact k.EB.mono h.dU
theorem Inv.agW(h:Inv w0 F0 Z0 n s a w ι Z){id:Nat}{o:cD}{i:bI}(hnl:¬(s.o id).live)(ht:ju (s.o id) (ι id) o i)
  (cT:e5 w Z s ι w Z (s.bV id o) (bW ι id i)→iG w Z (s.bV id o) (bW ι id i) i o) (hF:bM w0 F0 s w ι Z i.F):
  Inv w0 F0 Z0 n (s.bV id o) a w (bW ι id i) Z∧e5 w Z s ι w Z (s.bV id o) (bW ι id i):=by
 have hm:e5 w Z s ι w Z (s.bV id o) (bW ι id i):=by
  refine⟨fun j=>?_,fun _ _ h=>h,ch.refl _ _⟩;show ju (s.o j) (ι j) (bW s.o id o j) (bW ι id i j);by_cases hj:id=j
  ·subst hj;rw[cM,cM];exact ht
  ·rw[cX hj,cX hj];exact .stay _ _
 refine⟨?_,hm⟩;refine h.next hm (Ext.refl _ ah.none) (fun _ _ h=>h.elim) (fun _ _ h=>.inl h) ?_ ?_ (fun k=>(h.tmps k).move hm) h.size h.defers
 ·intro j hl hne;by_cases hj:id=j
  ·subst hj;rw[cM];refine⟨by show iG _ _ _ _ _ (bW s.o id o id);rw[cM];exact cT hm,hF.own,fun lK gC km=>?_⟩;rw[cX km];have ei:(s.o lK).live:=by have:(bW s.o id _ lK).live:=gC;rwa[cX km]at this
   exact hF.apart lK ei
  ·exact absurd ⟨cX hj,cX hj⟩ hne
 ·intro j hl;by_cases hj:id=j
  ·subst hj;rw[cM];exact hF.db
  ·rw[cX hj];have ei:(s.o j).live:=by have:(bW s.o id _ j).live:=hl;rwa[cX hj]at this
   exact h.db j ei
def ph(w0:World)(F0 Z0:ah)(n:cN)(s:az)(a:Act)(w:World)(ι:Nat→bI)(Z:ah)(au:az)(e6:ah):Prop:=
 ∃ bp,Inv w0 F0 Z0 n au a w bp Z∧g' false w Z s ι w Z au bp (fun _ _=>True)∧(∀X,bM w0 F0 s w ι Z X→ah.apart X e6→bM w0 F0 au w bp Z X)∧∀id,(s.o id).live→au.o id=s.o id∧bp id=ι id
theorem vJ(h:Inv w0 F0 Z0 n s a w ι Z)(e6:ah):ph w0 F0 Z0 n s a w ι Z s e6:=
 ⟨ι,h,⟨fun _ _ h=>h,fun _ _ h=>h,fun _ _ h=>h,fun _ _ _ h=>⟨h,rfl⟩,fun h=>by simp at h,ch.refl _ _,ch.refl _ _,fun _ _ h=>h,fun _ _ _ h=>h⟩,fun _ h _=>h,fun _ _=>⟨rfl,rfl⟩⟩
theorem MI(h:Inv w0 F0 Z0 n s a w ι Z){id:Nat}{o:cD}{i:bI}(hnl:¬(s.o id).live)(ho:∀o',o≠.cr o')(ht:ju (s.o id) (ι id) o i)
  (cT:e5 w Z s ι w Z (s.bV id o) (bW ι id i)→iG w Z (s.bV id o) (bW ι id i) i o) (hF:bM w0 F0 s w ι Z i.F):
  Inv w0 F0 Z0 n (s.bV id o) a w (bW ι id i) Z∧g' false w Z s ι w Z (s.bV id o) (bW ι id i) (fun _ _=>True)∧(∀X,bM w0 F0 s w ι Z X→ah.apart X i.F→bM w0 F0 (s.bV id o) w (bW ι id i) Z X) ∧
  ∀j,(s.o j).live→(s.bV id o).o j=s.o j∧bW ι id i j=ι j:=by
 obtain⟨h1,hm⟩:=h.agW hnl ht cT hF;refine⟨h1,⟨fun _ _=>aV.move hm,fun _ _=>cz.move hm,fun _ _ h=>h,fun j o' _ hj=>?_,fun h=>by simp at h,ch.refl _ _,ch.refl _ _,fun _ _ h=>h,fun _ _ _ h=>h⟩,fun X hX ha=>⟨hX.own,fun j hl=>?_,hX.db⟩,fun j hl=>?_⟩
 ·have hj':bW s.o id o j=.cr o':=hj;by_cases hne:id=j
  ·subst hne;rw[cM]at hj';exact absurd hj' (ho o')
  ·rw[cX hne]at hj';exact⟨hj',cX hne⟩
 ·by_cases hne:id=j
  ·subst hne;rw[cM];exact ha
  ·rw[cX hne];have ei:(s.o j).live:=by have:(bW s.o id _ j).live:=hl;rwa[cX hne]at this
   exact hX.apart j ei
 ·have hne:id≠j:=fun e=>hnl (e▸hl)
  exact⟨cX hne,cX hne⟩
theorem A4(h:Inv w0 F0 Z0 n s a w ι Z){id:Nat}{o:cD}{i:bI}(hnl:¬(s.o id).live)(ho:∀o',o≠.cr o')(ht:ju (s.o id) (ι id) o i)
  (cT:e5 w Z s ι w Z (s.bV id o) (bW ι id i)→iG w Z (s.bV id o) (bW ι id i) i o) (hF:bM w0 F0 s w ι Z i.F):ph w0 F0 Z0 n s a w ι Z (s.bV id o) i.F:=⟨_,MI h hnl ho ht cT hF⟩
mutual
theorem c7.len:∀(t:ad) (m:bg) {cs:List ba}{vs:List Value}{H:ah},c7 g w Z s ι t m cs vs H→vs.length=t.size
 |.int _,_,_,_,_,hk=>by simp only[c7]at hk;rw[hk.2];rfl
 |.bool,_,_,_,_,hk=>by simp only[c7]at hk;rw[hk.2];rfl
 |.str,_,_,_,_,hk=>by simp only[c7]at hk;rw[hk.2];rfl
 |.raw,_,_,_,_,hk=>by simp only[c7]at hk;rw[hk.2];rfl
 |.sl t,.R,_,_,_,hk=>by simp only[c7]at hk
 |.sl t,.S _,_,_,_,hk=>by simp only[c7]at hk
 |.sl t,.O e,_,_,_,hk=>by simp only[c7]at hk;obtain⟨c,v,_,rfl,_⟩:=hk;rfl
 |.st ak,m,_,_,_,hk=>by simp only[c7]at hk;simpa only[ad.size]using gf.len ak m.parts hk
theorem gf.len:∀(ak:aA) (m:c5) {cs:List ba}{vs:List Value}{H:ah},gf g w Z s ι ak m cs vs H→vs.length=ak.size
 |.nil,_,_,_,_,hk=>by simp only[gf]at hk;rw[hk.2];rfl
 |.cons t ak,m,_,_,_,hk=>by simp only[gf]at hk;obtain⟨c1,fV,v1,v2,H1,H2,_,rfl,h1,h2,_⟩:=hk;rw[List.length_append,c7.len t m.af h1,gf.len ak m.dK h2];rfl
end
mutual
theorem ad.A5:∀(t:ad) (m:bg) (x:t.D) (c1 rest:List ba) (s:az) (ι:Nat→bI) (r:List ba×az) (us:List Value) (F H:ah),t.back x (c1++rest) s=some r→Inv w0 F0 Z0 n s a w ι Z →
  c7 false w Z s ι t m c1 us H→t.ar w Z m x us F→bM w0 F0 s w ι Z F→bM w0 F0 s w ι Z H→ah.apart F H→r.1=rest∧ph w0 F0 Z0 n s a w ι Z r.2 (F.or H)
 |.int k,m,x,c1,rest,s,ι,r,us,F,H,hb,h,hk,hr,hF,cO,ha=>by
  simp only[c7]at hk;obtain⟨hk,_⟩:=hk
  match c1,hk with
  | [c],_=>simp only[ad.back,List.cons_append,List.nil_append,Option.some.injEq]at hb;subst hb;exact⟨rfl,vJ h _⟩
 |.bool,m,x,c1,rest,s,ι,r,us,F,H,hb,h,hk,hr,hF,cO,ha=>by
  simp only[c7]at hk;obtain⟨hk,_⟩:=hk
  match c1,hk with
  | [c],_=>simp only[ad.back,List.cons_append,List.nil_append,Option.some.injEq]at hb;subst hb;exact⟨rfl,vJ h _⟩
 |.str,m,x,c1,rest,s,ι,r,us,F,H,hb,h,hk,hr,hF,cO,ha=>by
  simp only[c7]at hk;obtain⟨hk,_⟩:=hk
  match c1,hk with
  | [c],_=>simp only[ad.back,List.cons_append,List.nil_append,Option.some.injEq]at hb;subst hb;exact⟨rfl,vJ h _⟩
 |.raw,m,x,c1,rest,s,ι,r,us,F,H,hb,h,hk,hr,hF,cO,ha=>by
  simp only[c7]at hk;obtain⟨hk,_⟩:=hk
  match c1,hk with
  | [c],_=>simp only[ad.back,List.cons_append,List.nil_append,Option.some.injEq]at hb;subst hb;exact⟨rfl,vJ h _⟩
 |.sl t,.R,x,c1,rest,s,ι,r,us,F,H,hb,h,hk,hr,hF,cO,ha=>by simp only[c7]at hk
 |.sl t,.S _,x,c1,rest,s,ι,r,us,F,H,hb,h,hk,hr,hF,cO,ha=>by simp only[c7]at hk
 |.sl t,.O e,x,c1,rest,s,ι,r,us,F,H,hb,h,hk,hr,hF,cO,ha=>by
  simp only[c7]at hk;obtain⟨c,v,rfl,rfl,hk⟩:=hk
  cases c with
  |nil u=>simp only[ad.back,List.cons_append,List.nil_append,Option.some.injEq]at hb;subst hb;exact⟨rfl,vJ h _⟩
  |af id sub=>
   cases sub with
   |some=>exact hk.elim
   |none=>
    simp only at hk;obtain⟨ver,xs,A,k,tC,_,hl,hv,hk⟩:=hk;simp only[ad.back,List.cons_append,List.nil_append]at hb
    cases ho:s.o id with
    |cr eV=>
     rw[ho]at hb;obtain⟨rfl,hcap,hh⟩:=hl eV ho;simp only at hb;obtain⟨y,aR,hb2⟩:=bb hb;obtain⟨e1,vK⟩:=hK aR;have vK:x=y:=vK.symm;subst vK;obtain rfl:=aX hb2;refine⟨rfl,?_⟩;simp only[ad.ar]at hr;obtain⟨n2,k',mh,hr⟩:=hr;rw[hv]at mh;simp only[List.cons.injEq,Value.slice.injEq,and_true]at mh;obtain⟨rfl,hlen,rfl⟩:=mh;have mv:=A4 h (id:=id) (o:=.row t e (ver+1) x) (i:=⟨(ι id).base,(ι id).cap,F.or H⟩) (by rw[ho];exact fun h=>h) (fun o'=>by simp) (by rw[ho];exact .tm _ _ _ _ _ _ _ _ _ (by omega) hlen.symm rfl rfl) ?_ (hF.or cO)
     ·exact mv
     intro hm;rcases hk with⟨rfl,ql⟩|⟨b,o,eW,MJ,agO,hA,hwr,ik⟩
     ·left;refine⟨List.eq_nil_of_length_eq_zero (by rw[←hlen];rfl),?_⟩;show(ι id).cap=0;rw[hcap,ql]
     ·right;refine⟨at_ b o,eW _ ho,?_⟩;rcases hr with⟨rfl,rfl⟩|⟨⟨b',o',sp⟩,qk,hr⟩
      ·refine⟨rfl,Nat.zero_le _,?_,?_,ah.none,trivial,fun _ _ h=>h,fun _ _ h=>h.elim⟩
       ·show ∀j,j<(ι id).cap*t.size→_
        rw[hcap];exact hwr
       ·show ∀j,j<(ι id).cap*t.size→_
        rw[hcap];exact fun j hj=>.inr (ik j (by omega) hj)
      ·have hx0:=hr.cap;by_cases hk0:k=0
       ·subst hk0;have:x=[]:=List.eq_nil_of_length_eq_zero (by omega);subst this;refine⟨rfl,Nat.zero_le _,?_,?_,ah.none,trivial,fun _ _ h=>h,fun _ _ h=>h.elim⟩
        ·show ∀j,j<(ι id).cap*t.size→_
         rw[hcap];exact hwr
        ·show ∀j,j<(ι id).cap*t.size→_
         rw[hcap];exact fun j hj=>.inr (ik j (by omega) hj)
       ·have hA:=hA.resolve_left hk0;rw[qk]at hA;simp only[at_,Option.some.injEq,Addr.mk.injEq]at hA;obtain⟨rfl,rfl,rfl⟩:=hA;obtain⟨G,g1,g2,g3⟩:=hr.row;refine⟨rfl,?_,?_,?_,G,g1,?_,fun b o aB=>.inl (g3 b o aB)⟩
        ·show x.length≤(ι id).cap;rw[hcap,←hlen];exact MJ
        ·show ∀j,j<(ι id).cap*t.size→_
         rw[hcap];exact hwr
        ·show ∀j,j<(ι id).cap*t.size→_
         rw[hcap];intro j hj;by_cases mw:j<k*t.size
         ·exact .inl (hr.inF j mw)
         ·exact .inr (ik j (by omega) hj)
        ·show ∀j,j<(ι id).cap*t.size→_
         rw[hcap];intro j hj aB;by_cases mw:j<k*t.size
         ·exact g2 j mw aB
         ·exact ha _ _ (g3 _ _ aB) (ik j (by omega) hj)
    |_=>rw[ho]at hb;simp at hb
  |bG u dp cJ xs=>
   simp only at hk;obtain⟨p,i,T,ver,ys,b,o,tC,rfl,fl,_,hl,lQ,rfl,agX⟩:=hk;simp only[ad.back,List.cons_append,List.nil_append]at hb;obtain⟨s1,mq,hb2⟩:=bb hb;obtain rfl:=aX hb2;simp only[ya,fl]at mq
   cases ho:s.o p.id with
   |cr eV=>
    rw[ho]at mq;obtain⟨rfl,eW,hcap⟩:=hl eV ho;simp only at mq;obtain⟨z,hz,mq⟩:=bb mq;obtain rfl:=aX mq;refine⟨rfl,?_⟩
    exact A4 h (id:=p.id) (o:=.row T T.own (ver+1) (ys.set i z)) (i:=⟨(ι p.id).base,(ι p.id).cap,F.or H⟩) (by rw[ho];exact fun h=>h) (fun o'=>by simp) (by rw[ho];exact .tm _ _ _ _ _ _ _ _ _ (by omega) (by simp) rfl rfl)
     (fun hm=>.inr ⟨at_ b o,eW,by
      have:=agX w Z F x z (ch.refl _ _) hr ha hz;rw[←hcap]at this
      exact this⟩) (hF.or cO)
   |_=>rw[ho]at mq;simp at mq
  |_=>exact hk.elim
 |.st ak,m,x,c1,rest,s,ι,r,us,F,H,hb,h,hk,hr,hF,cO,ha=>by simp only[ad.back]at hb;simp only[c7]at hk;simp only[ad.ar]at hr;exact aA.A5 ak m.parts x c1 rest s ι r us F H hb h hk hr hF cO ha
theorem aA.A5:∀(ak:aA) (m:c5) (x:ak.D) (c1 rest:List ba) (s:az) (ι:Nat→bI) (r:List ba×az) (us:List Value) (F H:ah),ak.back x (c1++rest) s=some r→Inv w0 F0 Z0 n s a w ι Z →
  gf false w Z s ι ak m c1 us H→ak.ar w Z m x us F→bM w0 F0 s w ι Z F→bM w0 F0 s w ι Z H→ah.apart F H→r.1=rest∧ph w0 F0 Z0 n s a w ι Z r.2 (F.or H)
 |.nil,m,x,c1,rest,s,ι,r,us,F,H,hb,h,hk,hr,hF,cO,ha=>by simp only[gf]at hk;obtain⟨rfl,rfl⟩:=hk;simp only[aA.back,List.nil_append,Option.some.injEq]at hb;subst hb;exact⟨rfl,vJ h _⟩
 |.cons t ak,m,x,c1,rest,s,ι,r,us,F,H,hb,h,hk,hr,hF,cO,ha=>by
  simp only[gf]at hk;obtain⟨d1,d2,v1,v2,H1,H2,rfl,rfl,k1,k2,lR,jE,ik⟩:=hk;simp only[aA.ar]at hr;obtain⟨us1,us2,G1,G2,he,bF,cq,qm,fx,hQ⟩:=hr;have hlen:v1.length=us1.length:=by rw[c7.len t m.af k1,(ad.ar.len t m.af bF).1]
  obtain⟨rfl,rfl⟩:=List.append_inj he hlen;simp only[aA.back,List.append_assoc]at hb;obtain⟨q,hq,hb⟩:=bb hb;obtain⟨e1,dL,i1,tF,gg,A6⟩:=ad.A5 t m.af x.1 d1 (d2++rest) s ι q v1 G1 H1 hq h k1 bF (hF.sub fx) (cO.sub jE) (fun b o h1 h2=>ha b o (fx b o h1) (jE b o h2));rw[e1]at hb
  obtain⟨e2,eU,i2,oc,nd,od⟩:=aA.A5 ak m.dK x.2 d2 rest q.2 dL r v2 G2 H2 hb i1 (gf.move (tF.mono fun _ _ _=>trivial) (fun _ _ h=>h) ak m.dK k2) cq
   (gg G2 (hF.sub hQ) (by rintro b o h1 (h2|h2);exact qm b o h2 h1;exact ha b o (hQ b o h1) (jE b o h2)))
   (gg H2 (cO.sub ik) (by rintro b o h1 (h2|h2);exact ha b o (fx b o h2) (ik b o h1);exact lR b o h2 h1))
   (fun b o h1 h2=>ha b o (hQ b o h1) (ik b o h2))
  refine⟨e2,eU,i2,tF.trans oc,fun X hX gh=>nd X (gg X hX ?_) ?_,fun id hl=>?_⟩
  ·rintro b o h1 (h2|h2)
   ·exact gh b o h1 (.inl (fx b o h2))
   ·exact gh b o h1 (.inr (jE b o h2))
  ·rintro b o h1 (h2|h2)
   ·exact gh b o h1 (.inl (hQ b o h2))
   ·exact gh b o h1 (.inr (ik b o h2))
  ·obtain⟨eD,fb⟩:=A6 id hl;obtain⟨gD,gb⟩:=od id (eD▸hl);exact⟨gD.trans eD,gb.trans fb⟩
end
end
end Go.LM
namespace Go.LM
section
variable{P:Program}{Q:Exit→Act→World→Prop}
variable{g:Bool}{w0:World}{F0 Z0:ah}{n:cN}{s au:az}{a b8:Act}{w w' ck:World}{ι bp eU:Nat→bI}{Z Z' bR:ah}
theorem mj.held(h:mj s ι au bp)(H:ah):g' false w Z s ι w Z au bp H:=by
 have hm:e5 w Z s ι w Z au bp:=h.eI;refine⟨fun _ _=>aV.move hm,fun _ _=>cz.move hm,fun _ _ h=>h,fun id o' _ ho=>?_,fun h=>by simp at h,ch.refl _ _,ch.refl _ _,fun _ _ h=>h,fun _ _ _ h=>h⟩;by_cases hn:s.o id=.none
 ·exact absurd ho (h.nl id o' hn)
 ·obtain⟨h1,h2⟩:=h.o id hn;exact⟨by rw[←h1,ho],h2⟩
theorem A7{dp:List (Nat×Nat)}(hl:∀d,d∈dp→(s.o d.1).live)(hk:∀id,(s.o id).live→au.o id=s.o id∧bp id=ι id):(∀d,d∈dp→(au.o d.1).live)∧dz bp dp=dz ι dp:=by
 refine⟨fun d af=>by rw[(hk d.1 (hl d af)).1];exact hl d af,?_⟩
 funext b o
 apply propext;constructor
 ·rintro⟨d,af,hf⟩;exact⟨d,af,by rw[←(hk d.1 (hl d af)).2];exact hf⟩
 ·rintro⟨d,af,hf⟩;exact⟨d,af,by rw[(hk d.1 (hl d af)).2];exact hf⟩
theorem mj.keeps(h:mj s ι au bp):∀id,(s.o id).live→au.o id=s.o id∧bp id=ι id:=fun id hl=>h.o id (fun e=>by rw[e]at hl;exact hl)
theorem bM.dz{F:ah}{dp:List (Nat×Nat)}(hF:bM w0 F0 s w ι Z F)(hl:∀d,d∈dp→(s.o d.1).live):ah.apart F (LM.dz ι dp):=by
 rintro b o h ⟨d,af,hf⟩
 exact hF.apart d.1 (hl d af) b o h hf
theorem ph.trans{s1 s2:az}{dL:Nat→bI}{VC VD e6:ah}(h1:Inv w0 F0 Z0 n s1 a w dL Z)(hh:g' false w Z s ι w Z s1 dL (fun _ _=>True))(hf:∀X,bM w0 F0 s w ι Z X→ah.apart X VC→bM w0 F0 s1 w dL Z X)
  (hl:∀id,(s.o id).live→s1.o id=s.o id∧dL id=ι id) (k:ph w0 F0 Z0 n s1 a w dL Z s2 VD) (hg:ah.sub (VC.or VD) e6):ph w0 F0 Z0 n s a w ι Z s2 e6:=by
 obtain⟨eU,i2,oc,nd,od⟩:=k;refine⟨eU,i2,hh.trans oc,fun X hX gh=>nd X (hf X hX fun b o x y=>gh b o x (hg b o (.inl y))) fun b o x y=>gh b o x (hg b o (.inr y)),fun id cm=>?_⟩;obtain⟨eD,fb⟩:=hl id cm;obtain⟨gD,gb⟩:=od id (eD▸cm);exact⟨gD.trans eD,gb.trans fb⟩
theorem iT.mono(hZ:ah.sub Z Z'):∀(ps:List bE) {us:List Value}{x:(bE.en ps).D}{F F':ah},ah.sub F F'→iT w Z ps us x F→iT w Z' ps us x F'
 | [],_,_,_,_,_,_=>trivial
 |.mut t m m'::ps,_,_,_,_,hF,⟨b,o,vs,aY,G,H,h1,h2,h3,h4,a6,bj,bL,dk⟩=>⟨b,o,vs,aY,G,H,h1,h2,ad.ar.mono hZ _ _ (fun _ _ h=>h) h3,iT.mono hZ ps (fun _ _ h=>h) h4,a6,bj,fun b o h=>hF b o (bL b o h),fun b o h=>hF b o (dk b o h)⟩
 |.hI t m::ps,_,_,_,_,hF,⟨vs,aY,G,H,h1,h2,h3,h4,a6,bj⟩=>⟨vs,aY,G,H,h1,ad.ar.mono hZ _ _ (fun _ _ h=>h) h2,iT.mono hZ ps (fun _ _ h=>h) h3,h4,fun b o h=>hF b o (a6 b o h),fun b o h=>hF b o (bj b o h)⟩
 |.val _ _::ps,_,_,_,_,hF,⟨u,aY,h1,h2⟩=>⟨u,aY,h1,iT.mono hZ ps hF h2⟩
 |.ic _::ps,_,_,_,_,hF,⟨u,aY,h1,h2⟩=>⟨u,aY,h1,iT.mono hZ ps hF h2⟩
 |.ref _::ps,_,_,_,_,hF,⟨u,aY,h1,h2⟩=>⟨u,aY,h1,iT.mono hZ ps hF h2⟩
 |.fn _ _::ps,_,_,_,_,hF,⟨u,aY,h1,h2⟩=>⟨u,aY,h1,iT.mono hZ ps hF h2⟩
theorem tG{dp:List (Nat×Nat)}:∀(ps:List bE) (vs:List a_) (us:List Value) (x:(bE.en ps).D) (s:az) (ι:Nat→bI) (j:Nat) (q:az×Nat) (F H:ah),mY dp ps vs x s j=some q→Inv w0 F0 Z0 n s a w ι Z →
  fc false w Z s ι ps vs us H→iT w (Z.or (dz ι dp)) ps us x F→bM w0 F0 s w ι Z F→bM w0 F0 s w ι Z H→ah.apart F H→(∀d,d∈dp→(s.o d.1).live∧eO s d)→ph w0 F0 Z0 n s a w ι Z q.1 (F.or H)
 | [],vs,us,x,s,ι,j,q,F,H,hu,h,hk,hr,hF,cO,ha,af=>by simp only[mY,Option.some.injEq]at hu;subst hu;exact vJ h _
 |.val t m::ps,vs,us,x,s,ι,j,q,F,H,hu,h,hk,hr,hF,cO,ha,af=>by obtain⟨v,bK,u,aY,rfl,rfl,hk⟩:=hk;obtain⟨jD,us2,he,hr⟩:=hr;simp only[List.cons.injEq]at he;obtain⟨rfl,rfl⟩:=he;exact tG ps bK aY x s ι j q F H (by simpa only[mY]using hu) h hk hr hF cO ha af
 |.ic t::ps,vs,us,x,s,ι,j,q,F,H,hu,h,hk,hr,hF,cO,ha,af=>by obtain⟨v,bK,u,aY,rfl,rfl,hk⟩:=hk;obtain⟨jD,us2,he,hr⟩:=hr;simp only[List.cons.injEq]at he;obtain⟨rfl,rfl⟩:=he;exact tG ps bK aY x s ι j q F H (by simpa only[mY]using hu) h hk hr hF cO ha af
 |.ref t::ps,vs,us,x,s,ι,j,q,F,H,hu,h,hk,hr,hF,cO,ha,af=>by obtain⟨v,bK,u,aY,rfl,rfl,hk⟩:=hk;obtain⟨jD,us2,he,hr⟩:=hr;simp only[List.cons.injEq]at he;obtain⟨rfl,rfl⟩:=he;exact tG ps bK aY x s ι j q F H (by simpa only[mY]using hu) h hk hr hF cO ha af
 |.fn _ _::ps,vs,us,x,s,ι,j,q,F,H,hu,h,hk,hr,hF,cO,ha,af=>by obtain⟨v,bK,u,aY,rfl,rfl,hk⟩:=hk;obtain⟨jD,us2,he,hr⟩:=hr;simp only[List.cons.injEq]at he;obtain⟨rfl,rfl⟩:=he;exact tG ps bK aY x s ι j q F H (by simpa only[mY]using hu) h hk hr hF cO ha af
 |.hI t m::ps,vs,us,x,s,ι,j,q,F,H,hu,h,hk,hr,hF,cO,ha,af=>by
  obtain⟨v,bK,u,aY,cs,H1,H2,rfl,rfl,hcs,rfl,k1,k2,lR,jE,ik⟩:=hk;obtain⟨ws,us2,G1,G2,he,bF,cq,qm,fx,hQ⟩:=hr;simp only[List.cons.injEq]at he;obtain⟨rfl,rfl⟩:=he;simp only[mY,hcs]at hu;obtain⟨r,hb,hu⟩:=bb hu;have hl:=ad.ar.len t _ bF;rw[L9 hl.1 hl.2]at k1;have MK:t.ar w Z t.own x.1 ws G1:=vu t bF;obtain⟨e1,dL,i1,tF,gg,A6⟩:=ad.A5 t t.own x.1 cs [] s ι r ws G1 H1 (by rw[List.append_nil];exact hb) h k1 MK (hF.sub fx) (cO.sub jE) (fun b o x y=>ha b o (fx b o x) (jE b o y));have hdl:=A7 (dp:=dp) (fun d hm=>(af d hm).1) A6
  have A8:=tG ps bK aY x.2 r.2 dL j q G2 H2 hu i1 (fc.move (tF.mono fun _ _ _=>trivial) (fun _ _ h=>h) ps k2) (by rw[hdl.2];exact cq)
   (gg G2 (hF.sub hQ) (by rintro b o x (y|y);exact qm b o y x;exact ha b o (hQ b o x) (jE b o y)))
   (gg H2 (cO.sub ik) (by rintro b o x (y|y);exact ha b o (fx b o y) (ik b o x);exact lR b o y x))
   (fun b o x y=>ha b o (hQ b o x) (ik b o y)) (fun d hm=>⟨hdl.1 d hm,by have:=(af d hm).2;unfold eO known lf at *;rw[(A6 d.1 (af d hm).1).1];exact this⟩)
  refine ph.trans i1 tF gg A6 A8 ?_
  rintro b o ((y|y)|(y|y))
  ·exact .inl (fx b o y)
  ·exact .inr (jE b o y)
  ·exact .inl (hQ b o y)
  ·exact .inr (ik b o y)
 |.mut t m m'::ps,vs,us,x,s,ι,j,q,F,H,hu,h,hk,hr,hF,cO,ha,af=>by
  obtain⟨p,bK,u,aY,H1,H2,rfl,rfl,k1,k2,lR,jE,ik⟩:=hk;obtain⟨b,o,ws,us2,G,gv,he,cE,bF,cq,qm,tE,fx,hQ⟩:=hr;simp only[List.cons.injEq]at he;obtain⟨rfl,rfl⟩:=he;have hGF:ah.sub G F:=fun b o x=>fx b o (.inl x)
  have agY:ah.sub (ah.run b o t.size) F:=fun b o x=>fx b o (.inr x)
  have vy:=ad.ar.len t _ bF;simp only[mY]at hu
  cases ho:s.o p.id with
  |cr eV=>
   rw[ho]at hu
   cases fl:p.fO with
   |none=>
    rw[fl]at hu
    cases eV with
    |var ver old=>
     simp only at hu;obtain⟨r,hx,hu⟩:=bb hu;rcases k1 with k1|⟨_,_,_,_,_,_,_,_,_,_,_,_,hk2,_⟩
     case inr=>rw[fl]at hk2;simp at hk2
     obtain⟨n4,auL,b',o',EK,_,hl,_,j3,hle,VE,hwr,EL,hcell⟩:=k1;obtain⟨b2,eW⟩:=hl _ ho;simp only[cD.var.injEq]at b2;obtain⟨rfl,rfl⟩:=b2;simp only[Value.pointer.injEq,Option.some.injEq,at_,Addr.mk.injEq,and_true]at j3;obtain⟨rfl,rfl⟩:=j3;obtain⟨dL,i1,jF,c1,gg⟩:=ad.o7 t m' dp x.1 s ι j r ws G hx h bF (hF.sub hGF) ((hF.sub hGF).dz fun d hm=>(af d hm).1) (fun d hm=>(af d hm).2);obtain⟨hs1,agZ⟩:=jF.o p.id (by rw[ho];simp);have hcl:=c1.len;have hol:=VE.len;have auM:=vy.1;have ag0:=jF.keeps;have ML:bM w0 F0 r.2.1 w dL Z ((ah.run b (o'+p.off) t.size).or H1):=(gg _ (hF.sub agY) (fun b o x y=>tE b o y x)).or (gg _ (cO.sub jE) (fun b o x y=>ha b o (hGF b o y) (jE b o x)))
     have mv:=A4 i1 (id:=p.id) (o:=.var (ver+1) (old.take p.off++r.1++old.drop (p.off+t.size))) (i:=⟨(dL p.id).base,(dL p.id).cap,(ah.run b (o'+p.off) t.size).or H1⟩)
      (by rw[hs1,ho];exact fun h=>h) (fun o'=>by simp) (by rw[hs1,ho];exact .AK _ _ _ _ _ _ (by omega) rfl) (fun hm=>by
       refine⟨at_ b o',dw EK p.off ws,by rw[agZ];exact eW,rfl,?_,?_,?_⟩
       ·have ag1:bO w Z r.2.1 dL old EK:=VE.move jF.eI;have:=(bO.dw ag1 c1 p.off).move hm;rwa[show p.off+r.1.length=p.off+t.size by omega]at this
       ·intro i v hv;unfold dw at hv;show w.cell? (at_ b (o'+i))=some v;by_cases h1:i<p.off
        ·rw[List.append_assoc,List.getElem?_append_left (by simp;omega),List.getElem?_take,if_pos h1]at hv;exact hcell i v hv (.inl h1)
        ·by_cases h2:i<p.off+t.size
         ·rw[List.getElem?_append_left (by simp;omega),List.getElem?_append_right (by simp;omega)]at hv;simp only[List.length_take]at hv;have:=cE _ v hv;rwa[show o'+p.off +(i-min p.off EK.length)=o'+i by omega]at this
         ·rw[List.getElem?_append_right (by simp;omega)]at hv;simp only[List.length_append,List.length_take,List.getElem?_drop]at hv;rw[show p.off+ws.length +(i-(min p.off EK.length+ws.length))=i by omega]at hv;exact hcell i v hv (.inr (by omega))
       ·intro i hi;have dr:i<old.length:=by simp only[List.length_append,List.length_take,List.length_drop]at hi;omega
        refine⟨hwr i dr,?_⟩;show(ah.run b (o'+p.off) t.size).or H1 b (o'+i);by_cases hh:i<p.off∨p.off+t.size≤i
        ·exact .inr (EL i dr hh)
        ·exact .inl ⟨rfl,by omega,by omega⟩) ML
     obtain⟨eU,i2,oc,nd,od⟩:=mv;have MM:∀id,(s.o id).live→(r.2.1.bV p.id (.var (ver+1) (old.take p.off++r.1++old.drop (p.off+t.size)))).o id=s.o id∧eU id=ι id:=fun id cm=>by obtain⟨eD,fb⟩:=ag0 id cm;obtain⟨gD,gb⟩:=od id (eD▸cm);exact⟨gD.trans eD,gb.trans fb⟩
     have yL:g' false w Z s ι w Z (r.2.1.bV p.id (.var (ver+1) (old.take p.off++r.1++old.drop (p.off+t.size)))) eU (fun _ _=>True):=(jF.held _).trans oc
     have kM:∀X,bM w0 F0 s w ι Z X→ah.apart X ((G.or (ah.run b (o'+p.off) t.size)).or H1)→bM w0 F0 (r.2.1.bV p.id (.var (ver+1) (old.take p.off++r.1++old.drop (p.off+t.size)))) w eU Z X:=fun X hX gh=>by
      refine nd X (gg X hX fun b o x y=>gh b o x (.inl (.inl y))) ?_
      rintro b o x (y|y)
      ·exact gh b o x (.inl (.inr y))
      ·exact gh b o x (.inr y)
     have hdl:=A7 (dp:=dp) (fun d hm=>(af d hm).1) MM
     have A8:=tG ps bK aY x.2 _ eU r.2.2 q gv H2 hu i2 (fc.move (yL.mono fun _ _ _=>trivial) (fun _ _ h=>h) ps k2) (by rw[hdl.2];exact cq)
      (kM gv (hF.sub hQ) (by rintro b o x (y|y);exact qm b o y x;exact ha b o (hQ b o x) (jE b o y)))
      (kM H2 (cO.sub ik) (by rintro b o x (y|y);exact ha b o (fx b o y) (ik b o x);exact lR b o y x))
      (fun b o x y=>ha b o (hQ b o x) (ik b o y)) (fun d hm=>⟨hdl.1 d hm,by have:=(af d hm).2;unfold eO known lf at *;rw[(MM d.1 (af d hm).1).1];exact this⟩)
     refine ph.trans i2 yL kM MM A8 ?_
     rintro b o ((y|y)|(y|y))
     ·exact .inl (fx b o y)
     ·exact .inr (jE b o y)
     ·exact .inl (hQ b o y)
     ·exact .inr (ik b o y)
    |_=>simp at hu
   |some i=>
    rw[fl]at hu
    cases eV with
    |row hd em ver xs=>
     simp only at hu;obtain⟨y,aR,hu⟩:=bb hu;obtain⟨e1,vK⟩:=D8 aR;subst e1;have vK:x.1=y:=vK.symm;subst vK;rcases k1 with⟨_,_,_,_,_,_,_,hk2,_⟩|⟨m5,pg,k1⟩
     ·rw[fl]at hk2;simp at hk2
     obtain⟨n4,gq,er,b',o',c,G1,G2,_,hl,VF,hi,j3,MJ,hwr,EL,ag2,ag3,ag4,VG,VH,VI⟩:=k1;obtain⟨b2,eW,hcap⟩:=hl _ ho;simp only[cD.row.injEq,heq_eq_eq,true_and]at b2;obtain⟨rfl,rfl,rfl⟩:=b2;rw[fl]at VF;obtain rfl:=aX VF;simp only[Value.pointer.injEq,Option.some.injEq,at_,Addr.mk.injEq,and_true]at j3;obtain⟨rfl,rfl⟩:=j3;subst m5;have MK:t.ar w Z m' x.1 ws G:=by rw[pg]at bF⊢;exact vu t bF
     have hcs:(i+1)*t.size≤c*t.size:=Nat.mul_le_mul_right _ (by omega);rw[Nat.add_one_mul]at hcs;have ML:bM w0 F0 s w ι Z ((G.or (ah.run b (o'+i*t.size) t.size)).or H1):=(hF.sub fx).or (cO.sub jE)
     have mv:=A4 h (id:=p.id) (o:=.row t m' (ver+1) (xs.set i x.1)) (i:=⟨(ι p.id).base,(ι p.id).cap,(G.or (ah.run b (o'+i*t.size) t.size)).or H1⟩)
      (by rw[ho];exact fun h=>h) (fun o'=>by simp) (by rw[ho];exact .tm _ _ _ _ _ _ _ _ _ (by omega) (by simp) rfl rfl) (fun hm=>by
       right;refine⟨at_ b o',eW,rfl,?_,?_,?_,?_⟩
       ·show(xs.set i x.1).length≤(ι p.id).cap;rw[List.length_set,hcap];exact MJ
       ·show ∀j,j<(ι p.id).cap*t.size→_
        rw[hcap];exact hwr
       ·show ∀j,j<(ι p.id).cap*t.size→_
        rw[hcap];intro j hj;show((G.or (ah.run b (o'+i*t.size) t.size)).or H1) b (o'+j);by_cases hh:j<i*t.size∨(i+1)*t.size≤j
        ·exact .inr (EL j hj hh)
        ·rw[Nat.add_one_mul]at hh;exact .inl (.inr ⟨rfl,by omega,by omega⟩)
       ·refine⟨G1.or (G.or G2),Row.Ez i hi ag2 MK vy.1 cE ag3 (fun b o x y=>ha b o (hGF b o y) (jE b o (VG b o x))) ag4 (fun b o x y=>ha b o (hGF b o x) (jE b o (VH b o y))),?_,?_⟩
        ·show ∀j,j<(ι p.id).cap*t.size→_
         rw[hcap]
         rintro j hj (aB|aB|aB)
         ·exact(VI j hj).1 aB
         ·by_cases hh:j<i*t.size∨(i+1)*t.size≤j
          ·exact ha _ _ (hGF _ _ aB) (jE _ _ (EL j hj hh))
          ·rw[Nat.add_one_mul]at hh;exact tE _ _ aB ⟨rfl,by show o'+i*t.size≤o'+j;omega,by show o'+j<_;omega⟩
         ·exact(VI j hj).2 aB
        ·rintro b o (aB|aB|aB)
         ·exact .inr (VG b o aB)
         ·exact .inl (.inl aB)
         ·exact .inr (VH b o aB)) ML
     obtain⟨eU,i2,oc,nd,od⟩:=mv;have hdl:=A7 (dp:=dp) (fun d hm=>(af d hm).1) od
     have A8:=tG ps bK aY x.2 _ eU j q gv H2 hu i2 (fc.move (oc.mono fun _ _ _=>trivial) (fun _ _ h=>h) ps k2) (by rw[hdl.2];exact cq)
      (nd gv (hF.sub hQ) (by rintro b o x (y|y);exact qm b o y x;exact ha b o (hQ b o x) (jE b o y)))
      (nd H2 (cO.sub ik) (by rintro b o x (y|y);exact ha b o (fx b o y) (ik b o x);exact lR b o y x))
      (fun b o x y=>ha b o (hQ b o x) (ik b o y)) (fun d hm=>⟨hdl.1 d hm,by have:=(af d hm).2;unfold eO known lf at *;rw[(od d.1 (af d hm).1).1];exact this⟩)
     refine ph.trans i2 oc nd od A8 ?_
     rintro b o ((y|y)|(y|y))
     ·exact .inl (fx b o y)
     ·exact .inr (jE b o y)
     ·exact .inl (hQ b o y)
     ·exact .inr (ik b o y)
    |_=>simp at hu
  |_=>rw[ho]at hu;simp at hu
end
end Go.LM
namespace Go.LM
section
variable{P:Program}{Q:Exit→Act→World→Prop}
variable{g:Bool}{w0:World}{F0 Z0:ah}{n:cN}{s au:az}{a b8:Act}{w w' ck:World}{ι bp eU:Nat→bI}{Z Z' bR:ah}
variable{E:Env}{o:Oper}{bC:Type}{K:az→Option bC}{r:bC}{id:Nat}
theorem EM:∀{dp:List (Nat×Nat)},alive s dp=true→∀d,d∈dp→(s.o d.1).live
 | [],_,d,af=>by simp at af
 |(i,v)::dp,h,d,af=>by
  unfold alive at h;rcases List.mem_cons.1 af with rfl|af
  ·cases ho:s.o i with
   |row=>trivial
   |var=>trivial
   |_=>rw[ho]at h;simp at h
  ·cases ho:s.o i with
   |row t em ver xs=>
    rw[ho]at h;simp only at h;cases hb:Nat.beq ver v
    ·rw[hb]at h;simp at h
    ·rw[hb]at h;exact EM h d af
   |var ver cs=>
    rw[ho]at h;simp only at h;cases hb:Nat.beq ver v
    ·rw[hb]at h;simp at h
    ·rw[hb]at h;exact EM h d af
   |_=>rw[ho]at h;simp at h
theorem a8.append:∀{x y:List a_}{us vs:List Value},a8 w Z s ι x us→a8 w Z s ι y vs→a8 w Z s ι (x++y) (us++vs)
 | [],_,_,_,h,k=>by simp only[a8]at h;subst h;exact k
 |_::_,_,_,_,h,k=>by simp only[a8]at h;obtain⟨u,aY,rfl,h1,h2⟩:=h;simp only[List.cons_append,a8];exact⟨u,_,rfl,h1,h2.append k⟩
theorem MN:∀{x:List a_}{us:List Value},o2 x=true→a8 w Z s ι x us→a8 w Z s ι (me x) (gA us)
 | [],_,_,h=>by simp only[a8]at h;subst h;simp only[me,gA,a8]
 |v::l,_,hn,h=>by
  simp only[a8]at h;obtain⟨u,aY,rfl,h1,h2⟩:=h;have hl:o2 l=true:=by cases v<;>simp_all[o2]
  have ih:=MN hl h2
  cases v with
  |fn f a b=>simp only[aV]at h1;obtain⟨xs,ys,rfl,c2,eb⟩:=h1;simp only[me,gA];exact(c2.append eb).append ih
  |bB=>simp[o2]at hn
  |aU c=>
   simp only[me]
   have:∀f a b,u≠.func f a b:=by
    rintro f a b rfl
    simp only[aV]at h1
    cases c with
    |bG=>obtain⟨_,⟨_,_,_,h⟩,_⟩:=h1;simp at h
    |af=>obtain⟨_,_,_,_,h,_⟩:=h1;simp at h
    |str=>obtain⟨_,h,_⟩:=h1;simp at h
    |raw=>obtain⟨h,_,_,_,h2⟩:=h1;rw[h2]at h;simp at h
    |_=>simp[cz]at h1
   cases u<;>first|exact ih|exact absurd rfl (this _ _ _)
  |iV cs=>simp only[aV]at h1;obtain⟨_,rfl,_⟩:=h1;exact ih
  |ptr p=>simp only[aV]at h1;obtain⟨_,_,rfl,_⟩:=h1;exact ih
  |dA=>simp only[aV]at h1;obtain⟨_,_,_,_,rfl,_⟩:=h1;exact ih
  |gone=>simp[o2]at hn
  |td=>simp[o2]at hn
  |kD=>simp only[aV]at h1;subst h1;exact ih
  |lG=>simp only[aV]at h1;subst h1;exact ih
  |may=>simp only[aV]at h1;rcases h1 with⟨_,rfl⟩|⟨_,_,_,_,_,rfl,_⟩<;>exact ih
  |opt=>simp only[aV]at h1;rcases h1.2 with⟨_,rfl⟩|⟨_,_,rfl,_⟩<;>exact ih
  |p6=>simp only[aV]at h1;obtain⟨_,rfl,_⟩:=h1;exact ih
mutual
theorem c7.nf:∀(t:ad) (m:bg) {cs:List ba}{vs:List Value}{H:ah},c7 true w Z s ι t m cs vs H→c7 false w Z s ι t m cs vs H
 |.int _,_,_,_,_,hk=>by simp only[c7]at hk⊢;exact hk
 |.bool,_,_,_,_,hk=>by simp only[c7]at hk⊢;exact hk
 |.str,_,_,_,_,hk=>by simp only[c7]at hk⊢;exact hk
 |.raw,_,_,_,_,hk=>by simp only[c7]at hk⊢;exact hk
 |.sl t,.R,_,_,_,hk=>by simp only[c7]at hk
 |.sl t,.S _,_,_,_,hk=>by simp only[c7]at hk
 |.sl t,.O e,_,_,_,hk=>by
  simp only[c7]at hk⊢;obtain⟨c,v,h1,h2,hk⟩:=hk;refine⟨c,v,h1,h2,?_⟩
  cases c with
  |nil=>exact hk
  |af id sub=>
   cases sub with
   |some=>exact hk
   |none=>obtain⟨ver,xs,A,k,c,_,h⟩:=hk;exact⟨ver,xs,A,k,c,fun h=>by simp at h,h⟩
  |bG u dp cJ xs=>obtain⟨p,i,T,ver,ys,b,o,c,h1,h2,_,h⟩:=hk;exact⟨p,i,T,ver,ys,b,o,c,h1,h2,fun h=>by simp at h,h⟩
  |_=>exact hk
 |.st ak,m,_,_,_,hk=>by simp only[c7]at hk⊢;exact gf.nf ak m.parts hk
theorem gf.nf:∀(ak:aA) (m:c5) {cs:List ba}{vs:List Value}{H:ah},gf true w Z s ι ak m cs vs H→gf false w Z s ι ak m cs vs H
 |.nil,_,_,_,_,hk=>by simp only[gf]at hk⊢;exact hk
 |.cons t ak,m,_,_,_,hk=>by simp only[gf]at hk⊢;obtain⟨c1,fV,v1,v2,H1,H2,h1,h2,h3,h4,a6⟩:=hk;exact⟨c1,fV,v1,v2,H1,H2,h1,h2,c7.nf t m.af h3,gf.nf ak m.dK h4,a6⟩
end
theorem fc.nf:∀(ps:List bE) {vs:List a_}{us:List Value}{H:ah},fc true w Z s ι ps vs us H→fc false w Z s ι ps vs us H
 | [],_,_,_,_=>trivial
 |.mut t m m'::ps,_,_,_,⟨p,bK,u,aY,H1,H2,h1,h2,h3,h4,a6⟩=>⟨p,bK,u,aY,H1,H2,h1,h2,h3.imp (fun⟨a,b,c,d,e,_,h⟩=>⟨a,b,c,d,e,fun h=>by simp at h,h⟩) (fun⟨c2,eb,a,b,c,d,e,f,g1,g2,_,h⟩=>⟨c2,eb,a,b,c,d,e,f,g1,g2,fun h=>by simp at h,h⟩),fc.nf ps h4,a6⟩
 |.hI t m::ps,_,_,_,⟨v,bK,u,aY,cs,H1,H2,h1,h2,h3,pg,h4,a6,bj⟩=>⟨v,bK,u,aY,cs,H1,H2,h1,h2,h3,pg,c7.nf t m h4,fc.nf ps a6,bj⟩
 |.val _ _::ps,_,_,_,⟨v,bK,u,aY,h1,h2,h3⟩=>⟨v,bK,u,aY,h1,h2,fc.nf ps h3⟩
 |.ic _::ps,_,_,_,⟨v,bK,u,aY,h1,h2,h3⟩=>⟨v,bK,u,aY,h1,h2,fc.nf ps h3⟩
 |.ref _::ps,_,_,_,⟨v,bK,u,aY,h1,h2,h3⟩=>⟨v,bK,u,aY,h1,h2,fc.nf ps h3⟩
 |.fn _ _::ps,_,_,_,⟨v,bK,u,aY,h1,h2,h3⟩=>⟨v,bK,u,aY,h1,h2,fc.nf ps h3⟩
theorem iK.mono(hZ:ah.sub Z Z'){ps:List bE}{us:List Value}:∀(rs:List c4) {x:(c4.outs rs (bE.en ps)).D}{dE:List Value}{F F':ah},ah.sub F F'→iK w Z ps us rs x dE F→iK w Z' ps us rs x dE F'
 | [],_,_,_,_,hF,⟨h1,h2⟩=>⟨h1,iT.mono hZ ps hF h2⟩
 |.val t m::rs,_,_,_,_,hF,⟨vs,et,G,H,h1,h2,h3,h4,a6,bj⟩=>⟨vs,et,G,H,h1,ad.ar.mono hZ _ _ (fun _ _ h=>h) h2,iK.mono hZ rs (fun _ _ h=>h) h3,h4,fun b o h=>hF b o (a6 b o h),fun b o h=>hF b o (bj b o h)⟩
 |.opt a off t::rs,_,_,_,_,hF,⟨v,et,h1,h2,h3⟩=>⟨v,et,h1,h2,iK.mono hZ rs hF h3⟩
 |.any t::rs,_,_,_,_,hF,⟨v,et,h1,h2,h3⟩=>⟨v,et,h1,h2,iK.mono hZ rs hF h3⟩
 |.p8 t::rs,_,_,_,_,hF,⟨v,et,h1,h2,h3⟩=>⟨v,et,h1,h2.imp (fun h=>h) fun⟨y,b,o,vs,k1,k2,k3,bn,bs⟩=>⟨y,b,o,vs,k1,k2,k3,ad.ar.mono hZ _ _ (fun _ _ h=>h) bn,fun j hj=>hZ _ _ (bs j hj)⟩,iK.mono hZ rs hF h3⟩
 |.new t m::rs,_,_,_,_,hF,⟨b,o,vs,et,G,H,h1,h2,hw,h3,h4,a6,bj,bL,dk⟩=>⟨b,o,vs,et,G,H,h1,h2,hw,ad.ar.mono hZ _ _ (fun _ _ h=>h) h3,iK.mono hZ rs (fun _ _ h=>h) h4,a6,bj,fun b o h=>hF b o (bL b o h),fun b o h=>hF b o (dk b o h)⟩
theorem j2.plus{p:Place}{b o:Nat}(k:Nat)(h:j2 s ι p (at_ b o)):j2 s ι { p with off:=p.off+k } (at_ b (o+k)):=by
 obtain⟨_,h⟩:=h;refine⟨rfl,?_⟩;show match (s.o p.id).core with|.var _ _=>_|.row .. => _|_=>_
 cases hc:(s.o p.id).core with
 |var ver cs=>rw[hc]at h;obtain⟨h1,a0,h2,h3⟩:=h;simp only[at_,Addr.mk.injEq,and_true]at h3;exact⟨h1,a0,h2,by simp only[at_,Addr.mk.injEq,and_true];exact⟨h3.1,by omega⟩⟩
 |row t em ver xs=>rw[hc]at h;obtain⟨i,h1,h2,a0,h3,h4⟩:=h;simp only[at_,Addr.mk.injEq,and_true]at h4;exact⟨i,h1,h2,a0,h3,by simp only[at_,Addr.mk.injEq,and_true];exact⟨h4.1,by omega⟩⟩
 |_=>trivial
theorem a8.get:∀{x:List a_}{us:List Value} (i:Nat) {v:a_},a8 w Z s ι x us→x[i]?=some v→∃u,us[i]?=some u∧aV w Z s ι v u
 | [],_,i,_,_,h=>by simp at h
 |y::l,_,0,v,h,hv=>by simp only[a8]at h;obtain⟨u,aY,rfl,h1,h2⟩:=h;simp at hv;subst hv;exact⟨u,rfl,h1⟩
 |y::l,_,i+1,v,h,hv=>by simp only[a8]at h;obtain⟨u,aY,rfl,h1,h2⟩:=h;simp only[List.getElem?_cons_succ]at hv⊢;exact h2.get i hv
theorem a8.held{g:Bool}{H:ah}(h:g' g w Z s ι w' Z' au bp H):∀{x:List a_}{us:List Value},a8 w Z s ι x us→a8 w' Z' au bp x us
 | [],_,hx=>by simp only[a8]at hx⊢;exact hx
 |y::l,_,hx=>by simp only[a8]at hx⊢;obtain⟨u,aY,h0,h1,h2⟩:=hx;exact⟨u,aY,h0,h.aG _ _ h1,a8.held h h2⟩
theorem yM{bu:List (Nat×Nat)}{ps:List bE}{vs:List a_}{us:List Value}:∀(rs:List c4) (x:(c4.outs rs (bE.en ps)).D) (dE:List Value) (s:az) (ι:Nat→bI) (j:Nat) (q:List a_×az) (F H:ah),mc vs ps bu rs x s j=some q →
  Inv w0 F0 Z0 n s a w ι Z→fc false w Z s ι ps vs us H→iK w (Z.or (dz ι bu)) ps us rs x dE F→bM w0 F0 s w ι Z F→bM w0 F0 s w ι Z H→ah.apart F H→(∀d,d∈bu→(s.o d.1).live∧eO s d)→a8 w Z s ι vs us →
  ∃ bp,Inv w0 F0 Z0 n q.2 a w bp Z∧(∀x u,aV w Z s ι x u→aV w Z q.2 bp x u)∧a8 w Z q.2 bp q.1 dE
 | [],x,dE,s,ι,j,q,F,H,hu,h,hk,hr,hF,cO,ha,af,hv=>by simp only[mc]at hu;obtain⟨r,hx,hu⟩:=bb hu;obtain rfl:=aX hu;obtain⟨rfl,hr⟩:=hr;obtain⟨bp,er,held,_⟩:=tG ps vs us x s ι j r F H hx h hk hr hF cO ha af;exact⟨bp,er,held.aG,by simp only[a8]⟩
 |.val t m::rs,x,dE,s,ι,j,q,F,H,hu,h,hk,hr,hF,cO,ha,af,hv=>by
  simp only[mc]at hu;obtain⟨r,hx,hu⟩:=bb hu
  cases hw:kE t r.1 with
  |none=>rw[hw]at hu;simp at hu
  |some v=>
   rw[hw]at hu;simp only at hu;obtain⟨p,av,hu⟩:=bb hu;obtain rfl:=aX hu;obtain⟨ws,et,G1,G2,rfl,bF,cq,qm,fx,hQ⟩:=hr;obtain⟨dL,i1,jF,c1,gg⟩:=ad.o7 t m bu x.1 s ι j r ws G1 hx h bF (hF.sub fx) ((hF.sub fx).dz fun d hm=>(af d hm).1) (fun d hm=>(af d hm).2);have tF:g' false w Z s ι w Z r.2.1 dL (fun _ _=>True):=jF.held _;have hdl:=A7 (dp:=bu) (fun d hm=>(af d hm).1) jF.keeps;have MO:a8 w Z r.2.1 dL vs us:=a8.move (jF.eI (w:=w) (Z:=Z)) hv
   obtain⟨eU,i2,qn,il⟩:=yM rs x.2 et r.2.1 dL r.2.2 p G2 H av i1 (fc.move (tF.mono fun _ _ _=>trivial) (fun _ _ h=>h) ps hk) (by rw[hdl.2];exact cq)
    (gg G2 (hF.sub hQ) (fun b o x y=>qm b o y x)) (gg H cO (fun b o x y=>ha b o (fx b o y) x)) (fun b o x y=>ha b o (hQ b o x) y)
    (fun d hm=>⟨hdl.1 d hm,by have:=(af d hm).2;unfold eO known lf at *;rw[(jF.keeps d.1 (af d hm).1).1];exact this⟩) MO
   refine⟨eU,i2,fun x u hx=>qn x u (tF.aG x u hx),?_⟩;simp only[a8];exact⟨_,et,rfl,qn _ _ (qf hw c1),il⟩
 |.new t m::rs,x,dE,s,ι,j,q,F,H,hu,h,hk,hr,hF,cO,ha,af,hv=>by
  simp only[mc]at hu;obtain⟨r,hx,hu⟩:=bb hu;obtain⟨s1,hm,hu⟩:=bb hu;obtain⟨p,av,hu⟩:=bb hu;obtain rfl:=aX hu;obtain⟨cm,rfl⟩:=rz hm;obtain⟨b,o,ws,et,G1,G2,rfl,cE,hwr,bF,cq,qm,tE,fx,hQ⟩:=hr;have hG:ah.sub G1 F:=fun b o x=>fx b o (.inl x)
  have fa:ah.sub (ah.run b o t.size) F:=fun b o x=>fx b o (.inr x)
  obtain⟨dL,i1,jF,c1,gg⟩:=ad.o7 t m bu x.1 s ι j r ws G1 hx h bF (hF.sub hG) ((hF.sub hG).dz fun d hm=>(af d hm).1) (fun d hm=>(af d hm).2);have hl:=(ad.ar.len t _ bF).1;have hcl:=c1.len;have kM:=gg _ (hF.sub fa) (fun b o x y=>tE b o y x);obtain⟨i2,oc,nd,od⟩:=MI i1 (id:=r.2.2) (o:=.var 0 r.1) (i:=⟨some (at_ b o),0,ah.run b o t.size⟩) (by rw[cm];exact fun h=>h) (fun o'=>by simp) (by rw[cm];exact .made _ _ _) (fun hm=>by refine⟨at_ b o,ws,rfl,rfl,c1.move hm,cE,fun k hk=>⟨hwr k (by omega),rfl,by simp[at_],by simp[at_];omega⟩⟩) kM;have held:g' false w Z s ι w Z _ _ (fun _ _=>True):=(jF.held _).trans oc;have VJ:∀id,(s.o id).live→(r.2.1.bV r.2.2 (.var 0 r.1)).o id=s.o id∧bW dL r.2.2 ⟨some (at_ b o),0,ah.run b o t.size⟩ id=ι id:=fun id cn=>by obtain⟨h1,h2⟩:=jF.keeps id cn;obtain⟨h3,h4⟩:=od id (by rw[h1];exact cn);exact⟨h3.trans h1,h4.trans h2⟩
  have hdl:=A7 (dp:=bu) (fun d hm=>(af d hm).1) VJ;have MO:a8 w Z _ _ vs us:=a8.held held hv;have A9:∀X,bM w0 F0 s w ι Z X→ah.apart X (G1.or (ah.run b o t.size))→bM w0 F0 (r.2.1.bV r.2.2 (.var 0 r.1)) w (bW dL r.2.2 ⟨some (at_ b o),0,ah.run b o t.size⟩) Z X:=fun X hX gh=>nd X (gg X hX fun b o x y=>gh b o x (.inl y)) fun b o x y=>gh b o x (.inr y)
  obtain⟨MP,i3,VK,il⟩:=yM rs x.2 et _ _ _ p G2 H av i2 (fc.move (held.mono fun _ _ _=>trivial) (fun _ _ h=>h) ps hk) (by rw[hdl.2];exact cq)
   (A9 G2 (hF.sub hQ) (fun b o x y=>qm b o y x)) (A9 H cO (fun b o x y=>ha b o (fx b o y) x)) (fun b o x y=>ha b o (hQ b o x) y)
   (fun d hm=>⟨hdl.1 d hm,by have:=(af d hm).2;unfold eO known lf at *;rw[(VJ d.1 (af d hm).1).1];exact this⟩) MO
  refine⟨MP,i3,fun x u hx=>VK x u (held.aG x u hx),?_⟩;simp only[a8];refine⟨_,et,rfl,VK _ _ ?_,il⟩;simp only[aV];refine⟨by show bW r.2.1.o r.2.2 _ r.2.2≠_;rw[cM];simp,_,rfl,rfl,?_⟩;show match (bW r.2.1.o r.2.2 _ r.2.2).core with|.var _ _=>_|.row .. => _|_=>_
  rw[cM];exact⟨rfl,at_ b o,by rw[cM],by simp[at_]⟩
 |.any t::rs,x,dE,s,ι,j,q,F,H,hu,h,hk,hr,hF,cO,ha,af,hv=>by simp only[mc]at hu;obtain⟨p,av,hu⟩:=bb hu;obtain rfl:=aX hu;obtain⟨v,et,rfl,VL,cq⟩:=hr;obtain⟨eU,i2,qn,il⟩:=yM rs x et s ι j p F H av h hk cq hF cO ha af hv;refine⟨eU,i2,qn,?_⟩;simp only[a8];exact⟨_,et,rfl,by simp only[aV];exact VL,il⟩
 |.p8 t::rs,x,dE,s,ι,j,q,F,H,hu,h,hk,hr,hF,cO,ha,af,hv=>by
  simp only[mc]at hu;obtain⟨p,av,hu⟩:=bb hu;obtain rfl:=aX hu;obtain⟨v,et,rfl,ho,cq⟩:=hr;obtain⟨eU,i2,qn,il⟩:=yM rs x.2 et s ι j p F H av h hk cq hF cO ha af hv;refine⟨eU,i2,qn,?_⟩;simp only[a8];refine⟨v,et,rfl,qn _ _ ?_,il⟩;simp only[aV];rcases ho with⟨h1,h2⟩|⟨y,b,o,bK,h1,h2,h3,h4,a6⟩
  ·exact .inl ⟨by rw[h1];rfl,h2⟩
  ·right;rw[h1];refine⟨rfl,fun d hm=>(af d hm).2,b,o,bK,h2,fun _=>?_⟩;have hc:bO w Z s ι (t.cells bu none y) bK:=ad.rr t bu none (fun d hm=>(af d hm).2) (fun _=>h4) ⟨_,_,_,h4⟩ .none;refine⟨hc,h3,fun j hj=>?_⟩;have hl:=(ad.ar.len t _ h4).1;have ei:=hc.len;exact a6 j (by rw[show(I t [y] 0)=y from rfl]at hj;omega)
 |.opt mx off t::rs,x,dE,s,ι,j,q,F,H,hu,h,hk,hr,hF,cO,ha,af,hv=>by
  simp only[mc]at hu;obtain⟨p,av,hu⟩:=bb hu
  cases ej:rl p.2 vs mx off with
  |none=>rw[ej]at hu;simp at hu
  |some id=>
   rw[ej]at hu;simp only at hu;cases ng:rm p.2 t id
   ·rw[ng]at hu;cases hu
   rw[ng]at hu;simp only[cond_true]at hu;obtain rfl:=aX hu;obtain⟨v,et,rfl,ho,cq⟩:=hr;obtain⟨eU,i2,qn,il⟩:=yM rs x.2 et s ι j p F H av h hk cq hF cO ha af hv;refine⟨eU,i2,qn,?_⟩;simp only[a8];refine⟨v,et,rfl,?_,il⟩;unfold rl at ej
   cases n9:vs[mx]? with
   |none=>rw[n9]at ej;simp at ej
   |some mf=>
    rw[n9]at ej
    cases mf with
    |ptr pl=>
     simp only at ej
     cases c_:mX p.2 1 { pl with off:=pl.off+off }with
     |none=>rw[c_]at ej;simp at ej
     |some cs=>
      rw[c_]at ej
      have hcs:cs=[.af id none]:=by
       split at ej
       ·rename_i h;obtain rfl:=aX ej;exact aX h
       ·simp at ej
      subst hcs;obtain⟨u,yN,tH⟩:=hv.get mx n9;have tH:=qn _ _ tH;simp only[aV]at tH;obtain⟨kJ,A,rfl,oe⟩:=tH;obtain⟨b,o,sp⟩:=A;have hsp:=oe.1;simp only at hsp;subst hsp;obtain⟨nZ,e4,ws,hA,hc1,hc2,A3⟩:=AN i2 c_ (j2.plus (b:=b) (o:=o) off oe);simp only[at_,Addr.mk.injEq,and_true]at hA;obtain⟨rfl,rfl⟩:=hA
      match ws,hc1 with
      | [v0],hc1=>
       obtain⟨hk0,A,m,k,rfl,hh⟩:=hc1.1;simp only[aV];refine⟨hk0,?_⟩;rcases ho with⟨h1,h2⟩|⟨h1,o_,e',jw,dS,fw,c1,h2,h3,h4,a6⟩
       ·exact .inl ⟨h1,h2⟩
       ·right;refine⟨h1,_,a6,rfl,?_⟩;rw[yN]at h2;simp only[Option.some.injEq,Value.pointer.injEq,at_,Addr.mk.injEq,and_true]at h2;obtain⟨rfl,rfl⟩:=h2;have:=hc2.head;rw[h3]at this;simp only[Option.some.injEq,Value.slice.injEq]at this;obtain⟨rfl,rfl,rfl⟩:=this;show match (p.2.o id).core with|.var _ _=>_|.row .. => _|_=>_
        unfold rm at ng
        cases b2:p.2.o id with
        |row u em ver xs=>
         rw[b2]at ng;have:=ad.eq_of_beq _ _ ng;subst this;obtain⟨c2,eb,gY,hJ,ij⟩:=hh u em ver xs (mg b2);have c2:fw=xs.length:=c2;rcases ij with ij|⟨a0,n5,n_⟩
         ·omega
         ·simp only[eH,Nat.zero_mul,Nat.add_zero,Option.some.injEq,at_,Addr.mk.injEq,and_true]at n_;refine⟨_,rfl,by omega,a0,n5,?_⟩;simp only[at_,Addr.mk.injEq,and_true];exact⟨n_.1,by omega⟩
        |_=>rw[b2]at ng;cases ng
    |_=>simp at ej
end
end Go.LM
namespace Go.LM
section
variable{P:Program}{Q:Exit→Act→World→Prop}
variable{g:Bool}{w0:World}{F0 Z0:ah}{n:cN}{s au:az}{a b8:Act}{w w' ck:World}{ι bp eU:Nat→bI}{Z Z' bR:ah}
variable{E:Env}{o:Oper}{bC:Type}{K:az→Option bC}{r:bC}{id:Nat}
def EN:List a_→a_
 | [v]=>v
 |l=>.p6 l
theorem Calls.mono{P:Program}{f:FuncId}{args:Array Value}{w:World}{R js:Ending→World→Prop}(h:Calls P f args w R)(fa:∀e w',R e w'→js e w'):Calls P f args w js:=by intro cs;obtain⟨e,w',og,h1,h2⟩:=h cs;exact⟨e,w',og,fa e w' h1,h2⟩
theorem yF.mono{P:Program}{f:FuncId}{args:Array Value}{w:World}{R js:Ending→World→Prop}(h:yF P f args w R)(fa:∀e w',R e w'→js e w'):yF P f args w js:=by
 rcases h with⟨h1,h2⟩|⟨v,w',h1,h2⟩
 ·exact .inl ⟨h1,Calls.mono h2 fa⟩
 ·exact .inr ⟨v,w',h1,fa _ _ h2⟩
def EO(P:Program)(E:Env):Prop:=∀f key e,E.fns f key=some e→iD P f key e
theorem ag5{f:FuncId}{vs:List a_}{us:List Value}{K:a_→az→Option bC}(dg:EO P E)(h:Inv w0 F0 Z0 n s a w ι Z)(hv:a8 w Z s ι vs us)(hk:Lx E id s f vs K=some r):
  ∃(T:a_→az→Prop),(∀v au,T v au→K v au=some r)∧(∃v au,T v au)∧yF P f us.toArray w fun e w'=>∃u,e=.returned u∧∀v au,T v au→∃ bp Z',Inv w0 F0 Z0 n au a w' bp Z'∧aV w' Z' au bp v u:=by
 unfold Lx at hk
 cases hf:E.fns f (p_ vs)with
 |none=>rw[hf]at hk;simp at hk
 |some e=>
  rw[hf]at hk;simp only at hk
  cases hm:gB (p_ vs) s e.ps (vs++me vs) []with
  |none=>rw[hm]at hk;simp at hk
  |some q=>
   obtain⟨x,s1,bu⟩:=q;rw[hm]at hk;simp only at hk;cases dN:(alive s1 bu&&o2 vs)
   ·rw[dN]at hk;simp at hk
   rw[dN]at hk;simp only[Bool.and_eq_true]at dN;obtain⟨dN,MQ⟩:=dN;simp only[cond_true]at hk;obtain⟨y,aR,hk⟩:=bb hk
   cases hu:mc (vs++me vs) e.ps bu e.rs y s1 id with
   |none=>rw[hu]at hk;simp at hk
   |some q=>
    obtain⟨l,s2⟩:=q;rw[hu]at hk;have MR:=dg f _ e hf;have hvc:=hv.append (MN MQ hv);obtain⟨F,H,cI,i1,g1,bF,k1,f1,h1,a1,_,d1,_⟩:=rI e.ps _ _ s Z [] _ hm h hvc (by simp);simp only at i1 g1 bF k1 f1 h1 d1;have cn:=EM dN
    have hcall:=MR.calls w (cI.or (dz ι bu)) F x us y
     (by
      rintro b o (hz|⟨d,af,hf⟩)
      ·exact i1.jt b o hz
      ·exact(i1.own d.1 (cn d af) b o hf).2)
     (fun b o hf=>(f1.own b o hf).2)
     (by
      rintro b o hf (hz|hz)
      ·exact f1.db b o hf hz
      ·exact f1.dz cn b o hf hz) bF aR
    refine⟨fun e9 au=>e9=EN l∧au=s2,?_,⟨_,s2,rfl,rfl⟩,hcall.mono ?_⟩
    ·rintro e9 au ⟨rfl,rfl⟩
     clear hu
     match l,hk with
     | [],hk=>exact hk
     | [_],hk=>exact hk
     |_::_::_,hk=>exact hk
    ·rintro end_ w' ⟨u,rfl,⟨dE,Z',F',rfl,hx,j5,hz2,hf2,A_,il⟩⟩
     refine⟨_,rfl,?_⟩
     rintro e9 au ⟨rfl,rfl⟩
     let S:ah:=fun b o=>Z' b o∧(F b o∨w.heap.size≤b)
     have kp:=i1.Eo f1 hx
     have VM:∀(X:ah),(∀b o,X b o→(F b o∨w.heap.size≤b)∧b<w'.heap.size)→bM w0 F0 s1 w' ι cI X:=by
      intro X hX;have hsz:=i1.ext.size;refine⟨fun b o hb=>⟨?_,(hX b o hb).2⟩,fun id hl b o hb hi=>?_,fun b o hb hz=>?_⟩
      ·rcases (hX b o hb).1 with hf|hf
       ·exact(f1.own b o hf).1
       ·exact .inr (by omega)
      ·rcases (hX b o hb).1 with hf|hf
       ·exact f1.apart id hl b o hf hi
       ·have:=(i1.own id hl b o hi).2;omega
      ·rcases (hX b o hb).1 with hf|hf
       ·exact f1.db b o hf hz
       ·have:=i1.jt b o hz;omega
     have Mq:bM w0 F0 s1 w' ι cI S:=VM S (by
      rintro b o ⟨hz,hf⟩
      refine⟨hf,?_⟩;rcases hz2 b o hz with h1|h1
      ·have hsz:=hx.size;rcases h1 with h1|⟨d,af,h1⟩
       ·have:=i1.jt b o h1;omega
       ·have:=(i1.own d.1 (cn d af) b o h1).2;omega
      ·exact h1.2)
     have fe:=kp.freeze Mq;have MS:bM w0 F0 s1 w' ι (cI.or S) F':=(VM F' hf2).freeze (fun b o hb hs=>A_ b o hb hs.1)
     have cO:bM w0 F0 s1 w' ι (cI.or S) H:=(h1.ext hx).freeze (by
      rintro b o hb ⟨_,hf|hf⟩
      ·exact a1 b o hf hb
      ·have:=(h1.own b o hb).2;omega)
     have VN:ah.apart cI F:=fun b o hz hf=>f1.db b o hf hz
     have tD:e5 w cI s1 ι w' (cI.or S) s1 ι :=by
      refine⟨fun id=>.stay _ _,fun _ _ h=>.inl h,ch.jv hx i1.tr ?_⟩
      rintro b o (hz|⟨id,hl,_,_,hf⟩) hs
      ·exact VN b o hz hs
      ·exact f1.apart id hl b o hs hf
     have yL:g' false w cI s1 ι w' (cI.or S) s1 ι H:=
      ⟨fun _ _=>aV.move tD,fun _ _=>cz.move tD,tD.dU,fun _ _ _ h=>⟨h,rfl⟩,fun h=>by simp at h,ch.jv hx (fun b o hb=>(h1.own b o hb).2) (fun b o hb hf=>a1 b o hf hb),ch.jv hx i1.jt VN,fun b o hw=>hx.rh hw,fun z b o hw=>hx.ld hw⟩
     have hvs1:a8 w' (cI.or S) s1 ι (vs++me vs) (us++gA us):=a8.move tD (a8.move g1.eI hvc)
     obtain⟨eU,i2,_,cT⟩:=yM e.rs y dE s1 ι id (l,au) F' H hu fe (fc.move yL (fun _ _ h=>h) e.ps k1.nf) (iK.mono (by
      intro b o hz;by_cases hc:(F b o∨w.heap.size≤b)
      ·exact .inl (.inr ⟨hz,hc⟩)
      ·rcases hz2 b o hz with h1|h1
       ·rcases h1 with h1|h1
        ·exact .inl (.inl h1)
        ·exact .inr h1
       ·exact absurd h1.1 hc) e.rs (fun _ _ h=>h) il) MS cO (by
      intro b o hb hh;rcases (hf2 b o hb).1 with hf|hf
      ·exact a1 b o hf hh
      ·have:=(h1.own b o hh).2;omega) (fun d af=>⟨cn d af,d1 d af⟩) hvs1
     refine⟨eU,_,i2,?_⟩;show aV w' _ au eU (EN l) (pe dE);simp only at cT;clear hk hu
     match l,cT with
     | [],cT=>simp only[a8]at cT;subst cT;simp only[EN,aV,pe];exact⟨[],rfl,by simp only[a8]⟩
     | [v0],cT=>simp only[a8]at cT;obtain⟨lk,yr,rfl,h0,rfl⟩:=cT;exact h0
     |v0::v1::l,cT=>have yO:=cT;simp only[a8]at cT;obtain⟨lk,yr,rfl,h0,nW,us1,rfl,h1,h2⟩:=cT;simp only[EN,aV,pe];exact⟨_,rfl,yO⟩
theorem VO{m:Nat}{n:Int}{k:Nat}(hx:ix m n=some k):0≤n∧k=n.toNat:=by
 unfold ix at hx;by_cases hc:0≤n∧n<(m:Int)
 ·rw[if_pos hc]at hx;exact⟨hc.1,(aX hx).symm⟩
 ·rw[if_neg hc]at hx;cases hx
theorem EP{bC:Type}{r:bC}:∀{vs:List a_}{us:List Value}{K:List a_→Option bC},tg s vs K=some r→a8 w Z s ι vs us→∃bK,K bK=some r∧a8 w Z s ι bK us
 | [],us,K,hk,hv=>⟨[],hk,hv⟩
 |v::l,us,K,hk,hv=>by
  simp only[a8]at hv;obtain⟨u,aY,rfl,h1,h2⟩:=hv;have keep:(tg s l fun l'=>K (v::l'))=some r→∃bK,K bK=some r∧a8 w Z s ι bK (u::aY):=fun hk=>by obtain⟨l',k1,k2⟩:=EP (K:=fun l'=>K (v::l')) hk h2;exact⟨v::l',k1,by simp only[a8];exact⟨u,aY,rfl,h1,k2⟩⟩
  cases v with
  |opt i n=>
   simp only[tg]at hk;obtain⟨k,hx,hk⟩:=bb hk;obtain⟨l',k1,k2⟩:=EP (K:=fun l'=>K (.ptr ⟨i,some k,0⟩::l')) hk h2;refine⟨_,k1,?_⟩;simp only[a8];refine⟨u,aY,rfl,?_,k2⟩;simp only[aV]at h1⊢;obtain⟨h0,rfl⟩:=VO hx;obtain⟨kJ,⟨h3,_⟩|⟨h3,yP,rfl,h4⟩⟩:=h1
   ·omega
   ·exact⟨kJ,yP,rfl,h4⟩
  |may b dp cs=>
   simp only[tg]at hk;cases b
   ·cases hk
   obtain⟨l',k1,k2⟩:=EP (K:=fun l'=>K (.dA dp cs 0::l')) hk h2;refine⟨_,k1,?_⟩;simp only[a8];refine⟨u,aY,rfl,?_,k2⟩;simp only[aV]at h1⊢;rcases h1 with⟨h1,_⟩|⟨_,h1⟩
   ·cases h1
   ·exact h1
  |_=>exact keep hk
theorem ag6{f:FuncId}{vs:List a_}{us:List Value}{K:a_→az→Option bC}(dg:EO P E)(h:Inv w0 F0 Z0 n s a w ι Z)(hv:a8 w Z s ι vs us)(hk:Ly E id s f vs K=some r):
  ∃(T:a_→az→Prop),(∀v au,T v au→K v au=some r)∧(∃v au,T v au)∧yF P f us.toArray w fun e w'=>∃u,e=.returned u∧∀v au,T v au→∃ bp Z',Inv w0 F0 Z0 n au a w' bp Z'∧aV w' Z' au bp v u:=by
 unfold Ly at hk;obtain⟨bK,dy,mh⟩:=EP hk hv;exact ag5 dg h mh dy
theorem ag7{c:Call}{cg:Operand}(dg:EO P E)(h:Inv w0 F0 Z0 n s a w ι Z)(af:∀k,o.dst=some k→k<n)(ho:o.op=.call c)(hc:c.callee=.value cg)(hk:c0 E id o s K=some r):
  ∃au,K au=some r∧o.wp P a w (c6 w0 F0 Z0 n au) Q:=by
 unfold c0 at hk;rw[ho]at hk;simp only[hc]at hk;have hvs:=vC h c.args.toList;have hf:=fk h cg
 cases ER:bZ s cg with
 |fn MT first ma=>
  rw[ER]at hk hf;simp only at hk;simp only[aV]at hf;obtain⟨cF,cs,MU,lM,hcs⟩:=hf;have MV:a8 w Z s ι (first++c.args.toList.map (bZ s)++ma) (cF++c.args.toList.map a.eval++cs):=(lM.append hvs).append hcs;obtain⟨T,ag8,⟨v,au,b5⟩,yQ⟩:=ag6 dg h MV hk;refine⟨_,ag8 v au b5,?_⟩;unfold Oper.wp;have hrun:(execOp a.eval o).run P w=(callFunc MT (cF++c.args.toList.map a.eval++cs).toArray).run P w:=by unfold execOp;rw[ho];simp only[run_bind,resolve,hc,MU,Deferred.ofValue,run_pure,invoke];congr 2;apply Array.ext';simp
  rw[hrun];rcases yQ with⟨⟨fn,A',MW,jG⟩,yQ⟩|⟨u,w',vL,hd,AW,hu⟩
  ·have MX:(callFunc MT (cF++c.args.toList.map a.eval++cs).toArray).run P w=.ok (.enter MT (cF++c.args.toList.map a.eval++cs).toArray) w:=by
    simp only[callFunc,run_bind,run_pure,program,Sem.run,A'];rw[if_neg (by rw[jG];simp),if_neg (by rw[MW];simp)];simp only[run_pure]
   rw[MX,Oper.upon_enter];refine yQ.mono ?_
   rintro e w' ⟨u,rfl,hu⟩
   obtain⟨bp,Z',hinv,cT⟩:=hu v au b5;exact⟨bp,Z',hinv.dst cT af⟩
  ·rw[vL,Oper.upon_value];cases AW;obtain⟨bp,Z',hinv,cT⟩:=hu v au b5;exact⟨bp,Z',hinv.dst cT af⟩
 |_=>rw[ER]at hk;simp at hk
structure kq(P:Program)(E:Env):Prop where
 ty:hL P E
 eq:UX P E
 fns:EO P E
 mix:P.follows .mixedOrders=true
theorem ag9(bS:kq P E)(h:Inv w0 F0 Z0 n s a w ι Z)(af:∀k,o.dst=some k→k<n)(hk:c0 E id o s K=some r):
  ∃au,K au=some r∧o.wp P a w (c6 w0 F0 Z0 n au) Q:=by
 have fE:(∃au,K au=some r∧Pure P o a w (c6 w0 F0 Z0 n au))→∃au,K au=some r∧o.wp P a w (c6 w0 F0 Z0 n au) Q:=fun⟨au,h1,h2⟩=>⟨au,h1,h2.wp⟩
 cases ho:o.op with
 |move x=>exact fE (Ei h af (.inl ho) hk)
 |assign x=>exact fE (Ei h af (.inr ho) hk)
 |pick c x y=>exact fE (UE h af ho hk)
 |alloc t=>exact afY bS.ty h af ho hk
 |box t x=>exact afZ bS.ty h af ho hk
 |build t ps=>exact fE (Vd bS.ty h af ho hk)
 |buildSlice t m ps=>exact agp bS.ty h af ho hk
 |load t x=>exact af0 bS.ty h af ho hk
 |store t x y=>exact af2 bS.ty h af ho hk
 |nilCheck x=>exact fE (UG h af ho hk)
 |binOp op t x y Em=>exact fE (UZ bS.ty bS.eq h af ho hk)
 |unOp op t x=>exact fE (UW h af ho hk)
 |convert st gH x=>exact age bS.ty h af ho hk
 |makeFunc f first ma=>
  cases f with
  |func f=>exact fE (UL h af ho hk)
  |_=>unfold c0 at hk;rw[ho]at hk;simp at hk
 |makeSlice t x y=>exact aga bS.ty h af ho hk
 |slice t x lo hi fQ=>exact fE (UR bS.ty h af ho hk)
 |fieldAddr t x f=>exact fE (UI bS.ty h af ho hk)
 |field t x f=>exact fE (UJ bS.ty h af ho hk)
 |indexAddr t x i=>exact fE (UM bS.ty h af ho hk)
 |index t x i=>exact fE (UN bS.ty h af ho hk)
 |extract x i=>exact fE (UK h af ho hk)
 |call c=>
  cases hc:c.callee with
  |builtin b=>
   by_cases hb:b=.append
   ·subst hb;exact agB bS.ty h af ho hc hk
   ·by_cases hb2:b=.clear
    ·subst hb2;exact agJ bS.ty h af ho hc hk
    ·exact fE (U9 bS.ty h af ho hc hb hb2 hk)
  |value f=>exact ag7 bS.fns h af ho hc hk
  |invoke x m=>unfold c0 at hk;rw[ho]at hk;simp[hc]at hk
 |_=>unfold c0 at hk;rw[ho]at hk;simp at hk
end
end Go.LM
namespace Go.LM
mutual
theorem ad.beq_refl:∀t:ad,ad.beq t t=true
 |.int k=>by simp[ad.beq]
 |.bool=>rfl
 |.str=>rfl
 |.raw=>rfl
 |.sl t=>by simp only[ad.beq];exact ad.beq_refl t
 |.st ak=>by simp only[ad.beq];exact aA.beq_refl ak
theorem aA.beq_refl:∀t:aA,aA.beq t t=true
 |.nil=>rfl
 |.cons t ak=>by simp only[aA.beq,ad.beq_refl t,aA.beq_refl ak,cond_true]
end
theorem ag_(a:ad)(x:a.D):eY a a x=some x:=by unfold eY;rw[dif_pos (ad.beq_refl a)]
section
variable{w ck:World}{Z bR:ah}
def VP(w:World)(Z:ah)(t:ad)(z:List t.D)(v:Value)(H1 G1:ah)(R:World→ah→List t.D→Value→ah→Prop):Prop:=
 (ad.sl t).ar w Z (.O t.own) z [v] H1∧ah.apart H1 G1∧∀(ck:World) (bR X:ah) (y:List t.D) (u:Value),ch w ck G1→(ad.sl t).ar ck bR (.O t.own) y [u] X→ah.apart X G1→R ck bR y u (X.or G1)
mutual
theorem ad.vM:∀(T:ad) (off:Nat) (t:ad) {x:T.D}{z:List t.D}{us:List Value}{G:ah},T.ar w Z T.own x us G→T.getAt off t x=some z →
  ∃v H1 G1,us[off]?=some v∧ah.sub H1 G∧ah.sub G1 G∧VP w Z t z v H1 G1 (fun ck bR y u e6=>∀bA,T.setAt off t y x=some bA→T.ar ck bR T.own bA (us.set off u) e6)
 |.int _,_,_,_,_,_,_,_,h=>by simp[ad.getAt]at h
 |.bool,_,_,_,_,_,_,_,h=>by simp[ad.getAt]at h
 |.str,_,_,_,_,_,_,_,h=>by simp[ad.getAt]at h
 |.raw,_,_,_,_,_,_,_,h=>by simp[ad.getAt]at h
 |.sl u,off,t,x,z,us,G,hr,h=>by
  simp only[ad.getAt]at h;cases hb:Nat.beq off 0
  ·rw[hb]at h;cases h
  rw[hb]at h;obtain rfl:=Nat.eq_of_beq_eq_true hb;obtain⟨e,rfl⟩:=hK h;subst e;have iX:=hr;simp only[ad.own,ad.ar]at hr;obtain⟨A,c,rfl,_⟩:=hr;refine⟨_,G,ah.none,rfl,fun _ _ h=>h,fun _ _ h=>h.elim,iX,fun _ _ _ h=>h.elim,fun ck bR X y lk _ h2 _ bA hs=>?_⟩;simp only[ad.setAt]at hs;obtain⟨e,rfl⟩:=hK (show eY (.sl u) (.sl u) y=some bA from hs);exact ad.ar.mono (fun _ _ h=>h) _ _ (fun _ _ h=>.inl h) h2
 |.st ak,off,t,x,z,us,G,hr,h=>by
  have iJ:ak.flat=false:=by
   cases hf:ak.flat
   ·rfl
   ·exact(ad.yD (.st ak) (by simpa only[ad.flat]using hf) h).elim
  simp only[ad.own,iJ,Bool.false_eq_true,if_false,ad.ar,bg.parts]at hr;simp only[ad.getAt]at h;obtain⟨v,H1,G1,h1,h2,h3,h4,a6,bj⟩:=aA.vM ak off t hr h;refine⟨v,H1,G1,h1,h2,h3,h4,a6,fun ck bR X y lk k1 k2 k3 bA hs=>?_⟩;simp only[ad.setAt]at hs;simp only[ad.own,iJ,Bool.false_eq_true,if_false,ad.ar,bg.parts];exact bj ck bR X y lk k1 k2 k3 bA hs
theorem aA.vM:∀(ak:aA) (off:Nat) (t:ad) {x:ak.D}{z:List t.D}{us:List Value}{G:ah},ak.ar w Z ak.own x us G→ak.getAt off t x=some z →
  ∃v H1 G1,us[off]?=some v∧ah.sub H1 G∧ah.sub G1 G∧VP w Z t z v H1 G1 (fun ck bR y u e6=>∀bA,ak.setAt off t y x=some bA→ak.ar ck bR ak.own bA (us.set off u) e6)
 |.nil,_,_,_,_,_,_,_,h=>by simp[aA.getAt]at h
 |.cons T ak,off,t,x,z,us,G,hr,h=>by
  simp only[aA.own,aA.ar,c5.af,c5.dK]at hr;obtain⟨nW,jD,n',oa,rfl,bF,cq,hap,ha,hb⟩:=hr;have hl:=(ad.ar.len T _ bF).1;simp only[aA.getAt]at h;cases bQ:Nat.blt off T.size
  ·rw[bQ]at h
   have yE:T.size≤off:=by
    rcases Nat.lt_or_ge off T.size with h1|h1
    ·have:Nat.blt off T.size=true:=Nat.ble_eq_true_of_le h1;rw[this]at bQ;cases bQ
    ·exact h1
   obtain⟨v,H1,G1,h1,h2,h3,h4,a6,bj⟩:=aA.vM ak (off-T.size) t cq h;refine⟨v,H1,n'.or G1,?_,fun b o x=>hb b o (h2 b o x),?_,h4,?_,fun ck bR X y lk k1 k2 k3 bA hs=>?_⟩
   ·rw[List.getElem?_append_right (by omega),hl];exact h1
   ·rintro b o (y|y)
    ·exact ha b o y
    ·exact hb b o (h3 b o y)
   ·rintro b o y (q|q)
    ·exact hap b o q (h2 b o y)
    ·exact a6 b o y q
   ·simp only[aA.setAt,bQ,cond_false]at hs;obtain⟨hP,hz,hs⟩:=bb hs;obtain rfl:=aX hs;simp only[aA.own,aA.ar,c5.af,c5.dK];refine⟨nW,jD.set (off-T.size) lk,n',X.or G1,by rw[List.set_append_right _ _ (by omega),hl],rF T (k1.mono fun _ _ h=>.inl h) bF,bj ck bR X y lk (k1.mono fun _ _ h=>.inr h) k2 (fun b o p q=>k3 b o p (.inr q)) hP hz,?_,fun _ _ h=>.inr (.inl h),?_⟩
    ·rintro b o p (q|q)
     ·exact k3 b o q (.inl p)
     ·exact hap b o p (h3 b o q)
    ·rintro b o (q|q)
     ·exact .inl q
     ·exact .inr (.inr q)
  ·rw[bQ]at h;have yE:off<T.size:=Nat.le_of_ble_eq_true bQ;obtain⟨v,H1,G1,h1,h2,h3,h4,a6,bj⟩:=ad.vM T off t bF h;refine⟨v,H1,G1.or oa,?_,fun b o x=>ha b o (h2 b o x),?_,h4,?_,fun ck bR X y lk k1 k2 k3 bA hs=>?_⟩
   ·rw[List.getElem?_append_left (by omega)];exact h1
   ·rintro b o (y|y)
    ·exact ha b o (h3 b o y)
    ·exact hb b o y
   ·rintro b o y (q|q)
    ·exact a6 b o y q
    ·exact hap b o (h2 b o y) q
   ·simp only[aA.setAt,bQ,cond_true]at hs;obtain⟨hP,hz,hs⟩:=bb hs;obtain rfl:=aX hs;simp only[aA.own,aA.ar,c5.af,c5.dK];refine⟨nW.set off lk,jD,X.or G1,oa,by rw[List.set_append_left _ _ (by omega)],bj ck bR X y lk (k1.mono fun _ _ h=>.inl h) k2 (fun b o p q=>k3 b o p (.inl q)) hP hz,Vu ak (k1.mono fun _ _ h=>.inr h) cq,?_,?_,fun _ _ h=>.inr (.inr h)⟩
    ·rintro b o (p|p) q
     ·exact k3 b o p (.inr q)
     ·exact hap b o (h3 b o p) q
    ·rintro b o (q|q)
     ·exact .inl q
     ·exact .inr (.inl q)
end
theorem nT.vM{T:ad}{ys:List T.D}{a:Addr}{c:Nat}{F:ah}{i off:Nat}{t:ad}{z:List t.D}(h:nT w (T.ar w Z T.own) T.size ys a c F)(hi:i<ys.length)(aB:T.getAt off t (I T ys i)=some z):
  ∃v H1,w.cell? (at_ a.block (a.off+i*T.size+off))=some v∧(ad.sl t).ar w Z (.O t.own) z [v] H1∧ah.sub H1 F∧ah.diff F H1 a.block (a.off+i*T.size+off)∧gm w T.size a.block (a.off+i*T.size+off) ∧
   ∀(ck:World) (bR X:ah) (y:List t.D) (bA:T.D) (u:Value),ch w ck (fun b o=>ah.diff F H1 b o∧¬(b=a.block∧o=a.off+i*T.size+off))→ck.cell? (at_ a.block (a.off+i*T.size+off))=some u →
    gm ck T.size a.block (a.off+i*T.size+off)→(ad.sl t).ar ck bR (.O t.own) y [u] X→ah.apart X (ah.diff F H1)→T.setAt off t y (I T ys i)=some bA →
    nT ck (T.ar ck bR T.own) T.size (ys.set i bA) a c (X.or (ah.diff F H1)):=by
 rw[c3 hi]at aB⊢;obtain⟨G,g1,g2,g3⟩:=h.row;obtain⟨n',jC,oa,vs,bF,Mv,hvl,cE,cq,a1,a2,a3,s1,s2,s3⟩:=g1.Ey i hi;obtain⟨v,H1,G1,hv,k1,k2,k3,bn,bs⟩:=ad.vM T off t Mv aB;have AX:ah.sub H1 G:=fun b o x=>s2 b o (k1 b o x)
 have hle:ys.length*T.size≤c*T.size:=Nat.mul_le_mul_right _ h.cap;have m7:(i+1)*T.size≤ys.length*T.size:=Nat.mul_le_mul_right _ hi;rw[Nat.add_one_mul]at m7
 have fW:off<T.size:=by
  rcases Nat.lt_or_ge off T.size with h1|h1
  ·exact h1
  ·rw[List.getElem?_eq_none (by omega)]at hv;cases hv
 have vE:∀{A:ah},ah.sub A G→ah.apart A H1→ah.sub A (ah.diff F H1):=fun hA av b o x=>⟨g3 b o (hA b o x),fun y=>av b o x y⟩
 have vF:ah.sub n' (ah.diff F H1):=vE s1 fun b o x y=>a1 b o x (k1 b o y)
 have vG:ah.sub oa (ah.diff F H1):=vE s3 fun b o x y=>a3 b o (k1 b o y) x
 have d1:ah.sub G1 (ah.diff F H1):=vE (fun b o x=>s2 b o (k2 b o x)) fun b o x y=>bn b o y x
 have qi:∀j,j<c*T.size→ah.diff F H1 a.block (a.off+j):=fun j hj=>⟨h.inF j hj,fun y=>g2 j hj (AX _ _ y)⟩
 have hspot:i*T.size+off<c*T.size:=by omega
 have bT:∀{A:ah},ah.sub A G→∀b o,A b o→¬(b=a.block∧o=a.off+i*T.size+off):=by
  rintro A hA b o x ⟨rfl,rfl⟩
  have:=g2 (i*T.size+off) hspot;rw[←Nat.add_assoc]at this;exact this (hA _ _ x)
 refine⟨v,H1,cE off v hv,k3,fun b o x=>g3 b o (AX b o x),by have:=qi _ hspot;rwa[←Nat.add_assoc]at this,by have:=h.wr _ hspot;rwa[←Nat.add_assoc]at this,fun ck bR X y bA u hs hu hwr hr hap Mw=>?_⟩;have ag':ch w ck n':=fun b o x=>hs b o ⟨vF b o x,bT s1 b o x⟩
 have j6:ch w ck oa:=fun b o x=>hs b o ⟨vG b o x,bT s3 b o x⟩
 have aha:ch w ck G1:=fun b o x=>hs b o ⟨d1 b o x,bT (fun b o x=>s2 b o (k2 b o x)) b o x⟩
 have hcell:∀j,j<c*T.size→j≠i*T.size+off→ck.cell? (at_ a.block (a.off+j))=w.cell? (at_ a.block (a.off+j)):=fun j hj hne=>(hs _ _ ⟨qi j hj,fun h=>hne (by omega)⟩).1
 have hw2:∀j,j<c*T.size→gm ck T.size a.block (a.off+j):=by
  intro j hj;by_cases hne:j=i*T.size+off
  ·subst hne;rwa[Nat.add_assoc]at hwr
  ·exact hs.ld ⟨qi j hj,fun h=>hne (by omega)⟩ (h.wr j hj)
 have fO:=bs ck bR X y u aha hr (fun b o p q=>hap b o p (d1 b o q)) bA Mw;refine⟨h.spot,by simpa using h.cap,hw2,fun j hj=>.inr (qi j hj),n'.or ((X.or G1).or oa),?_,?_,?_⟩
 ·refine Row.Ez i hi (bF.imp (fun y us dB hG hr=>rF T (ag'.mono fun b o p=>hG b o p) hr) fun j hj=>hcell j ?_ ?_) fO (by simpa using hvl) ?_ (cq.imp (fun y us dB hG hr=>rF T (j6.mono fun b o p=>hG b o p) hr) fun j hj=>?_) ?_ a2 ?_
  ·simp only[List.length_take]at hj;have:min i ys.length*T.size≤ys.length*T.size:=Nat.mul_le_mul_right _ (Nat.min_le_right _ _);omega
  ·simp only[List.length_take]at hj;have:min i ys.length*T.size≤i*T.size:=Nat.mul_le_mul_right _ (Nat.min_le_left _ _);omega
  ·intro k q hk;by_cases ahb:k=off
   ·subst ahb;rw[List.getElem?_set_self (by omega)]at hk;rw[←aX hk];exact hu
   ·rw[List.getElem?_set_ne (by omega)]at hk
    have iU:k<vs.length:=by
     rcases Nat.lt_or_ge k vs.length with h1|h1
     ·exact h1
     ·rw[List.getElem?_eq_none h1]at hk;cases hk
    have:=hcell (i*T.size+k) (by omega) (by omega);rw[←Nat.add_assoc]at this;rw[this];exact cE k q hk
  ·simp only[List.length_drop]at hj;have e1:(ys.length-(i+1))*T.size=ys.length*T.size-(i*T.size+T.size):=by rw[Nat.sub_mul,Nat.add_one_mul]
   rw[e1]at hj;have:=hcell ((i+1)*T.size+j) (by rw[Nat.add_one_mul];omega) (by rw[Nat.add_one_mul];omega);rwa[←Nat.add_assoc]at this
  ·rintro b o p (q|q)
   ·exact hap b o q (vF b o p)
   ·exact a1 b o p (k2 b o q)
  ·rintro b o (p|p) q
   ·exact hap b o p (vG b o q)
   ·exact a3 b o (k2 b o p) q
 ·rintro j hj (p|(p|p)|p)
  ·exact g2 j hj (s1 _ _ p)
  ·exact hap _ _ p (qi j hj)
  ·exact g2 j hj (s2 _ _ (k2 _ _ p))
  ·exact g2 j hj (s3 _ _ p)
 ·rintro b o (p|(p|p)|p)
  ·exact .inr (vF b o p)
  ·exact .inl p
  ·exact .inr (d1 b o p)
  ·exact .inr (vG b o p)
end
section
variable{P:Program}{Q:Exit→Act→World→Prop}
variable{w0:World}{F0 Z0:ah}{n:cN}{s au:az}{a b8:Act}{w w':World}{ι bp:Nat→bI}{Z Z':ah}
variable{E:Env}{bC:Type}{r:bC}
theorem MY(a:Act){d:Nat}(v:Value)(af:d<a.tmps.size):(a.put (some d) v).eval (.tmp d)=v:=by show(a.tmps.setIfInBounds d v).getD d undef=v;rw[LQ _ _ _ _ af,if_pos rfl]
theorem Ba(a:Act){d k:Nat}(v:Value)(af:d<a.tmps.size)(hk:d≠k):(a.put (some d) v).eval (.tmp k)=a.eval (.tmp k):=by show(a.tmps.setIfInBounds d v).getD k undef=a.tmps.getD k undef;rw[LQ _ _ _ _ af,if_neg hk]
theorem VQ(a:Act)(d:Nat)(v:Value):(a.put (some d) v).tmps.size=a.tmps.size:=by show(a.tmps.setIfInBounds d v).size=_;simp
theorem VR{u t:ad}{dp:List (Nat×Nat)}{p:Place}{xs:List u.D}{v:Value}{nh:List t.D}{s0:az}(h:Inv w0 F0 Z0 n s a w ι Z)(hc:cz w Z s ι (.bG u dp (some p) xs) v)
  (hl:vm t t.own s dp (some p)=some (nh,s0)):
  ∃(i:Nat) (T:ad) (ver:Nat) (ys:List T.D) (cV ed:Nat) (H1:ah),p.fO=some i∧s.o p.id=.row T T.own ver ys∧s0=s.bV p.id (.cr (.row T T.own ver ys))∧i<ys.length∧(ι p.id).base=some (at_ cV ed) ∧
   Inv w0 F0 Z0 n s0 a w ι Z∧fX s ι Z s0 Z∧bM w0 F0 s0 w ι Z H1∧bM w0 F0 s0 w ι Z (ah.diff (ι p.id).F H1)∧(ad.sl t).ar w Z (.O t.own) nh [v] H1∧ah.sub H1 (ι p.id).F ∧
   ah.diff (ι p.id).F H1 cV (ed+i*T.size+p.off)∧gm w T.size cV (ed+i*T.size+p.off) ∧
   ∀(ck:World) (bR X:ah) (y:List t.D) (bA:T.D) (q:Value),ch w ck (fun b o=>ah.diff (ι p.id).F H1 b o∧¬(b=cV∧o=ed+i*T.size+p.off))→ck.cell? (at_ cV (ed+i*T.size+p.off))=some q →
    gm ck T.size cV (ed+i*T.size+p.off)→(ad.sl t).ar ck bR (.O t.own) y [q] X→ah.apart X (ah.diff (ι p.id).F H1)→T.setAt p.off t y (I T ys i)=some bA →
    nT ck (T.ar ck bR T.own) T.size (ys.set i bA) (at_ cV ed) (ι p.id).cap (X.or (ah.diff (ι p.id).F H1)):=by
 simp only[vm]at hl
 cases fl:p.fO with
 |none=>rw[fl]at hl;simp at hl
 |some i=>
  rw[fl]at hl
  cases ho:s.o p.id with
  |row T em ver ys=>
   rw[ho]at hl;simp only at hl;cases hb:(alive s dp&&bg.beq em T.own&&bg.beq t.own t.own)
   ·rw[hb]at hl;simp at hl
   rw[hb]at hl;simp only[cond_true]at hl;simp only[Bool.and_eq_true]at hb;obtain rfl:=bg.eq_of_beq _ _ hb.1.2;obtain⟨x,hx,hl⟩:=bb hl;simp only[Option.some.injEq,Prod.mk.injEq]at hl;obtain⟨rfl,rfl⟩:=hl;obtain⟨_,_,_,lP⟩:=hc;obtain⟨_,lP⟩:=lP _ rfl;obtain⟨jw,dS,⟨_,gx⟩,hcell,hin⟩:=lP hb.1.1;simp only[ho,cD.core]at gx;obtain⟨er,hii,lQ,a0,eW,n5⟩:=gx;rw[fl]at hii;obtain rfl:=aX hii;have cn:(s.o p.id).live:=by rw[ho];trivial
   have aB:fX s ι Z (s.bV p.id (.cr (.row T T.own ver ys))) Z:=by have:=AY (s:=s) (ι :=ι) (Z:=Z) cn;rw[ho]at this;exact this
   have fD:bM w0 F0 (s.bV p.id (.cr (.row T T.own ver ys))) w ι Z (ι p.id).F:=by have:=h.AZ cn;rw[ho]at this;exact this
   have c9:=h.gp p.id;rw[ho]at c9;rcases c9 with⟨hx0,_⟩|⟨a1,hb1,hr⟩
   ·rw[hx0]at lQ;simp at lQ
   rw[eW]at hb1;obtain rfl:=aX hb1;obtain⟨ab,ao,sp⟩:=a0;have hsp:=hr.spot;simp only at hsp;subst hsp;obtain⟨e9,H1,dI,eP,o9,ahc,ahd,qe⟩:=hr.vM lQ hx;rw[←n5]at dI;have MA:e9=v:=by rw[hcell]at dI;exact(aX dI).symm
   subst MA;exact⟨i,T,ver,ys,ab,ao,H1,rfl,rfl,rfl,lQ,eW,h.m9 aB,aB,fD.sub o9,fD.sub fun _ _ h=>h.1,eP,o9,ahc,ahd,qe⟩
  |_=>rw[ho]at hl;simp at hl
theorem ahe{v:a_}{K:Place→Option bC}(hk:LD s v K=some r):∃kl,K kl=some r∧∀{w':World}{Z':ah}{au:az}{bp:Nat→bI}{x:Value},aV w' Z' au bp v x→∃A,x=.pointer (some A)∧j2 au bp kl A:=by
 unfold LD at hk;cases v<;>simp only at hk<;>try (cases hk;done)
 ·exact⟨_,hk,fun hv=>by simp only[aV]at hv;exact hv.2⟩
 ·obtain⟨k,h1,hk⟩:=bb hk;obtain⟨h2,rfl⟩:=VO h1;refine⟨_,hk,fun hv=>?_⟩;simp only[aV]at hv;rcases hv.2 with⟨h3,_⟩|⟨_,h3⟩
  ·omega
  ·exact h3
theorem ahf{dS:Oper}{T:ad}{k1 d0 i ver cV ed:Nat}{p kl:Place}{ys:List T.D}{hv:Value}{s1:az}(ni:dS.op=.nilCheck (.tmp k1))(gY:k1≠d0)(jH:d0<n.n)(tI:kl.id=p.id)(ES:kl.fO=some i)(tJ:Inv w0 F0 Z0 n s1 a w' ι Z)
  (MZ:∀{w':World}{Z':ah}{au:az}{bp:Nat→bI}{x:Value},aV w' Z' au bp (s1.t k1) x→∃A,x=.pointer (some A)∧j2 au bp kl A)
  (qo:s1.o p.id=.cr (.row T T.own ver ys)) (eW:(ι p.id).base=some (at_ cV ed)):(execOp (a.put (some d0) hv).eval dS).run P w'=.ok (.value (.pointer (some (at_ cV (ed+i*T.size+kl.off))))) w':=by
 obtain⟨auN,ahg,hsp,oe⟩:=MZ (tJ.tmps k1);rw[tI,qo]at oe;simp only[cD.core]at oe;obtain⟨er,hii,_,a0,gG,M0⟩:=oe;rw[hii]at ES;obtain rfl:=aX ES;rw[eW]at gG;obtain rfl:=aX gG;subst M0;have:(a.put (some d0) hv).eval (.tmp k1)=.pointer (some (at_ cV (ed+er*T.size+kl.off))):=by rw[Ba _ _ (by rw[tJ.size];exact jH) (Ne.symm gY)];exact ahg
 unfold execOp;rw[ni];simp only[this];rfl
theorem VS{dS e4 e':Oper}{ak:aA}{t T u:ad}{d0 d1 d2 nU nV o3 k i ver cV ed:Nat}{p:Place}{po:Nat}{ys:List T.D}{y:List t.D}{hv:Value}{G qp:ah}{s1 ET:az}{A:Option Addr}{yR ahh:Nat}{K:az→Option bC}(bS:kq P E)
  (kK:e4.op=.fieldAddr nU (.tmp d1) o3) (rJ:e'.op=.store nV (.tmp d2) (.tmp d0)) (gE:dS.dst=some d1) (i_:e4.dst=some d2) (pf:e'.dst=none)
  (hJ:d0≠d1) (ij:d0≠d2) (jH:d0<n.n) (nj:d1<n.n) (nk:d2<n.n) (vN:E.ty nU=some (.st ak)) (vO:E.ty nV=some (.sl t)) (fW:ak.off o3=some (k,u)) (hz:u.size≠0)
  (nm:po+k=p.off) (fl:p.fO=some i) (lQ:i<ys.length) (tJ:Inv w0 F0 Z0 n s1 a w' ι Z)
  (M1:(execOp (a.put (some d0) hv).eval dS).run P w'=.ok (.value (.pointer (some (at_ cV (ed+i*T.size+po))))) w')
  (qo:s1.o p.id=.cr (.row T T.own ver ys)) (eW:(ι p.id).base=some (at_ cV ed)) (qq:hv=.slice A ahh yR) (cT:(ad.sl t).ar w' Z (.O t.own) y [hv] G)
  (qs:bM w0 F0 s1 w' ι Z G) (my:bM w0 F0 s1 w' ι Z qp) (yS:ah.apart G qp) (yT:qp cV (ed+i*T.size+p.off)) (EU:gm w' T.size cV (ed+i*T.size+p.off))
  (yU:∀(ck:World) (bR X:ah) (y:List t.D) (bA:T.D) (q:Value),ch w' ck (fun b o=>qp b o∧¬(b=cV∧o=ed+i*T.size+p.off))→ck.cell? (at_ cV (ed+i*T.size+p.off))=some q→gm ck T.size cV (ed+i*T.size+p.off) →
   (ad.sl t).ar ck bR (.O t.own) y [q] X→ah.apart X qp→T.setAt p.off t y (I T ys i)=some bA→nT ck (T.ar ck bR T.own) T.size (ys.set i bA) (at_ cV ed) (ι p.id).cap (X.or qp))
  (hbk:ya t y (((s1.set d0 .bB).set d1 .bB).set d2 .bB) (some p)=some ET) (hk:K ET=some r):
  dS.wp P (a.put (some d0) hv) w' (fun a w=>e4.wp P a w (fun a w=>e'.wp P a w (fun a w=>∃au,K au=some r∧c6 w0 F0 Z0 n au a w) Q) Q) Q:=by
 have hcl:hv.cells = #[hv]:=by rw[qq];rfl
 have pj:eC hv=true:=by rw[qq];rfl
 have hsz:=tJ.size;have ahi:Inv w0 F0 Z0 n (s1.set d0 .bB) (a.put (some d0) hv) w' ι Z:=tJ.set (by simp only[aV]) jH;have EV:(a.put (some d0) hv).tmps.size=n.n:=by rw[VQ];exact hsz
 unfold Oper.wp;rw[M1,Oper.upon_value,gE];obtain⟨a2,Bb⟩:∃a2,a2=(a.put (some d0) hv).put (some d1) (.pointer (some (at_ cV (ed+i*T.size+po)))):=⟨_,rfl⟩
 rw[←Bb];have VT:a2.tmps.size=n.n:=by rw[Bb,VQ];exact EV
 have rK:a2.eval (.tmp d1)=.pointer (some (at_ cV (ed+i*T.size+po))):=by rw[Bb];exact MY _ _ (by rw[EV];exact nj)
 have ahj:a2.eval (.tmp d0)=hv:=by rw[Bb,Ba _ _ (by rw[EV];exact nj) (Ne.symm hJ)];exact MY _ _ (by rw[hsz];exact jH)
 obtain⟨pos,gQ⟩:∃pos,pos=ed+i*T.size+p.off:=⟨_,rfl⟩
 rw[←gQ]at yT EU yU;have ahk:(execOp a2.eval e4).run P w'=.ok (.value (.pointer (some (at_ cV pos)))) w':=by obtain⟨cF,hu,lM⟩:=L' (bS.ty.ty nU _ vN);obtain⟨auO,h1,h2,h3⟩:=aA.Ej lM fW;rw[Array.getElem?_toList]at h1;unfold execOp;rw[kK];refine gw ?_;simp only[Instr.fieldAt,run_bind,run_underlying hu,h1,Instr.sureAddr,rK,run_pure,UH h3 hz,h2,Nat.zero_add];rw[gQ,←nm,Nat.add_assoc]
 rw[ahk,Oper.upon_value,i_];obtain⟨a3,EW⟩:∃a3,a3=a2.put (some d2) (.pointer (some (at_ cV pos))):=⟨_,rfl⟩
 rw[←EW];have ahl:a3.eval (.tmp d2)=.pointer (some (at_ cV pos)):=by rw[EW];exact MY _ _ (by rw[VT];exact nk)
 have ahm:a3.eval (.tmp d0)=hv:=by rw[EW,Ba _ _ (by rw[VT];exact nk) (Ne.symm ij)];exact ahj
 have EX:Inv w0 F0 Z0 n (((s1.set d0 .bB).set d1 .bB).set d2 .bB) a3 w' ι Z:=by rw[EW,Bb];exact(ahi.set (by simp only[aV]) nj).set (by simp only[aV]) nk
 have VU:(execOp a3.eval e').run P w'=.ok .skip (setCells w' cV pos [hv]):=by
  unfold execOp;rw[rJ]
  have:=L8 (P:=P) (w:=w') (bS.ty.ty nV _ vO) (b:=cV) (o:=pos) (v:=hv) (by rw[hcl];rfl) (by rw[hcl];intro u hu;simp at hu;rw[hu];exact pj) (fun j hj=>by
   rw[hcl]at hj;have:j=0:=by simp at hj;omega
   subst this;exact EU.1)
  rw[hcl]at this;simp only[Instr.storeAt,Instr.sureAddr,ahl,ahm,run_bind,run_pure,this]
 have M3:bM w0 F0 (((s1.set d0 .bB).set d1 .bB).set d2 .bB) w' ι Z qp:=⟨my.own,my.apart,my.db⟩;have qs:bM w0 F0 (((s1.set d0 .bB).set d1 .bB).set d2 .bB) w' ι Z G:=⟨qs.own,qs.apart,qs.db⟩;obtain⟨qt,hw3⟩:∃qt,qt=setCells w' cV pos [hv]:=⟨_,rfl⟩
 rw[←hw3]at VU
 have hx3:Ext w' qt (ah.run cV pos 1):=by
  rw[hw3]
  exact oX cV [hv] w' pos fun j hj=>by
   have:j=0:=by simp at hj;omega
   subst this;exact⟨rfl,by omega,by omega⟩
 have VV:ah.sub (ah.run cV pos 1) qp:=by
  rintro b o ⟨rfl,k2,k3⟩
  rw[show o=pos by omega];exact yT
 have M4:Inv w0 F0 Z0 n (((s1.set d0 .bB).set d1 .bB).set d2 .bB) a3 qt ι Z:=EX.Eo (M3.sub VV) hx3
 have ahn:qt.cell? (at_ cV pos)=some hv:=by
  rw[hw3,yj cV [hv] w' pos (fun j hj=>by
   have:j=0:=by simp at hj;omega
   subst this;exact EU.1.1),if_pos ⟨rfl,by omega,by simp⟩]
  simp
 have aho:ch w' qt G:=ch.jv hx3 (fun b o aB=>(qs.own b o aB).2) fun b o aB hr=>yS b o aB (VV b o hr)
 have ahp:(ad.sl t).ar qt Z (.O t.own) y [hv] G:=rF (.sl t) aho cT
 have Bc:ch w' qt (fun b o=>qp b o∧¬(b=cV∧o=pos)):=by
  refine ch.jv hx3 (fun b o hb=>(M3.own b o hb.1).2) ?_
  rintro b o ⟨_,hne⟩ ⟨rfl,k2,k3⟩
  exact hne ⟨rfl,by omega⟩
 have M5:(((s1.set d0 .bB).set d1 .bB).set d2 .bB).o p.id=.cr (.row T T.own ver ys):=qo;simp only[ya,fl]at hbk;rw[M5]at hbk;simp only at hbk;obtain⟨z,ahq,hbk⟩:=bb hbk;obtain rfl:=aX hbk
 obtain⟨VW,VX,_⟩:=A4 M4 (id:=p.id) (o:=.row T T.own (ver+1) (ys.set i z)) (i:=⟨(ι p.id).base,(ι p.id).cap,G.or qp⟩) (by rw[M5];exact fun h=>h) (fun o'=>by simp) (by rw[M5];exact .tm _ _ _ _ _ _ _ _ _ (by omega) (by simp) rfl rfl)
  (fun hm=>.inr ⟨at_ cV ed,eW,yU qt Z G y z hv Bc ahn (hx3.ld EU) ahp yS ahq⟩) ((qs.ext hx3).or (M3.ext hx3))
 refine Oper.wp_mono (fun a w hs=>⟨_,hk,?_⟩) (wp_skip VU VX (fun k hk=>by rw[pf]at hk;cases hk));rw[pf]at hs;exact hs
def yV(s:az)(ι:Nat→bI)(X:ah):ah:=fun b o=>X b o∨∃id,(s.o id).live∧(ι id).F b o
theorem Inv.here(h:Inv w0 F0 Z0 n s a w ι Z)(X:ah):Inv w (yV s ι X) Z n s a w ι Z:=
 ⟨Ext.refl _ _,fun _ _ hz=>.inl hz,fun _ _ h=>h,h.jt,h.gp,fun id hl b o hf=>⟨.inl (.inr ⟨id,hl,hf⟩),(h.own id hl b o hf).2⟩,h.apart,h.db,h.tmps,h.size,h.ghost,h.seen,h.defers⟩
theorem EY(h:Inv w0 F0 Z0 n s a w ι Z){X:ah}(hX:bM w0 F0 s w ι Z X){b o:Nat}(hf:yV s ι X b o∨w.heap.size≤b):F0 b o∨w0.heap.size≤b:=by
 have hsz:=h.ext.size;rcases hf with(hf|⟨id,hl,hf⟩)|hf
 ·exact(hX.own b o hf).1
 ·exact(h.own id hl b o hf).1
 ·exact .inr (by omega)
theorem Inv.ahr(h:Inv w0 F0 Z0 n s a w ι Z){X:ah}(hX:bM w0 F0 s w ι Z X)(h':Inv w (yV s ι X) Z n au b8 w' bp Z'):Inv w0 F0 Z0 n au b8 w' bp Z':=by
 refine⟨h.ext.trans' h'.ext fun i o hf=>EY h hX (.inl hf),fun b o hz=>?_,fun b o hz=>h'.tl b o (h.tl b o hz),h'.jt,h'.gp,fun id hl b o hf=>⟨EY h hX (h'.own id hl b o hf).1,(h'.own id hl b o hf).2⟩,h'.apart,h'.db,h'.tmps,h'.size,h'.ghost,h'.seen,h'.defers⟩;rcases h'.dU b o hz with h1|h1
 ·exact h.dU b o h1
 ·exact .inr (EY h hX h1)
theorem ahs{o dS e4 e':Oper}{c:Call}{ak:aA}{t u ul:ad}{d0 d1 d2 nU nV o3 k i id:Nat}{p:Place}{po:Nat}{dp:List (Nat×Nat)}{M6:List ul.D}{vb:a_}{cb:ba}{M:az→Bool}{K:az→Option bC}(bS:kq P E)(h:Inv w0 F0 Z0 n s a w ι Z)
  (ho:o.op=.call c) (hc:c.callee=.builtin .append) (mr:c.args.toList.map (bZ s)=[.aU (.bG ul dp (some p) M6),vb]) (g_:yc E c.argTypes.toList=some t) (vD:oneCell t vb=some cb) (vP:o.dst=some d0)
  (kK:e4.op=.fieldAddr nU (.tmp d1) o3) (rJ:e'.op=.store nV (.tmp d2) (.tmp d0)) (gE:dS.dst=some d1) (i_:e4.dst=some d2) (pf:e'.dst=none)
  (hJ:d0≠d1) (ij:d0≠d2) (jH:d0<n.n) (nj:d1<n.n) (nk:d2<n.n) (vN:E.ty nU=some (.st ak)) (vO:E.ty nV=some (.sl t)) (fW:ak.off o3=some (k,u)) (hz:u.size≠0)
  (nm:po+k=p.off) (Bd:p.fO=some i)
  (M1:∀{T:ad}{ver cV ed:Nat}{ys:List T.D}{s1:az}{dL:Nat→bI}{cI:ah}{oh:World}{hv:Value},Inv w0 F0 Z0 n s1 a oh dL cI→s1.t=s.t→s1.o p.id=.cr (.row T T.own ver ys)→s.o p.id=.row T T.own ver ys→(dL p.id).base=some (at_ cV ed) →
   (execOp (a.put (some d0) hv).eval dS).run P oh=.ok (.value (.pointer (some (at_ cV (ed+i*T.size+po))))) oh)
  (hk:LI id t p dp s cb d0 d1 d2 M K=some r):
  o.wp P a w (fun a w=>(∃o4,M o4=true∧c6 w0 F0 Z0 n o4 a w)∧dS.wp P a w (fun a w=>e4.wp P a w (fun a w=>e'.wp P a w (fun a w=>∃au,K au=some r∧c6 w0 F0 Z0 n au a w) Q) Q) Q) Q:=by
 have hvs:=vC h c.args.toList;have VY:(c.args.map a.eval).toList=c.args.toList.map a.eval:=by simp
 rw[mr]at hvs;simp only[a8]at hvs;obtain⟨Vr,_,he,n9,agC,_,rfl,Ms,rfl⟩:=hvs;simp only[aV]at n9;obtain⟨ig,iE,rest,e,m8,hu,cp,kO⟩:=Vq bS.ty g_;have hb1:=Mr vD Ms;unfold LI at hk
 cases rD:added s t cb with
 |none=>rw[rD]at hk;cases hk
 |some q=>
 obtain⟨lh,ys,s1⟩:=q;rw[rD]at hk;simp only at hk;cases m5:bg.beq lh t.own
 ·rw[m5]at hk;cases hk
 rw[m5]at hk;simp only[cond_true]at hk;obtain rfl:=bg.eq_of_beq _ _ m5;obtain⟨⟨nh,s2⟩,iZ,hk⟩:=bb hk;obtain⟨s3,n3,hk⟩:=bb hk;obtain⟨hroom,hk⟩:=tx hk;cases j7:M (s3.set d0 .bB)
 ·rw[j7]at hk;cases hk
 rw[j7]at hk;simp only[cond_true]at hk;obtain⟨ET,hbk,M7⟩:=bb hk;obtain⟨cm,rfl⟩:=rz n3;simp only at cm hbk hroom;obtain⟨vs,hO,hlen,rE,hels,h1,hs1,pb⟩:=Vi (P:=P) rD h hb1;have hc1:cz w Z s1 ι (.bG ul dp (some p) M6) Vr:=cz.move hs1.eI n9;obtain⟨er,T,ver,Be,cV,ed,H1,fl,ej,pc,lQ,eW,i0,EZ,vQ,my,M8,VZ,yT,M9,yU⟩:=VR h1 hc1 iZ;rw[fl]at Bd;obtain rfl:=aX Bd;have E0:=pb.vH EZ;have V0:(s1.o p.id).live:=by rw[ej];trivial
 have mu:ah.apart H1 hO:=fun b o x y=>pb.apart p.id V0 b o y (VZ b o x)
 have V1:=vQ.or E0;have aht:bM w (yV s2 ι (H1.or hO)) s2 w ι Z H1:=⟨fun b o x=>⟨.inl (.inl (.inl x)),(vQ.own b o x).2⟩,vQ.apart,vQ.db⟩;have ahu:bM w (yV s2 ι (H1.or hO)) s2 w ι Z hO:=⟨fun b o x=>⟨.inl (.inl (.inr x)),(E0.own b o x).2⟩,E0.apart,E0.db⟩
 obtain⟨e9,w',nn,hrun,hinv,hcell⟩:=Vk (P:=P) (id:=id) (ty:=o.type) (ats:=c.argTypes) (args:=c.args.map a.eval) (by rw[←Array.getElem?_toList,m8];rfl) (by rw[←Array.getElem?_toList,m8];rfl)
  (by rw[←Array.getElem?_toList,VY,he];rfl) (by rw[←Array.getElem?_toList,VY,he];rfl) hu cp kO (Nat.le_of_ble_eq_true hroom) (i0.here _) cm M8 hels aht ahu mu hlen rE
 have lj:taken (s2.bV id (.row t t.own 0 (nh++ys))) t (.af id none)=some (t.own,nh++ys,(s2.bV id (.row t t.own 0 (nh++ys))).bV id .dead):=by simp only[taken];rw[show(s2.bV id (.row t t.own 0 (nh++ys))).o id=.row t t.own 0 (nh++ys) from cM _ _ _];simp only[lH];rw[ag_];rfl
 obtain⟨G,V2,i4,auP,yW,auQ⟩:=Vj lj hinv hcell
 have ahv:(s2.bV id (.row t t.own 0 (nh++ys))).bV id .dead=s2.bV id .dead:=by
  show { s2 with o:=bW (bW s2.o id _) id cD.dead }={ s2 with o:=bW s2.o id cD.dead };congr 1
  funext j
  by_cases hj:j=id
  ·subst hj;rw[cM,cM]
  ·rw[te hj,te hj,te hj]
 rw[ahv]at i4 yW;have V3:p.id≠id:=by intro e0;rw[pc]at cm;rw[show(s1.bV p.id (.cr (.row T T.own ver Be))).o id=.cr (.row T T.own ver Be) from by rw[e0];exact cM _ _ _]at cm;cases cm
 have V4:bW ι id nn p.id=ι p.id:=te V3;have i5:=i0.ahr V1 i4
 have hcl:∀j,((s2.bV id .dead).o j).live→j≠id∧(s2.o j).live:=by
  intro j hj;by_cases ll:j=id
  ·subst ll;rw[show(s2.bV j .dead).o j=.dead from cM _ _ _]at hj;exact hj.elim
  ·rw[show(s2.bV id .dead).o j=s2.o j from te ll]at hj;exact⟨ll,hj⟩
 have M_:=hinv.ext
 have hap:∀b o,ah.diff (ι p.id).F H1 b o→yV s2 ι (H1.or hO) b o→False:=by
  rintro b o af ((hf|hf)|⟨j,hj,hf⟩)
  ·exact af.2 hf
  ·exact pb.apart p.id V0 b o hf af.1
  ·exact my.apart j hj b o af hf
 have qs:bM w0 F0 (s2.bV id .dead) w' (bW ι id nn) Z G:=⟨fun b o x=>⟨EY i0 V1 (yW.own b o x).1,(yW.own b o x).2⟩,yW.apart,yW.db⟩;have ahw:bM w0 F0 (s2.bV id .dead) w' (bW ι id nn) Z (ah.diff (ι p.id).F H1):=by refine⟨(my.ext M_).own,fun j hj b o x y=>?_,my.db⟩;obtain⟨M',mz⟩:=hcl j hj;rw[te M']at y;exact my.apart j mz b o x y
 have yS:ah.apart G (ah.diff (ι p.id).F H1):=by
  intro b o aB af;rcases (yW.own b o aB).1 with hf|hf
  ·exact hap b o af hf
  ·have:=(my.own b o af).2;omega
 have Bc:ch w w' (ah.diff (ι p.id).F H1):=ch.jv M_ (fun b o hb=>(my.own b o hb).2) hap;have Bf:=V2;simp only[ad.ar]at Bf;obtain⟨A,yR,qq,_⟩:=Bf;have qq:e9=.slice A (nh++ys).length yR:=by simpa using qq
 have ahx:(execOp a.eval o).run P w=.ok (.value e9) w':=by unfold execOp;rw[ho];simp only[run_bind,resolve,hc,run_pure,invoke];unfold builtin;exact gw hrun
 have ht:(s2.bV id .dead).t=s.t:=by show s2.t=s.t;rw[pc];exact hs1.t
 unfold Oper.wp;rw[ahx,Oper.upon_value,vP];have ahy:s2.o p.id=.cr (.row T T.own ver Be):=by rw[pc];exact cM _ _ _
 have V5:(s2.bV id .dead).o p.id=.cr (.row T T.own ver Be):=by rw[show(s2.bV id .dead).o p.id=s2.o p.id from te V3];exact ahy
 have V6:(bW ι id nn p.id).base=some (at_ cV ed):=by rw[V4];exact eW
 have E1:s.o p.id=.row T T.own ver Be:=by
  rcases hs1.o p.id with h2|⟨_,h2⟩
  ·rw[←h2];exact ej
  ·rw[h2]at ej;cases ej
 refine⟨⟨_,j7,bW ι id nn,Z,i5.set (by simp only[aV]) jH⟩,?_⟩
 exact VS bS kK rJ gE i_ pf hJ ij jH nj nk vN vO fW hz nm fl lQ i5 (M1 i5 ht V5 E1 V6) V5 V6 qq V2 qs ahw yS yT (M_.ld M9)
  (by rw[V4];exact fun ck bR X y bA q hs=>yU ck bR X y bA q ((Bc.mono fun _ _ h=>h.1).trans hs)) hbk M7
set_option maxHeartbeats 1000000 in
theorem ahz{o:Oper}{l:List Oper}{K:az→Option bC}(bS:kq P E)(hn:E.n=n)(h:Inv w0 F0 Z0 n s a w ι Z)(hk:LF E s o l K=some r):
  ∃dS e4 e' l',l=dS::e4::e'::l'∧o.guard=none∧dS.guard=none∧e4.guard=none∧e'.guard=none ∧
   o.wp P a w (fun a w=>dS.wp P a w (fun a w=>e4.wp P a w (fun a w=>e'.wp P a w (fun a w=>∃au,K au=some r∧c6 w0 F0 Z0 n au a w) Q) Q) Q) Q:=by
 unfold LF at hk;split at hk
 case h_2=>cases hk
 rename_i dS e4 e' l';refine⟨dS,e4,e',l',rfl,?_⟩;split at hk
 case h_2=>cases hk
 rename_i c k1 nU e1 o3 nV e2 e0 ho ni kK rJ;split at hk
 case h_2=>cases hk
 rename_i cg d0 d1 d2 hc vP gE i_;cases hb:yg E o dS e4 e' k1 e1 e2 e0 d0 d1 d2
 ·rw[hb]at hk;cases hk
 rw[hb]at hk;simp only[cond_true]at hk;unfold yg at hb;simp only[Bool.and_eq_true,Bool.not_eq_true',Option.isNone_iff_eq_none]at hb;obtain⟨E2,c2,eb,gY,hJ,ij,g0,g1,g2,g3,pf,jH,nj,nk⟩:=hb;obtain rfl:=Nat.eq_of_beq_eq_true E2;obtain rfl:=Nat.eq_of_beq_eq_true c2;obtain rfl:=Nat.eq_of_beq_eq_true eb;have gY:k1≠d0:=Nat.ne_of_beq_eq_false gY;have hJ:d0≠d1:=Nat.ne_of_beq_eq_false hJ;have ij:d0≠d2:=Nat.ne_of_beq_eq_false ij;have jH:d0<n.n:=by rw[←hn];exact Nat.le_of_ble_eq_true jH
 have nj:d1<n.n:=by rw[←hn];exact Nat.le_of_ble_eq_true nj
 have nk:d2<n.n:=by rw[←hn];exact Nat.le_of_ble_eq_true nk
 refine⟨g0,g1,g2,g3,?_⟩;split at hk
 case h_2=>cases hk
 rename_i g ak t ER vN vO;split at hk
 case h_2=>cases hk
 rename_i e k u p V7 fW lP;obtain⟨kl,hk,MZ⟩:=ahe hk;cases gx:(!(Nat.beq u.size 0)&&(Nat.beq kl.id p.id&&Nat.beq (kl.off+k) p.off))
 ·rw[gx]at hk;cases hk
 rw[gx]at hk;simp only[cond_true]at hk;simp only[Bool.and_eq_true,Bool.not_eq_true']at gx;obtain⟨hz,tI,nm⟩:=gx;have hz:u.size≠0:=Nat.ne_of_beq_eq_false hz;have tI:kl.id=p.id:=Nat.eq_of_beq_eq_true tI;have nm:kl.off+k=p.off:=Nat.eq_of_beq_eq_true nm;split at hk
 case h_2=>cases hk
 rename_i ahA ahB ES Bd;cases rL:Nat.beq ahA ahB
 ·rw[rL]at hk;cases hk
 rw[rL]at hk;simp only[cond_true]at hk;have hvs:=vC h c.args.toList;have hf:=fk h cg;rw[ER]at hf;simp only[aV]at hf;obtain⟨cF,cs,MU,lM,hcs⟩:=hf;simp only[a8]at lM hcs;subst lM hcs
 cases Na:c.args.toList.map (bZ s)with
 |nil=>rw[Na]at lP;cases lP
 |cons v0 bK=>
  rw[Na]at lP hk hvs
  cases v0 with
  |aU UQ=>
   cases UQ with
   |bG dK dp cJ xs=>
    simp only[ye]at lP;subst lP;simp only[a8]at hvs;obtain⟨lk,aY,hus,ql,V8⟩:=hvs;simp only[aV]at ql;rw[Na]at V7;obtain⟨ps,rs,f⟩:=e
    cases hm:yf (p_ (a_.aU (ba.bG dK dp (some p) xs)::bK)) s t ps (a_.aU (ba.bG dK dp (some p) xs)::bK++me (a_.aU (ba.bG dK dp (some p) xs)::bK))with
    |none=>rw[hm]at hk;cases hk
    |some X=>
     obtain⟨x,s1,bu⟩:=X;rw[hm]at hk;simp only at hk;cases dN:(alive s1 bu&&o2 (a_.aU (ba.bG dK dp (some p) xs)::bK))
     ·rw[dN]at hk;cases hk
     rw[dN]at hk;simp only[cond_true]at hk;simp only[Bool.and_eq_true]at dN;obtain⟨dN,MQ⟩:=dN;obtain⟨b1,eJ,hk⟩:=bb hk;obtain⟨y,aR,hk⟩:=bb hk;obtain⟨ET,hbk,M7⟩:=bb hk;have MR:=bS.fns g _ _ V7
     cases ps with
     |nil=>simp[yf]at hm
     |cons sp ps=>
      cases sp with
      |val T m=>
       cases T with
       |sl cQ=>
        simp only[List.cons_append,yf]at hm;cases E3:(bg.beq m (.O cQ.own)&&(ad.beq t cQ&&LC ps))
        ·rw[E3]at hm;cases hm
        rw[E3]at hm;simp only[cond_true]at hm;simp only[Bool.and_eq_true]at E3;obtain⟨tD,tw,auR⟩:=E3;obtain rfl:=bg.eq_of_beq _ _ tD;obtain rfl:=ad.eq_of_beq _ _ tw;obtain⟨⟨nh,s0⟩,iZ,hm⟩:=bb hm;obtain⟨q,hq,hm⟩:=bb hm;obtain⟨c2,auS,nY⟩:=q;simp only[Option.some.injEq,Prod.mk.injEq]at hm;obtain⟨rfl,rfl,rfl⟩:=hm;obtain⟨i,T,ver,ys,cV,ed,H1,fl,ej,hs0,lQ,eW,i0,EZ,vQ,my,M8,VZ,yT,M9,yU⟩:=VR h ql iZ;have E1:s0.o p.id=.cr (.row T T.own ver ys):=by rw[hs0];exact cM _ _ _
        have ahC:a8 w Z s ι (me (a_.aU (ba.bG dK dp (some p) xs)::bK)) (gA (lk::aY)):=MN MQ (by simp only[a8];exact⟨lk,aY,rfl,by simpa only[aV]using ql,V8⟩);have auT:∃A m' c',lk=.slice A m' c':=ql.2.1
        obtain⟨kp,fe,cI,i1,yX,V9,_,V_,_,_,_,ahD,src⟩:=rI ps _ _ s0 Z [] _ hq i0 (a8.move EZ.eI (V8.append ahC)) (by simp);simp only at i1 yX V9 V_ ahD src;have ahE:=vQ.vH yX;have Nb:=my.vH yX;have cn:=EM dN;have vR:bM w0 F0 s1 w ι cI (H1.or kp):=ahE.or V_;have Nc:∀{X:ah},bM w0 F0 s0 w ι Z X→∀b o,X b o→kp b o→False:=by intro X hX b o hx hj;obtain⟨id,hl,hf⟩:=src b o (.inl hj);exact hX.apart id hl b o hx hf
        have hA:gP w (cI.or (dz ι bu)) (p_ (a_.aU (ba.bG dK dp (some p) xs)::bK)) (.val (.sl t) (.O t.own)::ps) (nh,c2) (c.args.toList.map a.eval++gA (c.args.toList.map a.eval)) (H1.or kp):=by rw[hus];exact⟨[lk],aY++gA (lk::aY),H1,kp,rfl,ad.ar.mono (fun b o hz=>.inl (yX.dU b o hz)) _ _ (fun _ _ h=>h) M8,V9,fun b o x y=>Nc vQ b o x y,fun _ _ h=>.inl h,fun _ _ h=>.inr h⟩
        obtain⟨rfl,rfl⟩:∃e:rs=[.val (.sl t) (.O t.own)],y=(e▸b1:(c4.outs [.val (.sl t) (.O t.own)] (bE.en (.val (.sl t) (.O t.own)::ps))).D).1:=by
         cases rs with
         |nil=>simp[AJ]at aR
         |cons EE rs=>
          cases EE with
          |val jD yY=>
           cases rs with
           |cons=>simp[AJ]at aR
           |nil=>
            simp only[AJ]at aR;cases m5:bg.beq yY (.O t.own)
            ·rw[m5]at aR;cases aR
            rw[m5]at aR;obtain rfl:=bg.eq_of_beq _ _ m5;obtain⟨e,rfl⟩:=D8 aR;subst e;exact⟨rfl,rfl⟩
          |_=>simp[AJ]at aR
        have hcall:=MR.calls w (cI.or (dz ι bu)) (H1.or kp) (nh,c2) (c.args.toList.map a.eval) b1
         (by
          rintro b o (hz|⟨d,af,hf⟩)
          ·exact i1.jt b o hz
          ·exact(i1.own d.1 (cn d af) b o hf).2)
         (fun b o hf=>(vR.own b o hf).2)
         (by
          rintro b o hf (hz|hz)
          ·exact vR.db b o hf hz
          ·exact vR.dz cn b o hf hz) hA eJ
        suffices key:∀(e9:Value) (w':World),Ends w (cI.or (dz ι bu)) (H1.or kp) ⟨.val (.sl t) (.O t.own)::ps,[.val (.sl t) (.O t.own)],f⟩ (c.args.toList.map a.eval) b1 e9 w' →
          dS.wp P (a.put o.dst e9) w' (fun a w=>e4.wp P a w (fun a w=>e'.wp P a w (fun a w=>∃au,K au=some r∧c6 w0 F0 Z0 n au a w) Q) Q) Q by
         unfold Oper.wp;have hrun:(execOp a.eval o).run P w=(callFunc g (c.args.toList.map a.eval).toArray).run P w:=by unfold execOp;rw[ho];simp only[run_bind,resolve,hc,MU,Deferred.ofValue,run_pure,invoke];congr 2;apply Array.ext';simp
         rw[hrun];rcases hcall with⟨⟨fn,A',MW,jG⟩,hcall⟩|⟨auU,w',vL,hd,AW,hu⟩
         ·have MX:(callFunc g (c.args.toList.map a.eval).toArray).run P w=.ok (.enter g (c.args.toList.map a.eval).toArray) w:=by
           simp only[callFunc,run_bind,run_pure,program,Sem.run,A'];rw[if_neg (by rw[jG];simp),if_neg (by rw[MW];simp)];simp only[run_pure]
          rw[MX,Oper.upon_enter];refine hcall.mono ?_
          rintro auV w' ⟨v9,rfl,hu⟩
          exact key v9 w' hu
         ·rw[vL,Oper.upon_value];cases AW;exact key _ w' hu
        rintro e9 w' ⟨⟨dE,Z',F',rfl,hx,j5,hz2,hf2,A_,il⟩⟩
        simp only[iK]at il;obtain⟨vs1,et,G,ahF,rfl,cT,⟨rfl,_⟩,_,hGF,_⟩:=il;have Bf:=cT;simp only[ad.ar]at Bf;obtain⟨A,yR,rfl,_⟩:=Bf;obtain⟨hv,qq⟩:∃hv,hv=Value.slice A b1.1.length yR:=⟨_,rfl⟩
        rw[←qq]at cT;rw[show pe [dW (.sl t) [Value.slice A b1.1.length yR]]=hv from qq.symm];have tJ:Inv w0 F0 Z0 n s1 a w' ι cI:=i1.Eo vR hx;rw[vP];have E4:s1.t=s.t:=yX.t.trans EZ.t
        have qo:s1.o p.id=.cr (.row T T.own ver ys):=by
         rcases yX.o p.id with h1|⟨h1,_⟩
         ·rw[h1,E1]
         ·rw[E1]at h1;exact h1.elim
        rw[fl]at Bd;obtain rfl:=aX Bd;obtain rfl:=Nat.eq_of_beq_eq_true rL;have fx:ah.sub G F':=hGF
        have yS:ah.apart G (ah.diff (ι p.id).F H1):=by
         intro b o aB af;rcases (hf2 b o (fx b o aB)).1 with(hf|hf)|hf
         ·exact af.2 hf
         ·exact Nc my b o af hf
         ·have:=(Nb.own b o af).2;omega
        have qs:bM w0 F0 s1 w' ι cI G:=by
         have auW:=i1.ext.size;refine⟨fun b o aB=>⟨?_,(hf2 b o (fx b o aB)).2⟩,fun id hl b o aB hi=>?_,fun b o aB hz=>?_⟩
         ·rcases (hf2 b o (fx b o aB)).1 with hf|hf
          ·exact(vR.own b o hf).1
          ·exact .inr (by omega)
         ·rcases (hf2 b o (fx b o aB)).1 with hf|hf
          ·exact vR.apart id hl b o hf hi
          ·have:=(i1.own id hl b o hi).2;omega
         ·rcases (hf2 b o (fx b o aB)).1 with hf|hf
          ·exact vR.db b o hf hz
          ·have:=i1.jt b o hz;omega
        have Bc:ch w w' (ah.diff (ι p.id).F H1):=ch.jv hx (fun b o hb=>(Nb.own b o hb).2) (by
         rintro b o af (hf|hf)
         ·exact af.2 hf
         ·exact Nc my b o af hf)
        exact VS bS kK rJ gE i_ pf hJ ij jH nj nk vN vO fW hz nm fl lQ tJ (ahf ni gY jH tI ES tJ (by rw[E4];exact MZ) qo eW) qo eW qq (rF (.sl t) (ch.refl _ _) cT) qs (Nb.ext hx) yS yT (hx.ld M9)
         (fun ck bR X y bA q hs=>yU ck bR X y bA q ((Bc.mono fun _ _ h=>h.1).trans hs)) hbk M7
       |_=>simp[yf]at hm
      |_=>simp[yf]at hm
   |_=>simp[ye]at lP
  |_=>simp[ye]at lP
theorem ahG{dS:Oper}{T:ad}{yh k1 k2 d0 i m ver cV ed:Nat}{p:Place}{sub:Option (Nat×Nat)}{ys:List T.D}{q:Int}{hv:Value}{s1:az}(b5:hL P E)(g_:E.ty yh=some (.sl T))(ni:dS.op=.indexAddr yh (.tmp k1) (.tmp k2))(gY:k1≠d0)(Nd:k2≠d0)(jH:d0<n.n)
  (hx:s1.t k1=.aU (.af p.id sub)) (hq:lg (s1.t k2)=some q) (hm:ix (mb sub ys) q=some m) (hi:eH sub+m=i) (h:Inv w0 F0 Z0 n s1 a w ι Z)
  (qo:s1.o p.id=.cr (.row T T.own ver ys)) (eW:(ι p.id).base=some (at_ cV ed)):(execOp (a.put (some d0) hv).eval dS).run P w=.ok (.value (.pointer (some (at_ cV (ed+i*T.size+0))))) w:=by
 obtain⟨e,hu,j3⟩:=mo (b5.ty yh _ g_);have h1:=h.tmps k1;have h2:=h.tmps k2;rw[hx]at h1;simp only[aV]at h1;obtain⟨_,A,len,c,iI,hh⟩:=h1;obtain⟨g1,g2,g3,g4,g5⟩:=hh T T.own ver ys (by rw[qo];rfl);obtain⟨dn,yt⟩:=tv hq h2
 have hl:mb sub ys=len:=by
  cases sub with
  |none=>simp[mb,g1]
  |some p=>obtain⟨lo,l⟩:=p;simp[mb,g1]
 rw[hl]at hm;obtain⟨h2,h3,rfl,h4⟩:=AO hm;rcases g5 with g5|⟨a0,gG,rfl⟩
 ·omega
 rw[eW]at gG;obtain rfl:=aX gG;unfold execOp;rw[ni];refine gw ?_;rw[Ba _ _ (by rw[h.size];exact jH) (Ne.symm gY),Ba _ _ (by rw[h.size];exact jH) (Ne.symm Nd)];have e1:a.eval (.tmp k1)=a.tmps.getD k1 undef:=rfl;have e2:a.eval (.tmp k2)=a.tmps.getD k2 undef:=rfl;rw[e1,e2,iI,yt];have:=Md (P:=P) (w:=w) (A:=at_ cV (ed+eH sub*T.size)) (b:=cV) (o:=ed+eH sub*T.size) (c:=c) (k:=dn) hu j3 h2 h3;rw[←hi,Nat.add_zero,Nat.add_mul,←Nat.add_assoc];exact this
theorem ahH{o dS e4 e':Oper}{id:Nat}{M:az→Bool}{K:az→Option bC}(bS:kq P E)(hn:E.n=n)(h:Inv w0 F0 Z0 n s a w ι Z)(hk:LJ E id s o dS e4 e' M K=some r):
  o.guard=none∧dS.guard=none∧e4.guard=none∧e'.guard=none ∧
   o.wp P a w (fun a w=>(∃o4,M o4=true∧c6 w0 F0 Z0 n o4 a w)∧dS.wp P a w (fun a w=>e4.wp P a w (fun a w=>e'.wp P a w (fun a w=>∃au,K au=some r∧c6 w0 F0 Z0 n au a w) Q) Q) Q) Q:=by
 unfold LJ at hk;split at hk
 case h_2=>cases hk
 rename_i c yh k1 k2 nU e1 o3 nV e2 e0 ho ni kK rJ;split at hk
 case h_2=>cases hk
 rename_i d0 d1 d2 hc vP gE i_;cases hb:(yg E o dS e4 e' k1 e1 e2 e0 d0 d1 d2 && !(Nat.beq k2 d0))
 ·rw[hb]at hk;cases hk
 rw[hb]at hk;simp only[cond_true]at hk;unfold yg at hb;simp only[Bool.and_eq_true,Bool.not_eq_true',Option.isNone_iff_eq_none]at hb;obtain⟨⟨E2,c2,eb,gY,hJ,ij,g0,g1,g2,g3,pf,jH,nj,nk⟩,Nd⟩:=hb;obtain rfl:=Nat.eq_of_beq_eq_true E2;obtain rfl:=Nat.eq_of_beq_eq_true c2;obtain rfl:=Nat.eq_of_beq_eq_true eb;have jH:d0<n.n:=by rw[←hn];exact Nat.le_of_ble_eq_true jH
 have nj:d1<n.n:=by rw[←hn];exact Nat.le_of_ble_eq_true nj
 have nk:d2<n.n:=by rw[←hn];exact Nat.le_of_ble_eq_true nk
 refine⟨g0,g1,g2,g3,?_⟩;split at hk
 case h_2=>cases hk
 rename_i nW ak t ig ul dp p M6 vb ahI vN vO g_ mr;split at hk
 case h_2=>cases hk
 rename_i k u cb i sub q v em ver xs j fW vD hx1 o8 ej fl;cases gx:(ad.beq ig t&&(ad.beq nW v&&(!(Nat.beq u.size 0)&&(Nat.beq i p.id&&Nat.beq k p.off))))
 ·rw[gx]at hk;cases hk
 rw[gx]at hk;simp only[cond_true]at hk;simp only[Bool.and_eq_true,Bool.not_eq_true']at gx;obtain⟨ht,yN,hz,tI,nm⟩:=gx;obtain rfl:=ad.eq_of_beq _ _ ht;obtain rfl:=ad.eq_of_beq _ _ yN;obtain rfl:=Nat.eq_of_beq_eq_true tI;obtain⟨m,hm,hk⟩:=bb hk;cases rL:Nat.beq (eH sub+m) j
 ·rw[rL]at hk;cases hk
 rw[rL]at hk;simp only[cond_true]at hk;have rL:=Nat.eq_of_beq_eq_true rL;refine ahs (po:=0) bS h ho hc mr g_ vD vP kK rJ gE i_ pf (Nat.ne_of_beq_eq_false hJ) (Nat.ne_of_beq_eq_false ij) jH nj nk vN vO fW (Nat.ne_of_beq_eq_false hz) (by rw[Nat.zero_add];exact Nat.eq_of_beq_eq_true nm) fl ?_ hk;intro T n4 cV ed ys s1 dL cI oh hv h1 E4 qo V' hb1;rw[ej]at V';obtain⟨rfl,_,_,h4⟩:=cD.row.inj V';have h4:=eq_of_heq h4;subst h4;exact ahG bS.ty ahI ni (Nat.ne_of_beq_eq_false gY) (Nat.ne_of_beq_eq_false Nd) jH (by rw[E4];exact hx1) (by rw[E4];exact o8) hm rL h1 qo hb1
end
end Go.LM
