/- Calls are what the interpreter says. Conditions: each theorem's own hypotheses. -/
import Derived.Test.YtklmgcjamifmaaaGreatDoorLLmb
set_option linter.unusedVariables false
set_option linter.unusedSimpArgs false
namespace Go.LM
def f':List Value→List Value
 | []=>[]
 | .func _ a b :: l=>a.toList++b.toList++f' l
 | _ :: l=>f' l
def gA(w:World)(Z:ah)(key:Nat):(ps:List bB)→(bB.ins ps).D→List Value→ah→Prop
 | [],_,us,_=>us=[]
 | .fn l8 pb :: ps,x,us,F=>∃a b aT,us=.func (.func key) a b :: aT∧(a.size=l8∧b.size=pb)∧gA w Z key ps x aT F
 | .val t m :: ps,x,us,F=>∃vs aT G H,us=dH t vs :: aT∧t.al w Z m x.1 vs G∧gA w Z key ps x.2 aT H∧ah.apart G H∧ah.sub G F∧ah.sub H F
 | .hD t :: ps,x,us,F=>∃vs aT G H,us=dH t vs :: aT∧t.al w Z .R x.1 vs G∧gA w Z key ps x.2 aT H∧ah.apart G H∧ah.sub G F∧ah.sub H F
 | .hC t m :: ps,x,us,F=>∃vs aT G H,us=dH t vs :: aT∧t.al w Z m x.1 vs G∧gA w Z key ps x.2 aT H∧ah.apart G H∧ah.sub G F∧ah.sub H F
 | .ref t :: ps,x,us,F=>∃b o vs aT,us=.pointer (some (at_ b o)) :: aT∧b5 w b o vs∧t.al w Z .R x.1 vs ah.none∧(∀j,j<t.size→Z b (o+j))∧gA w Z key ps x.2 aT F
 | .mut t m _ :: ps,x,us,F=>∃b o vs aT G H,us=.pointer (some (at_ b o)) :: aT∧b5 w b o vs∧(∀j,j<t.size→fk w b (o+j))∧t.al w Z m x.1 vs G∧gA w Z key ps x.2 aT H ∧
   ah.apart (G.or (ah.run b o t.size)) H∧ah.apart G (ah.run b o t.size)∧ah.sub (G.or (ah.run b o t.size)) F∧ah.sub H F
def iu(w:World)(Z:ah):(ps:List bB)→List Value→(bB.d_ ps).D→ah→Prop
 | [],_,_,_=>True
 | .mut t _ m' :: ps,us,x,F=>∃b o vs aT G H,us=.pointer (some (at_ b o)) :: aT∧b5 w b o vs∧t.al w Z m' x.1 vs G∧iu w Z ps aT x.2 H ∧
   ah.apart (G.or (ah.run b o t.size)) H∧ah.apart G (ah.run b o t.size)∧ah.sub (G.or (ah.run b o t.size)) F∧ah.sub H F
 | .hC t m :: ps,us,x,F=>∃vs aT G H,us=dH t vs :: aT∧t.al w Z m x.1 vs G∧iu w Z ps aT x.2 H∧ah.apart G H∧ah.sub G F∧ah.sub H F
 | .val _ _ :: ps,us,x,F=>∃u aT,us=u :: aT∧iu w Z ps aT x F
 | .hD _ :: ps,us,x,F=>∃u aT,us=u :: aT∧iu w Z ps aT x F
 | .ref _ :: ps,us,x,F=>∃u aT,us=u :: aT∧iu w Z ps aT x F
 | .fn _ _ :: ps,us,x,F=>∃u aT,us=u :: aT∧iu w Z ps aT x F
def Iz(w:World)(us:List Value)(a off size:Nat)(x:Int)(v:Value):Prop :=
 (x<0∧v=.pointer none)∨(0≤x∧∃b o ji dD n c,us[a]?=some (.pointer (some (at_ b o)))∧w.cell? (at_ b (o+off))=some (.slice (some (at_ ji dD)) n c)∧x.toNat<n∧v=.pointer (some (at_ ji (dD+x.toNat*size))))
def ia(w:World)(Z:ah)(ps:List bB)(us:List Value):(rs:List cX)→(cX.outs rs (bB.d_ ps)).D→List Value→ah→Prop
 | [],x,du,F=>du=[]∧iu w Z ps us x F
 | .val t m :: rs,x,du,F=>∃vs ec G H,du=dH t vs :: ec∧t.al w Z m x.1 vs G∧ia w Z ps us rs x.2 ec H∧ah.apart G H∧ah.sub G F∧ah.sub H F
 | .opt a off t :: rs,x,du,F=>∃v ec,du=v :: ec∧Iz w us a off t.size x.1 v∧ia w Z ps us rs x.2 ec F
 | .any t :: rs,x,du,F=>∃v ec,du=v :: ec∧(v.cells.toList.length=t.size∧∀u∈v.cells.toList,ee u=true)∧ia w Z ps us rs x ec F
 | .pc t :: rs,x,du,F=>∃v ec,du=v :: ec∧((x.1=[]∧v=.pointer none)∨∃y b o vs,x.1=[y]∧v=.pointer (some (at_ b o))∧b5 w b o vs∧t.al w Z .R y vs ah.none∧∀j,j<t.size→Z b (o+j))∧ia w Z ps us rs x.2 ec F
 | .new t m :: rs,x,du,F=>∃b o vs ec G H,du=.pointer (some (at_ b o)) :: ec∧b5 w b o vs∧(∀j,j<t.size→fk w b (o+j))∧t.al w Z m x.1 vs G∧ia w Z ps us rs x.2 ec H ∧
   ah.apart (G.or (ah.run b o t.size)) H∧ah.apart G (ah.run b o t.size)∧ah.sub (G.or (ah.run b o t.size)) F∧ah.sub H F
def ov:List Value→Value
 | [v]=>v
 | l=>.tuple l.toArray
structure Ends(w:World)(Z F:ah)(e:Entry)(us:List Value)(r:(cX.outs e.rs (bB.d_ e.ps)).D)(v:Value)(w':World):Prop where
 out:∃du Z' F',v=ov du∧Ext w w' F∧ah.sub Z Z'∧(∀b o,Z' b o→Z b o∨((F b o∨w.heap.size≤b)∧b<w'.heap.size))∧(∀b o,F' b o→(F b o∨w.heap.size≤b)∧b<w'.heap.size) ∧
  ah.apart F' Z'∧ia w' Z' e.ps (us++f' us) e.rs r du F'
structure Sound(P:Program)(f:FuncId)(key:Nat)(e:Entry):Prop where
 fn:∃fn,P.funcs[f]?=some fn∧fn.body.isNone=false∧(fn.name == "runtime.NumGoroutine")=false
 calls:∀(w:World) (Z F:ah) (x:(bB.ins e.ps).D) (us:List Value) (r:(cX.outs e.rs (bB.d_ e.ps)).D),
  (∀b o,Z b o→b<w.heap.size)→(∀b o,F b o→b<w.heap.size)→ah.apart F Z→gA w Z key e.ps x (us++f' us) F→e.f x=some r →
  Calls P f us.toArray w fun end_ w'=>∃v,end_=.returned v∧Ends w Z F e us r v w'
def wk(P:Program)(f:FuncId)(us:Array Value)(w:World)(R:Ending→World→Prop):Prop :=
 ((∃fn,P.funcs[f]?=some fn∧fn.body.isNone=false∧(fn.name == "runtime.NumGoroutine")=false)∧Calls P f us w R)∨∃v w',(callFunc f us).run P w=.ok (.value v) w'∧R (.returned v) w'
structure hU(P:Program)(f:FuncId)(key:Nat)(e:Entry):Prop where
 calls:∀(w:World) (Z F:ah) (x:(bB.ins e.ps).D) (us:List Value) (r:(cX.outs e.rs (bB.d_ e.ps)).D),
  (∀b o,Z b o→b<w.heap.size)→(∀b o,F b o→b<w.heap.size)→ah.apart F Z→gA w Z key e.ps x (us++f' us) F→e.f x=some r →
  wk P f us.toArray w fun end_ w'=>∃v,end_=.returned v∧Ends w Z F e us r v w'
theorem Sound.x{P:Program}{f:FuncId}{key:Nat}{e:Entry}(h:Sound P f key e):hU P f key e :=
 ⟨fun w Z F x us r h1 h2 h3 h4 a7=>.inl ⟨h.fn,h.calls w Z F x us r h1 h2 h3 h4 a7⟩⟩
instance {P:Program} {f:FuncId} {key:Nat} {e:Entry} : Coe (Sound P f key e) (hU P f key e):=⟨Sound.x⟩
section
variable{P:Program}{Q:Exit→Act→World→Prop}
variable{w0:World}{F0 Z0:ah}{n:cC}{s ar:an}{a b9:Act}{w w':World}{ι bd:Nat→bF}{Z Z':ah}
theorem gA.mono{key:Nat}(hZ:ah.sub Z Z'):∀(ps:List bB) {x:(bB.ins ps).D} {us:List Value} {F F':ah},ah.sub F F'→gA w Z key ps x us F→gA w Z' key ps x us F'
 | [],_,_,_,_,_,h=>h
 | .fn _ _ :: ps,_,_,_,_,hF,h=>by
  obtain ⟨a,b,aT,h1,h0,h2⟩:=h
  exact⟨a,b,aT,h1,h0,gA.mono hZ ps hF h2⟩
 | .val t m :: ps,_,_,_,_,hF,h=>by
  obtain ⟨vs,aT,G,H,h1,h2,h3,h4,a7,bg⟩:=h
  exact⟨vs,aT,G,H,h1,ad.al.mono hZ _ _ (fun _ _ h=>h) h2,gA.mono hZ ps (fun _ _ h=>h) h3,h4,fun b o h=>hF b o (a7 b o h),fun b o h=>hF b o (bg b o h)⟩
 | .hD t :: ps,_,_,_,_,hF,h=>by
  obtain ⟨vs,aT,G,H,h1,h2,h3,h4,a7,bg⟩:=h
  exact⟨vs,aT,G,H,h1,ad.al.mono hZ _ _ (fun _ _ h=>h) h2,gA.mono hZ ps (fun _ _ h=>h) h3,h4,fun b o h=>hF b o (a7 b o h),fun b o h=>hF b o (bg b o h)⟩
 | .hC t m :: ps,_,_,_,_,hF,h=>by
  obtain ⟨vs,aT,G,H,h1,h2,h3,h4,a7,bg⟩:=h
  exact⟨vs,aT,G,H,h1,ad.al.mono hZ _ _ (fun _ _ h=>h) h2,gA.mono hZ ps (fun _ _ h=>h) h3,h4,fun b o h=>hF b o (a7 b o h),fun b o h=>hF b o (bg b o h)⟩
 | .ref t :: ps,_,_,_,_,hF,h=>by
  obtain ⟨b,o,vs,aT,h1,h2,h3,h4,a7⟩:=h
  exact⟨b,o,vs,aT,h1,h2,ad.al.mono hZ _ _ (fun _ _ h=>h) h3,fun j hj=>hZ _ _ (h4 j hj),gA.mono hZ ps hF a7⟩
 | .mut t m m' :: ps,_,_,_,_,hF,h=>by
  obtain ⟨b,o,vs,aT,G,H,h1,h2,h3,h4,a7,bg,bH,cV,iV⟩:=h
  exact⟨b,o,vs,aT,G,H,h1,h2,h3,ad.al.mono hZ _ _ (fun _ _ h=>h) h4,gA.mono hZ ps (fun _ _ h=>h) a7,bg,bH,fun b o h=>hF b o (cV b o h),fun b o h=>hF b o (iV b o h)⟩
structure fC(s:an)(ι : Nat→bF)(Z:ah)(ar:an)(Z':ah):Prop where
 o:∀id,ar.o id=s.o id∨((s.o id).live∧(ar.o id=.dead∨ar.o id=.cg (s.o id)))
 t:ar.t=s.t
 g:ar.g=s.g
 dE:ah.sub Z Z'
 pf:∀b o,Z' b o→Z b o∨∃id,(s.o id).live∧¬(ar.o id).live∧(ι id).F b o
theorem e_.mm(h:e_ s ι Z ar Z'):fC s ι Z ar Z' :=
 ⟨fun id=>(h.o id).imp (fun h=>h) fun h=>⟨h.1,.inl h.2⟩,h.t,h.g,h.dE,fun b o hz=>(h.pf b o hz).imp (fun h=>h) fun⟨id,h1,h2,h3⟩=>⟨id,h1,by rw [h2];exact Zx,h3⟩⟩
where Zx:¬cm.live .dead:=fun h=>h
theorem fC.refl:fC s ι Z s Z:=e_.mm .refl
theorem fC.live(h:fC s ι Z ar Z'){id:Nat}(hl:(ar.o id).live):(s.o id).live∧ar.o id=s.o id:=by
 rcases h.o id with h1 | ⟨_,h1 | h1⟩
 ·exact⟨h1 ▸ hl,h1⟩
 ·rw [h1] at hl;exact hl.elim
 ·rw [h1] at hl;exact hl.elim
theorem fC.trans{s2:an}{bM:ah}(h:fC s ι Z ar Z')(k:fC ar ι Z' s2 bM):fC s ι Z s2 bM:=by
 refine⟨fun id=>?_,k.t.trans h.t,k.g.trans h.g,fun b o hz=>k.dE b o (h.dE b o hz),fun b o hz=>?_⟩
 ·rcases k.o id with h1 | ⟨h0,h1⟩
  ·rw [h1];exact h.o id
  ·obtain ⟨h2,h3⟩:=h.live h0
   rw [h3] at h1
   exact .inr ⟨h2,h1⟩
 ·rcases k.pf b o hz with h1 | ⟨id,h1,h2,h3⟩
  ·rcases h.pf b o h1 with h1 | ⟨id,h1,h2,h3⟩
   ·exact .inl h1
   ·exact .inr ⟨id,h1,fun hl=>h2 (k.live hl).1,h3⟩
  ·exact .inr ⟨id,(h.live h1).1,h2,h3⟩
theorem fC.ek(h:fC s ι Z ar Z'):eH w Z s ι w Z' ar ι := by
 refine⟨fun id=>?_,h.dE,b6.refl _ _⟩
 rcases h.o id with h1 | ⟨h0,h1 | h1⟩
 ·rw [h1];exact .stay _ _
 ·rw [h1];exact .dead _ _ _
 ·rw [h1];exact .fm _ _ h0
theorem bJ.tE{F:ah}(hf:bJ w0 F0 s w ι Z F)(h:fC s ι Z ar Z'):bJ w0 F0 ar w ι Z' F:=by
 refine⟨hf.own,fun id hl=>hf.apart id (h.live hl).1,fun b o h1 h2=>?_⟩
 rcases h.pf b o h2 with h3 | ⟨id,h3,_,h4⟩
 ·exact hf.c4 b o h1 h3
 ·exact hf.apart id h3 b o h1 h4
theorem yz{id:Nat}(hl:(s.o id).live):fC s ι Z (s.bQ id (.cg (s.o id))) Z:=by
 refine⟨fun j=>?_,rfl,rfl,fun _ _ h=>h,fun _ _ h=>.inl h⟩
 by_cases hj:id=j
 ·subst hj;exact .inr ⟨hl,.inr (cz _ _ _)⟩
 ·exact .inl (cR hj)
theorem Inv.mm(h:Inv w0 F0 Z0 n s a w ι Z)(aB:fC s ι Z ar Z'):Inv w0 F0 Z0 n ar a w ι Z':=by
 have hm:eH w Z s ι w Z' ar ι := aB.ek
 refine h.next hm (Ext.refl _ ah.none) (fun _ _ h=>h.elim) ?_ ?_ ?_ (fun k=>by rw [aB.t];exact(h.tmps k).move hm) h.size h.defers aB.g
 ·intro b o hz
  rcases aB.pf b o hz with h1 | ⟨id,h1,_,h3⟩
  ·exact .inl h1
  ·exact .inr (h.own id h1 b o h3)
 ·intro id hl hne;exact absurd ⟨(aB.live hl).2,rfl⟩ hne
 ·intro id hl b o h1 h2
  obtain ⟨dF,_⟩:=aB.live hl
  rcases aB.pf b o h2 with h3 | ⟨j,h3,h4,a7⟩
  ·exact h.c4 id dF b o h1 h3
  ·have hne:id≠j:=fun e=>h4 (e ▸ hl)
   exact h.apart id j dF h3 hne b o h1 a7
theorem Inv.yA(h:Inv w0 F0 Z0 n s a w ι Z){id:Nat}(hl:(s.o id).live):bJ w0 F0 (s.bQ id (.cg (s.o id))) w ι Z (ι id).F:=by
 refine⟨h.own id hl,fun j hj=>?_,h.c4 id hl⟩
 have hj':(bT s.o id (cm.cg (s.o id)) j).live:=hj
 by_cases hne:id=j
 ·subst hne;rw [cz] at hj';exact hj'.elim
 ·rw [cR hne] at hj'
  exact h.apart id j hl hj' hne
def wm(g:Bool)(w:World)(Z:ah)(s:an)(ι : Nat→bF)(t:ad)(p:Place)(u:Value)(H:ah):Prop :=
 ∃ver old b o vs,(g=true→¬(s.o p.id).live)∧(∀eB,s.o p.id=.cg eB→eB=.var ver old∧(ι p.id).base=some (at_ b o))∧p.fl=none∧u=.pointer (some (at_ b (o+p.off)))∧p.off+t.size≤old.length∧bK w Z s ι old vs ∧
  (∀j,j<old.length→fk w b (o+j))∧(∀j,j<old.length→(j<p.off∨p.off+t.size≤j)→H b (o+j)) ∧
  (∀(j:Nat) (v:Value),vs[j]?=some v→(j<p.off∨p.off+t.size≤j)→w.cell? (at_ b (o+j))=some v)
def wo(g:Bool)(w:World)(Z:ah)(s:an)(ι : Nat→bF)(t:ad)(m:a')(p:Place)(u:Value)(H:ah):Prop :=
 ∃ver xs i b o c G1 G2,(g=true→¬(s.o p.id).live)∧(∀eB,s.o p.id=.cg eB→eB=.row t m ver xs∧(ι p.id).base=some (at_ b o)∧(ι p.id).cap=c)∧p.fl=some i∧i<xs.length∧u=.pointer (some (at_ b (o+i*t.size)))∧xs.length≤c ∧
  (∀j,j<c*t.size→fT w t.size b (o+j))∧(∀j,j<c*t.size→(j<i*t.size∨(i+1)*t.size≤j)→H b (o+j)) ∧
  Row w (t.al w Z m) t.size (xs.take i) b o G1∧Row w (t.al w Z m) t.size (xs.drop (i+1)) b (o +(i+1)*t.size) G2∧ah.apart G1 G2∧ah.sub G1 H∧ah.sub G2 H ∧
  (∀j,j<c*t.size→¬G1 b (o+j)∧¬G2 b (o+j))
def Zy(g:Bool)(s:an)(ι : Nat→bF)(t:ad)(e:a')(cr:Option Place)(v:Value)(H:ah)(w:World):Prop :=
 ∃(p:Place) (i:Nat) (T:ad) (ver:Nat) (ys:List T.D) (b o c:Nat),cr=some p∧p.fl=some i∧(g=true→¬(s.o p.id).live)∧(∀eB,s.o p.id=.cg eB→eB=.row T T.own ver ys∧(ι p.id).base=some (at_ b o)∧(ι p.id).cap=c)∧i<ys.length∧e=t.own ∧
  ∀(bL:World) (bM X:ah) (y:List t.D) (bD:T.D),b6 w bL H→(ad.sl t).al bL bM (.O t.own) y [v] X→ah.apart X H→T.setAt p.off t y (J T ys i)=some bD→m8 bL (T.al bL bM T.own) T.size (ys.set i bD) (at_ b o) c (X.or H)
mutual
def cZ(g:Bool)(w:World)(Z:ah)(s:an)(ι : Nat→bF):(t:ad)→a'→List a8→List Value→ah→Prop
 | .sl t,.O e,cs,vs,H=>∃c v,cs=[c]∧vs=[v]∧match c with
  | .nil _=>v=.slice none 0 0
  | .ag id none=>∃ver xs A k c,(g=true→¬(s.o id).live)∧(∀eB,s.o id=.cg eB→eB=.row t e ver xs∧(ι id).cap=c∧HK (ι id) t.size none xs.length A xs.length k)∧v=.slice A xs.length k ∧
    ((xs=[]∧c=0)∨∃b o,(∀eB,s.o id=.cg eB→(ι id).base=some (at_ b o))∧xs.length≤c∧k≤c∧(k=0∨A=some (at_ b o))∧(∀j,j<c*t.size→fT w t.size b (o+j))∧(∀j,k*t.size≤j→j<c*t.size→H b (o+j)))
  | .b2 _ _ cr _=>Zy g s ι t e cr v H w
  | _=>False
 | .sl _,_,_,_,_=>False
 | .st aj,m,cs,vs,H=>fK g w Z s ι aj m.parts cs vs H
 | _,_,cs,vs,_=>cs.length=1∧vs.length=1
def fK(g:Bool)(w:World)(Z:ah)(s:an)(ι : Nat→bF):(aj:ay)→cW→List a8→List Value→ah→Prop
 | .nil,_,cs,vs,_=>cs=[]∧vs=[]
 | .cons t aj,m,cs,vs,H=>∃c1 gh v1 v2 H1 H2,cs=c1++gh∧vs=v1++v2∧cZ g w Z s ι t m.ag c1 v1 H1∧fK g w Z s ι aj m.dw gh v2 H2∧ah.apart H1 H2∧ah.sub H1 H∧ah.sub H2 H
end
def eT(g:Bool)(w:World)(Z:ah)(s:an)(ι : Nat→bF):(ps:List bB)→List a6→List Value→ah→Prop
 | [],_,_,_=>True
 | .mut t m m' :: ps,vs,us,H=>∃p bI u aT H1 H2,vs=.ptr p :: bI∧us=u :: aT∧(wm g w Z s ι t p u H1∨(m'=m∧m=t.own∧wo g w Z s ι t m p u H1))∧eT g w Z s ι ps bI aT H2∧ah.apart H1 H2∧ah.sub H1 H∧ah.sub H2 H
 | .hC t m :: ps,vs,us,H=>∃v bI u aT cs H1 H2,vs=v :: bI∧us=u :: aT∧iN t v=some cs∧m=t.own∧cZ g w Z s ι t m cs u.cells.toList H1∧eT g w Z s ι ps bI aT H2∧ah.apart H1 H2∧ah.sub H1 H∧ah.sub H2 H
 | _ :: ps,vs,us,H=>∃v bI u aT,vs=v :: bI∧us=u :: aT∧eT g w Z s ι ps bI aT H
end
end Go.LM
namespace Go.LM
section
variable{P:Program}{Q:Exit→Act→World→Prop}
variable{g:Bool}{w0:World}{F0 Z0:ah}{n:cC}{s ar:an}{a b9:Act}{w w':World}{ι bd:Nat→bF}{Z Z':ah}
structure gI(g:Bool)(w:World)(Z:ah)(s:an)(ι : Nat→bF)(w':World)(Z':ah)(ar:an)(bd:Nat→bF)(H:ah):Prop where
 aA:∀x v,aP w Z s ι x v→aP w' Z' ar bd x v
 cell:∀c v,cj w Z s ι c v→cj w' Z' ar bd c v
 dE:ah.sub Z Z'
 cg:∀id o',(g=true→¬(s.o id).live)→ar.o id=.cg o'→s.o id=.cg o' ∧ bd id = ι id
 nl:g=true→∀id,¬(s.o id).live→¬(ar.o id).live
 same:b6 w w' H
 BQ:b6 w w' Z
 wr:∀b o,fk w b o→fk w' b o
 yB:∀z b o,fT w z b o→fT w' z b o
theorem gI.mono{H fW:ah}(h:gI g w Z s ι w' Z' ar bd H)(hs:ah.sub fW H):gI g w Z s ι w' Z' ar bd fW:=⟨h.aA,h.cell,h.dE,h.cg,h.nl,h.same.mono hs,h.BQ,h.wr,h.yB⟩
theorem wm.move{t:ad}{p:Place}{u:Value}{H fW:ah}(h:gI g w Z s ι w' Z' ar bd H)(cD:ah.sub H fW)(hk:wm g w Z s ι t p u H):wm g w' Z' ar bd t p u fW:=by
 obtain ⟨ver,old,b,o,vs,h0,h1,h2,h4,a7,bg,bH,cV,iV⟩:=hk
 have hl:=bg.len
 refine⟨ver,old,b,o,vs,fun aB=>h.nl aB _ (h0 aB),fun eB bY=>?_,h2,h4,a7,bK.mono h.cell bg,fun j hj=>h.wr _ _ (bH j hj),fun j hj hh=>cD _ _ (cV j hj hh),fun j v hv hh=>?_⟩
 ·obtain ⟨dU,eJ⟩:=h.cg _ _ h0 bY
  rw [eJ];exact h1 eB dU
 have hj:j<old.length:=by
  rcases Nat.lt_or_ge j vs.length with h | h
  ·omega
  ·rw [List.getElem?_eq_none h] at hv;simp at hv
 rw [(h.same _ _ (cV j hj hh)).1]
 exact iV j v hv hh
theorem wo.move{t:ad}{m:a'}{p:Place}{u:Value}{H fW:ah}(h:gI g w Z s ι w' Z' ar bd H)(cD:ah.sub H fW)(hk:wo g w Z s ι t m p u H):wo g w' Z' ar bd t m p u fW:=by
 obtain ⟨ver,xs,i,b,o,c,G1,G2,h0,h1,h2,h3,a7,bg,bH,cV,iV,j4,tF,lO,wq,wu⟩:=hk
 have cM:∀(G:ah),ah.sub G H→∀y us dk,ah.sub dk G→t.al w Z m y us dk→t.al w' Z' m y us dk:=fun G hG y us dk HX hr =>
  ad.al.mono h.dE _ _ (fun _ _ h=>h) (ad.al.same h.BQ _ _ (h.same.mono fun b o aB=>hG b o (HX b o aB)) hr)
 have hcap:(i+1)*t.size≤c*t.size:=Nat.mul_le_mul_right _ (by omega)
 have hcell:∀j,j<c*t.size→(j<i*t.size∨(i+1)*t.size≤j)→w'.cell? (at_ b (o+j))=w.cell? (at_ b (o+j)):=fun j hj hh=>(h.same _ _ (cV j hj hh)).1
 refine⟨ver,xs,i,b,o,c,G1,G2,fun aB=>h.nl aB _ (h0 aB),fun eB bY=>?_,h2,h3,a7,bg,fun j hj=>h.yB _ _ _ (bH j hj),fun j hj hh=>cD _ _ (cV j hj hh),?_,?_,tF,fun b o aB=>cD b o (lO b o aB),fun b o aB=>cD b o (wq b o aB),wu⟩
 ·obtain ⟨dU,eJ⟩:=h.cg _ _ h0 bY
  rw [eJ];exact h1 eB dU
 ·refine iV.imp (cM G1 lO) fun j hj=>hcell j ?_ (.inl ?_)
  all_goals
   have:(xs.take i).length=i:=by simp;omega
   rw [this] at hj
   rw [Nat.add_one_mul] at hcap
   omega
 ·refine j4.imp (cM G2 wq) fun j hj=>?_
  have hle:xs.length*t.size≤c*t.size:=Nat.mul_le_mul_right _ bg
  have e1:(xs.drop (i+1)).length=xs.length-(i+1):=by simp
  rw [e1,Nat.sub_mul] at hj
  have:=hcell ((i+1)*t.size+j) (by omega) (.inr (by omega))
  rwa [← Nat.add_assoc] at this
mutual
theorem cZ.move{H fW:ah}(h:gI g w Z s ι w' Z' ar bd H)(cD:ah.sub H fW):∀(t:ad) (m:a') {cs:List a8} {vs:List Value},cZ g w Z s ι t m cs vs H→cZ g w' Z' ar bd t m cs vs fW
 | .int _,_,_,_,hk=>by simp only [cZ] at hk ⊢;exact hk
 | .bool,_,_,_,hk=>by simp only [cZ] at hk ⊢;exact hk
 | .str,_,_,_,hk=>by simp only [cZ] at hk ⊢;exact hk
 | .raw,_,_,_,hk=>by simp only [cZ] at hk ⊢;exact hk
 | .sl t,.R,_,_,hk=>by simp only [cZ] at hk
 | .sl t,.S _,_,_,hk=>by simp only [cZ] at hk
 | .sl t,.O e,_,_,hk=>by
  simp only [cZ] at hk ⊢
  obtain ⟨c,v,h1,h2,hk⟩:=hk
  refine⟨c,v,h1,h2,?_⟩
  cases c with
  | nil=>exact hk
  | ag id sub =>
   cases sub with
   | some=>exact hk
   | none =>
    obtain ⟨ver,xs,A,k,c,mh,k1,k2,bb⟩:=hk
    refine⟨ver,xs,A,k,c,fun aB=>h.nl aB _ (mh aB),fun eB bY=>?_,k2,?_⟩
    ·obtain ⟨dU,eJ⟩:=h.cg _ _ mh bY
     rw [eJ];exact k1 eB dU
    rcases bb with bb | ⟨b,o,c9,eI,iw,ix,iy,pv⟩
    ·exact .inl bb
    ·right
     refine⟨b,o,fun eB bY=>?_,eI,iw,ix,fun j hj=>h.yB _ _ _ (iy j hj),fun j h1 h2=>cD _ _ (pv j h1 h2)⟩
     obtain ⟨dU,eJ⟩:=h.cg _ _ mh bY
     rw [eJ];exact c9 eB dU
  | b2 u dp cr xs =>
   obtain ⟨p,i,T,ver,ys,b,o,c,au,hi,mh,k1,k2,k3,bb⟩:=hk
   refine⟨p,i,T,ver,ys,b,o,c,au,hi,fun aB=>h.nl aB _ (mh aB),fun eB bY=>?_,k2,k3,fun bL bM X y bD c9 eI iw ix=>?_⟩
   ·obtain ⟨dU,eJ⟩:=h.cg _ _ mh bY
    rw [eJ];exact k1 eB dU
   ·have:=bb bL bM X y bD (h.same.trans (c9.mono cD)) eI (fun b o x y=>iw b o x (cD b o y)) ix
    obtain ⟨G,g1,g2,g3⟩:=this.row
    exact⟨this.spot,this.cap,this.wr,fun j hj=>(this.inF j hj).imp (fun h=>h) (cD _ _),G,g1,g2,fun b o x=>(g3 b o x).imp (fun h=>h) (cD b o)⟩
  | _=>exact hk
 | .st aj,m,_,_,hk=>by simp only [cZ] at hk ⊢;exact fK.move h cD aj m.parts hk
theorem fK.move{H fW:ah}(h:gI g w Z s ι w' Z' ar bd H)(cD:ah.sub H fW):∀(aj:ay) (m:cW) {cs:List a8} {vs:List Value},fK g w Z s ι aj m cs vs H→fK g w' Z' ar bd aj m cs vs fW
 | .nil,_,_,_,hk=>by simp only [fK] at hk ⊢;exact hk
 | .cons t aj,m,_,_,hk=>by
  simp only [fK] at hk ⊢
  obtain ⟨c1,gh,v1,v2,H1,H2,h1,h2,h3,h4,a7,bg,bH⟩:=hk
  exact⟨c1,gh,v1,v2,H1,H2,h1,h2,cZ.move (h.mono bg) (fun _ _ h=>h) t m.ag h3,fK.move (h.mono bH) (fun _ _ h=>h) aj m.dw h4,a7,fun b o x=>cD b o (bg b o x),fun b o x=>cD b o (bH b o x)⟩
end
theorem eT.move{H fW:ah}(h:gI g w Z s ι w' Z' ar bd H)(cD:ah.sub H fW):∀(ps:List bB) {vs:List a6} {us:List Value},eT g w Z s ι ps vs us H→eT g w' Z' ar bd ps vs us fW
 | [],_,_,_=>trivial
 | .mut t m m' :: ps,_,_,⟨p,bI,u,aT,H1,H2,h1,h2,h3,h4,a7,bg,bH⟩=>⟨p,bI,u,aT,H1,H2,h1,h2,h3.imp (wm.move (h.mono bg) (fun _ _ h=>h)) (fun hk=>⟨hk.1,hk.2.1,wo.move (h.mono bg) (fun _ _ h=>h) hk.2.2⟩),eT.move (h.mono bH) (fun _ _ h=>h) ps h4,a7,fun b o x=>cD b o (bg b o x),fun b o x=>cD b o (bH b o x)⟩
 | .hC t m :: ps,_,_,⟨v,bI,u,aT,cs,H1,H2,h1,h2,h3,ow,h4,a7,bg,bH,cV⟩=>⟨v,bI,u,aT,cs,H1,H2,h1,h2,h3,ow,cZ.move (h.mono bH) (fun _ _ h=>h) t m h4,eT.move (h.mono cV) (fun _ _ h=>h) ps a7,bg,fun b o x=>cD b o (bH b o x),fun b o x=>cD b o (cV b o x)⟩
 | .val _ _ :: ps,_,_,⟨v,bI,u,aT,h1,h2,h3⟩=>⟨v,bI,u,aT,h1,h2,eT.move h cD ps h3⟩
 | .hD _ :: ps,_,_,⟨v,bI,u,aT,h1,h2,h3⟩=>⟨v,bI,u,aT,h1,h2,eT.move h cD ps h3⟩
 | .ref _ :: ps,_,_,⟨v,bI,u,aT,h1,h2,h3⟩=>⟨v,bI,u,aT,h1,h2,eT.move h cD ps h3⟩
 | .fn _ _ :: ps,_,_,⟨v,bI,u,aT,h1,h2,h3⟩=>⟨v,bI,u,aT,h1,h2,eT.move h cD ps h3⟩
theorem fC.held(h:fC s ι Z ar Z')(H:ah):gI true w Z s ι w Z' ar ι H:=by
 refine⟨fun _ _=>aP.move h.ek,fun _ _=>cj.move h.ek,h.dE,fun id o' hn ho=>⟨?_,rfl⟩,fun _ id hn hl=>hn (h.live hl).1,b6.refl _ _,b6.refl _ _,fun _ _ h=>h,fun _ _ _ h=>h⟩
 rcases h.o id with h1 | ⟨h0,_⟩
 ·rw [← h1,ho]
 ·exact absurd h0 (hn rfl)
def IA(w0:World)(F0 Z0:ah)(n:cC)(s:an)(a:Act)(w:World)(ι : Nat→bF)(Z:ah)(R:List Value→ah→Prop)(BR:an→List a8→List Value→ah→Prop)(cs:List a8)(vs:List Value)(cs':List a8)(ar:an):Prop :=
 ∃c1 us bI F H,cs=c1++cs'∧vs=us++bI∧Inv w0 F0 Z0 n ar a w ι Z∧fC s ι Z ar Z∧bK w Z ar ι cs' bI∧bJ w0 F0 ar w ι Z F∧bJ w0 F0 ar w ι Z H∧ah.apart F H ∧
  R us F∧BR ar c1 us H∧∀b o,F b o∨H b o→∃id,(s.o id).live∧(ι id).F b o
theorem BS{R:List Value→ah→Prop}{BR:an→List a8→List Value→ah→Prop}{c:a8}{v:Value}{cs':List a8}{bI:List Value}(h:Inv w0 F0 Z0 n s a w ι Z)(hc:bK w Z s ι cs' bI)
  (dK:R [v] ah.none) (IB:BR s [c] [v] ah.none):IA w0 F0 Z0 n s a w ι Z R BR (c :: cs') (v :: bI) cs' s :=
 ⟨[c],[v],bI,ah.none,ah.none,rfl,rfl,h,.refl,hc,.none,.none,fun _ _ h=>h.elim,dK,IB,fun _ _ h=>h.elim (fun h=>h.elim) fun h=>h.elim⟩
mutual
theorem ad.yC:∀(t:ad) (m:a') (cs:List a8) (s:an) (r:t.D×List a8×an) (vs:List Value),t.fm m cs s=some r→Inv w0 F0 Z0 n s a w ι Z→bK w Z s ι cs vs →
  IA w0 F0 Z0 n s a w ι Z (fun us F=>t.al w Z m r.1 us F) (fun s c us H=>cZ true w Z s ι t m c us H) cs vs r.2.1 r.2.2
 | .int k,m,cs,s,r,vs,hi,h,hc=>by
  match cs,vs,hc with
  | [],_,_=>simp [ad.fm] at hi
  | _ :: _,[],hc=>exact hc.elim
  | c :: cs,v :: vs,hc =>
   cases c <;> simp only [ad.fm] at hi <;> try (simp at hi;done)
   rename_i k' x
   cases hb:Nat.beq (dt k) (dt k')
   ·rw [hb] at hi;simp at hi
   rw [hb] at hi
   obtain rfl:=aS hi
   have:=BA hb
   subst this
   have hv:v=.int k x:=hc.1
   exact BS h hc.2 (by simp only [ad.al];rw [hv]) (by simp only [cZ];exact⟨rfl,rfl⟩)
 | .bool,m,cs,s,r,vs,hi,h,hc=>by
  match cs,vs,hc with
  | [],_,_=>simp [ad.fm] at hi
  | _ :: _,[],hc=>exact hc.elim
  | c :: cs,v :: vs,hc =>
   cases c <;> simp only [ad.fm] at hi <;> try (simp at hi;done)
   obtain rfl:=aS hi
   have hv:=hc.1
   simp only [cj] at hv
   exact BS h hc.2 (by simp only [ad.al];rw [hv]) (by simp only [cZ];exact⟨rfl,rfl⟩)
 | .str,m,cs,s,r,vs,hi,h,hc=>by
  match cs,vs,hc with
  | [],_,_=>simp [ad.fm] at hi
  | _ :: _,[],hc=>exact hc.elim
  | c :: cs,v :: vs,hc =>
   cases c <;> simp only [ad.fm] at hi <;> try (simp at hi;done)
   obtain rfl:=aS hi
   have hv:=hc.1
   obtain ⟨ku,hv,hx⟩:=hv
   exact BS h hc.2 (by simp only [ad.al];exact⟨ku,by rw [hv],hx⟩) (by simp only [cZ];exact⟨rfl,rfl⟩)
 | .raw,m,cs,s,r,vs,hi,h,hc=>by cases cs <;> cases m <;> simp [ad.fm] at hi
 | .sl t,m,cs,s,r,vs,hi,h,hc=>by
  match cs,vs,hc with
  | [],_,_=>cases m <;> simp [ad.fm] at hi
  | _ :: _,[],hc=>exact hc.elim
  | c :: cs,v :: vs,hc =>
   cases m with
   | R=>simp [ad.fm] at hi
   | S=>simp [ad.fm] at hi
   | O e =>
    cases c with
    | nil u =>
     simp only [ad.fm] at hi
     obtain ⟨x,hx,hi⟩:=bf hi
     obtain ⟨e1,rfl⟩:=gS hx
     subst e1
     obtain rfl:=aS hi
     have hv:v=.slice none 0 0:=hc.1
     refine BS h hc.2 ?_ ?_
     ·simp only [ad.al];exact⟨none,0,by rw [hv];rfl,.inl (by simp)⟩
     ·simp only [cZ];exact⟨_,_,rfl,rfl,hv⟩
    | ag id sub =>
     cases sub with
     | some=>simp [ad.fm] at hi
     | none =>
      simp only [ad.fm] at hi
      cases ho:s.o id with
      | row u em ver xs =>
       rw [ho] at hi
       simp only at hi
       cases hb:a'.beq em e
       ·rw [hb] at hi;simp at hi
       rw [hb] at hi
       simp only [cond_true] at hi
       have:=a'.eq_of_beq _ _ hb
       subst this
       obtain ⟨x,hx,hi⟩:=bf hi
       obtain ⟨e1,rfl⟩:=gS hx
       subst e1
       obtain rfl:=aS hi
       have b_:(s.o id).live:=by rw [ho];trivial
       have aB:fC s ι Z (s.bQ id (.cg (.row u em ver xs))) Z:=by have:=yz (s:=s) (ι := ι) (Z:=Z) b_;rw [ho] at this;exact this
       have ff:bJ w0 F0 (s.bQ id (.cg (.row u em ver xs))) w ι Z (ι id).F:=by have:=h.yA b_;rw [ho] at this;exact this
       have c0:=h.fU id
       rw [ho] at c0
       obtain ⟨_,A,m',k,hv,hh⟩:=hc.1
       have hh:=hh u em ver xs (lD ho)
       have nq:=vV c0 hh
       have pw:m'=xs.length:=hh.OW
       subst pw
       have mn:(s.bQ id (.cg (.row u em ver xs))).o id=.cg (.row u em ver xs):=cz _ _ _
       simp only [ad.al,kQ] at nq
       obtain ⟨pq,k',lE,nq⟩:=nq
       simp only [List.cons.injEq,Value.slice.injEq,and_true,true_and] at lE
       obtain ⟨rfl,rfl⟩:=lE
       rcases c0 with⟨hx0,Zz⟩ | ⟨⟨b,o,sp⟩,eC,hr⟩
       ·refine⟨[.ag id none],[v],vs,ah.none,ah.none,rfl,rfl,h.mm aB,aB,hc.2.move aB.ek,.none,.none,fun _ _ h=>h.elim,?_,?_,fun _ _ h=>h.elim (fun h=>h.elim) fun h=>h.elim⟩
        ·simp only [ad.al]
         have hk0:k=0:=by have:=hh.cap;omega
         exact⟨A,k,by rw [hv],.inl ⟨hx0,hk0⟩⟩
        ·simp only [cZ]
         exact⟨_,_,rfl,rfl,ver,xs,A,k,_,fun _=>by rw [mn];exact fun h=>h,fun eB bY=>by rw [mn] at bY;exact⟨(cm.cg.inj bY).symm,rfl,hh⟩,hv,.inl ⟨hx0,Zz⟩⟩
       ·have hsp:=hr.spot
        simp only at hsp
        subst hsp
        have ZA:k*u.size≤(ι id).cap*u.size:=Nat.mul_le_mul_right _ (by have:=hh.cap;simp only [ej] at this;omega)
        let T:ah:=ah.run b (o+k*u.size) ((ι id).cap*u.size-k*u.size)
        refine⟨[.ag id none],[v],vs,ah.diff (ι id).F T,fun b o=>(ι id).F b o∧T b o,rfl,rfl,h.mm aB,aB,hc.2.move aB.ek,ff.sub fun _ _ h=>h.1,ff.sub fun _ _ h=>h.1,fun b o h1 h2=>h1.2 h2.2,?_,?_,?_⟩
        ·simp only [ad.al]
         refine⟨A,k,by rw [hv],?_⟩
         rcases nq with nq | ⟨⟨b',o',sp⟩,hA,fI⟩
         ·exact .inl nq
         ·rcases hh.at_ with hk0 | ⟨a1,nt,tG⟩
          ·exact .inl ⟨List.eq_nil_of_length_eq_zero (by have:=hh.le;omega),hk0⟩
          ·right
           rw [eC] at nt
           obtain rfl:=aS nt
           rw [hA] at tG
           simp only [ej,Nat.zero_mul,Nat.add_zero,Option.some.injEq,at_,Addr.mk.injEq] at tG
           obtain ⟨rfl,rfl,rfl⟩:=tG
           obtain ⟨G,g1,g2,g3⟩:=hr.row
           refine⟨_,hA,rfl,fI.cap,fI.wr,fun j hj=>⟨fI.inF j hj,?_⟩,G,g1,fun j hj=>g2 j (by omega),fun b o aB=>⟨g3 b o aB,?_⟩⟩
           ·rintro ⟨_,h1,_⟩;simp only at h1;omega
           ·rintro ⟨rfl,h1,h2⟩
            have:=g2 (o-o') (by omega)
            simp only at this
            rw [show o' +(o-o')=o by omega] at this
            exact this aB
        ·simp only [cZ]
         refine⟨_,_,rfl,rfl,ver,xs,A,k,(ι id).cap,fun _=>by rw [mn];exact fun h=>h,fun eB bY=>by rw [mn] at bY;exact⟨(cm.cg.inj bY).symm,rfl,hh⟩,hv,.inr ⟨b,o,fun _ _=>eC,hr.cap,by have:=hh.cap;simp only [ej] at this;omega,?_,hr.wr,fun j h1 h2=>⟨hr.inF j h2,rfl,by omega,by omega⟩⟩⟩
         rcases hh.at_ with h0 | ⟨a1,nt,tG⟩
         ·exact .inl h0
         ·rw [eC] at nt
          obtain rfl:=aS nt
          right;rw [tG];simp [ej,at_]
        ·rintro b o (hf | hf)
         ·exact⟨id,b_,hf.1⟩
         ·exact⟨id,b_,hf.1⟩
      | _=>rw [ho] at hi;simp at hi
    | b2 u dp cr xs =>
     simp only [ad.fm] at hi
     obtain ⟨BT,iB,hi⟩:=bf hi
     obtain rfl:=aS hi
     cases cr with
     | none=>simp [ti] at iB
     | some p =>
      simp only [ti] at iB
      cases e5:p.fl with
      | none=>rw [e5] at iB;simp at iB
      | some i =>
       rw [e5] at iB
       cases ho:s.o p.id with
       | row T em ver ys =>
        rw [ho] at iB
        simp only at iB
        cases hb:(alive s dp&&a'.beq em T.own&&a'.beq e t.own)
        ·rw [hb] at iB;simp at iB
        rw [hb] at iB
        simp only [cond_true] at iB
        simp only [Bool.and_eq_true] at hb
        obtain rfl:=a'.eq_of_beq _ _ hb.1.2
        obtain rfl:=a'.eq_of_beq _ _ hb.2
        obtain ⟨x,hx,iB⟩:=bf iB
        obtain rfl:=aS iB
        obtain ⟨_,_,_,kX⟩:=hc.1
        obtain ⟨_,kX⟩:=kX _ rfl
        obtain ⟨cO,dM,⟨_,fJ⟩,hcell,hin⟩:=kX hb.1.1
        simp only [ho,cm.core] at fJ
        obtain ⟨eb,hii,kY,a0,eC,nm⟩:=fJ
        rw [e5] at hii
        obtain rfl:=aS hii
        have b_:(s.o p.id).live:=by rw [ho];trivial
        have aB:fC s ι Z (s.bQ p.id (.cg (.row T T.own ver ys))) Z:=by have:=yz (s:=s) (ι := ι) (Z:=Z) b_;rw [ho] at this;exact this
        have ff:bJ w0 F0 (s.bQ p.id (.cg (.row T T.own ver ys))) w ι Z (ι p.id).F:=by have:=h.yA b_;rw [ho] at this;exact this
        have c0:=h.fU p.id
        rw [ho] at c0
        rcases c0 with⟨hx0,_⟩ | ⟨a1,hb1,hr⟩
        ·rw [hx0] at kY;simp at kY
        rw [eC] at hb1
        obtain rfl:=aS hb1
        obtain ⟨ab,ao,sp⟩:=a0
        have hsp:=hr.spot
        simp only at hsp
        subst hsp
        obtain ⟨eN,H1,dU,eJ,oo,pj⟩:=hr.lens kY hx
        rw [← nm] at dU
        have IC:eN=v:=by rw [hcell] at dU;exact(aS dU).symm
        subst IC
        have mn:(s.bQ p.id (.cg (.row T T.own ver ys))).o p.id=.cg (.row T T.own ver ys):=cz _ _ _
        refine⟨[.b2 u dp (some p) xs],[eN],vs,H1,ah.diff (ι p.id).F H1,rfl,rfl,h.mm aB,aB,hc.2.move aB.ek,ff.sub oo,ff.sub fun _ _ h=>h.1,fun b o h1 h2=>h2.2 h1,eJ,?_,?_⟩
        ·simp only [cZ]
         exact⟨_,_,rfl,rfl,p,i,T,ver,ys,ab,ao,(ι p.id).cap,rfl,e5,fun _=>by rw [mn];exact fun h=>h,fun eB bY=>by rw [mn] at bY;exact⟨(cm.cg.inj bY).symm,eC,rfl⟩,kY,rfl,pj⟩
        ·rintro b o (hf | hf)
         ·exact⟨p.id,b_,oo b o hf⟩
         ·exact⟨p.id,b_,hf.1⟩
       | _=>rw [ho] at iB;simp at iB
    | _=>simp [ad.fm] at hi
 | .st aj,m,cs,s,r,vs,hi,h,hc=>by
  simp only [ad.fm] at hi
  have:=ay.yC aj m.parts cs s r vs hi h hc
  simpa only [ad.al,cZ] using this
theorem ay.yC:∀(aj:ay) (m:cW) (cs:List a8) (s:an) (r:aj.D×List a8×an) (vs:List Value),aj.fm m cs s=some r→Inv w0 F0 Z0 n s a w ι Z→bK w Z s ι cs vs →
  IA w0 F0 Z0 n s a w ι Z (fun us F=>aj.al w Z m r.1 us F) (fun s c us H=>fK true w Z s ι aj m c us H) cs vs r.2.1 r.2.2
 | .nil,m,cs,s,r,vs,hi,h,hc=>by
  simp only [ay.fm] at hi
  obtain rfl:=aS hi
  exact⟨[],[],vs,ah.none,ah.none,rfl,rfl,h,.refl,hc,.none,.none,fun _ _ h=>h.elim,by simp only [ay.al],by simp [fK],fun _ _ h=>h.elim (fun h=>h.elim) fun h=>h.elim⟩
 | .cons t aj,m,cs,s,r,vs,hi,h,hc=>by
  simp only [ay.fm] at hi
  obtain ⟨bx,h1,hi⟩:=bf hi
  obtain ⟨ch,h2,hi⟩:=bf hi
  obtain rfl:=aS hi
  obtain ⟨c1,us1,vs1,F1,H1,e1,e2,i1,g1,c9,f1,yD,a1,en,k1,dU⟩:=ad.yC t m.ag cs s bx vs h1 h hc
  obtain ⟨gh,us2,vs2,dL,H2,d1,d2,i2,g2,eI,f2,ZB,a2,fo,k2,eJ⟩:=ay.yC aj m.dw bx.2.1 bx.2.2 ch vs1 h2 i1 c9
  have hap:∀ {X:ah},bJ w0 F0 bx.2.2 w ι Z X→∀b o,X b o→(dL b o∨H2 b o)→False:=by
   intro X hX b o hx hh
   obtain ⟨id,hl,hf⟩:=eJ b o hh
   exact hX.apart id hl b o hx hf
  refine⟨c1++gh,us1++us2,vs2,F1.or dL,H1.or H2,by rw [e1,d1,List.append_assoc],by rw [e2,d2,List.append_assoc],i2,g1.trans g2,eI,(f1.tE g2).or f2,(yD.tE g2).or ZB,?_,?_,?_,?_⟩
  ·rintro b o (hf | hf) (hh | hh)
   ·exact a1 b o hf hh
   ·exact hap f1 b o hf (.inr hh)
   ·exact hap yD b o hh (.inl hf)
   ·exact a2 b o hf hh
  ·simp only [ay.al]
   exact⟨us1,us2,F1,dL,rfl,en,fo,fun b o h1 h2=>hap f1 b o h1 (.inl h2),fun _ _ h=>.inl h,fun _ _ h=>.inr h⟩
  ·simp only [fK]
   exact⟨c1,gh,us1,us2,H1,H2,rfl,rfl,cZ.move (g2.held H1) (fun _ _ h=>h) t m.ag k1,k2,fun b o h1 h2=>hap yD b o h1 (.inr h2),fun _ _ h=>.inl h,fun _ _ h=>.inr h⟩
  ·rintro b o ((hf | hf) | (hf | hf))
   ·exact dU b o (.inl hf)
   ·obtain ⟨id,hl,qx⟩:=eJ b o (.inl hf);exact⟨id,(g1.live hl).1,qx⟩
   ·exact dU b o (.inr hf)
   ·obtain ⟨id,hl,qx⟩:=eJ b o (.inr hf);exact⟨id,(g1.live hl).1,qx⟩
end
end
end Go.LM
namespace Go.LM
section
variable{P:Program}{Q:Exit→Act→World→Prop}
variable{w0:World}{F0 Z0:ah}{n:cC}{s ar:an}{a b9:Act}{w w':World}{ι bd:Nat→bF}{Z Z':ah}
theorem BU{t:ad}{x:a6}{v:Value}(hf:oc t x=true)(hv:aP w Z s ι x v):v=dH t v.cells.toList:=by
 cases t <;> cases x <;> simp only [oc] at hf <;> try (simp at hf;done)
 all_goals simp only [aP] at hv
 all_goals first
  | (rw [H6 hv.ee];rfl)
  | (subst hv;rfl)
  | (obtain ⟨vs,rfl,_⟩:=hv;simp [dH,Value.cells])
theorem P5(h:Inv w0 F0 Z0 n s a w ι Z){k:Nat}{p:Place}{cs:List a8}{A:Addr}(hr:l9 s k p=some cs)(au:jh s ι p A) :
  ∃b o vs,A=at_ b o∧bK w Z s ι cs vs∧b5 w b o vs∧vs.length=k∧(s.o p.id).live∧∀j,j<k→(ι p.id).F b (o+j):=by
 obtain ⟨b,o,vs,rfl,h1,h2,h3⟩:=yk h hr au
 refine⟨b,o,vs,rfl,h1,h2,h3,?_⟩
 obtain ⟨hs,au⟩:=au
 unfold l9 at hr
 cases ho:s.o p.id with
 | var ver old =>
  rw [ho] at hr au
  obtain ⟨he,a0,hb,hA⟩:=au
  rw [he] at hr
  obtain ⟨hle,rfl⟩:=pg hr
  have c0:=h.fU p.id
  rw [ho] at c0
  obtain ⟨vW,bI,dG,hsp,hc,ck,hF⟩:=c0
  rw [hb] at dG
  obtain rfl:=aS dG
  simp only [at_,Addr.mk.injEq,and_true] at hA
  obtain ⟨rfl,rfl⟩:=hA
  refine⟨trivial,fun j hj=>?_⟩
  have:=(hF (p.off+j) (by omega)).2
  rwa [← Nat.add_assoc] at this
 | row t em ver xs =>
  rw [ho] at hr au
  obtain ⟨i,he,hi,a0,hb,hA⟩:=au
  rw [he] at hr
  obtain ⟨hle,rfl⟩:=pg hr
  have c0:=h.fU p.id
  rw [ho] at c0
  obtain ⟨vW,bI,dG,hsp,hc,ck,hl⟩:=O1 h ho hi
  rcases c0 with⟨rfl,_⟩ | ⟨a1,hb1,hrow⟩
  ·simp at hi
  rw [hb] at hb1
  obtain rfl:=aS hb1
  simp only [at_,Addr.mk.injEq,and_true] at hA
  obtain ⟨rfl,rfl⟩:=hA
  refine⟨trivial,fun j hj=>?_⟩
  have hcl:=hc.len
  have HV:(i+1)*t.size≤(ι p.id).cap*t.size:=Nat.mul_le_mul_right _ (by have:=hrow.cap;omega)
  rw [Nat.add_one_mul] at HV
  have:=hrow.inF (i*t.size+p.off+j) (by omega)
  rwa [show a0.off +(i*t.size+p.off+j)=a0.off+i*t.size+p.off+j by omega] at this
 | none=>rw [ho] at hr;simp at hr
 | dead=>rw [ho] at hr;simp at hr
 | cg=>rw [ho] at hr;simp at hr
def BV(w0:World)(F0 Z0:ah)(n:cC)(s:an)(a:Act)(w:World)(ι : Nat→bF)(Z:ah)(key:Nat)(bm:List (Nat×Nat))(ps:List bB)(vs:List a6)(us:List Value)(q:(bB.ins ps).D×an×List (Nat×Nat)):Prop :=
 ∃F H cp,Inv w0 F0 Z0 n q.2.1 a w ι cp∧fC s ι Z q.2.1 cp∧gA w (cp.or (dh ι q.2.2)) key ps q.1 us F∧eT true w cp q.2.1 ι ps vs us H∧bJ w0 F0 q.2.1 w ι cp F∧bJ w0 F0 q.2.1 w ι cp H∧ah.apart F H ∧
  (∃nb,q.2.2=nb++bm)∧(∀d,d∈q.2.2→er q.2.1 d)∧∀b o,F b o∨H b o→∃id,(s.o id).live∧(ι id).F b o
theorem ID(h:fC s ι Z ar Z'){d:Nat×Nat}(ag:er s d):er ar d:=(h.ek (w:=default)).turns.dep ag
theorem wv{key:Nat}{sp:bB}{ps:List bB}{v:a6}{vs:List a6}{u:Value}{us:List Value}{bm IE nb:List (Nat×Nat)}{s1:an}{cp F1 H1:ah}{q:(bB.ins ps).D×an×List (Nat×Nat)}{x:(bB.ins (sp :: ps)).D}
  (g1:fC s ι Z s1 cp) (f1:bJ w0 F0 s1 w ι cp F1) (h1:bJ w0 F0 s1 w ι cp H1) (a1:ah.apart F1 H1) (src:∀b o,F1 b o∨H1 b o→∃id,(s.o id).live∧(ι id).F b o) (mo:IE=nb++bm)
  (hr:BV w0 F0 Z0 n s1 a w ι cp key IE ps vs us q)
  (hA:∀(bM dL:ah),ah.sub (cp.or (dh ι IE)) bM→gA w bM key ps q.1 us dL→ah.apart F1 dL→gA w bM key (sp :: ps) x (u :: us) (F1.or dL))
  (IB:∀(s2:an) (bM H2:ah),fC s1 ι cp s2 bM→eT true w bM s2 ι ps vs us H2→ah.apart H1 H2→eT true w bM s2 ι (sp :: ps) (v :: vs) (u :: us) (H1.or H2)) :
  BV w0 F0 Z0 n s a w ι Z key bm (sp :: ps) (v :: vs) (u :: us) (x,q.2):=by
 obtain ⟨dL,H2,bM,i2,g2,ch,k2,f2,h2,a2,⟨HT,jY⟩,d2,s2⟩:=hr
 have hap:∀ {X:ah},bJ w0 F0 s1 w ι cp X→∀b o,X b o→(dL b o∨H2 b o)→False:=by
  intro X hX b o hx hh
  obtain ⟨id,hl,hf⟩:=s2 b o hh
  exact hX.apart id hl b o hx hf
 refine⟨F1.or dL,H1.or H2,bM,i2,g1.trans g2,hA _ _ ?_ ch (fun b o h1 h2=>hap f1 b o h1 (.inl h2)),IB _ _ _ g2 k2 (fun b o x y=>hap h1 b o x (.inr y)),(f1.tE g2).or f2,(h1.tE g2).or h2,?_,⟨HT++nb,by show q.2.2=_;rw [jY,mo,List.append_assoc]⟩,d2,?_⟩
 ·rintro b o (hz | hz)
  ·exact .inl (g2.dE b o hz)
  ·show bM b o∨dh ι q.2.2 b o
   rw [jY];exact .inr (HP _ _ _ b o hz)
 ·rintro b o (hf | hf) (hh | hh)
  ·exact a1 b o hf hh
  ·exact hap f1 b o hf (.inr hh)
  ·exact hap h1 b o hh (.inl hf)
  ·exact a2 b o hf hh
 ·rintro b o ((hf | hf) | (hf | hf))
  ·exact src b o (.inl hf)
  ·obtain ⟨id,hl,qx⟩:=s2 b o (.inl hf);exact⟨id,(g1.live hl).1,qx⟩
  ·exact src b o (.inr hf)
  ·obtain ⟨id,hl,qx⟩:=s2 b o (.inr hf);exact⟨id,(g1.live hl).1,qx⟩
theorem IF{sp:bB}{ps:List bB}{v:a6}{vs:List a6}{u:Value}{us:List Value}{H fW:ah}(hsp:(∃t m,sp=.val t m)∨(∃t,sp=.ref t)∨(∃a b,sp=.fn a b)∨∃t,sp=.hD t)(cD:ah.sub H fW)
  (h:eT true w Z s ι ps vs us H) (hz:gI true w Z s ι w Z s ι H):eT true w Z s ι (sp :: ps) (v :: vs) (u :: us) fW:=by
 have:=eT.move hz cD ps h
 rcases hsp with⟨t,m,rfl⟩ | ⟨t,rfl⟩ | ⟨a,b,rfl⟩ | ⟨t,rfl⟩ <;> exact⟨v,vs,u,us,rfl,rfl,this⟩
theorem IG:∀ {x:List a6} {us:List Value},aX w Z s ι x us→us.length=x.length
 | [],_,h=>by simp only [aX] at h;rw [h];rfl
 | _ :: _,_,h=>by
  simp only [aX] at h
  obtain ⟨u,aT,rfl,_,h2⟩:=h
  simp [IG h2]
theorem qy{key:Nat} : ∀(ps:List bB) (vs:List a6) (us:List Value) (s:an) (Z:ah) (bm:List (Nat×Nat)) (q:(bB.ins ps).D×an×List (Nat×Nat)),gb key s ps vs bm=some q→Inv w0 F0 Z0 n s a w ι Z →
  aX w Z s ι vs us→(∀d,d∈bm→er s d)→BV w0 F0 Z0 n s a w ι Z key bm ps vs us q
 | [],vs,us,s,Z,bm,q,hm,h,hv,hb=>by
  cases vs with
  | cons=>simp [gb] at hm
  | nil =>
   simp only [gb,Option.some.injEq] at hm
   subst hm
   simp only [aX] at hv
   exact⟨ah.none,ah.none,Z,h,.refl,hv,trivial,.none,.none,fun _ _ h=>h.elim,⟨[],rfl⟩,hb,fun _ _ h=>h.elim (fun h=>h.elim) fun h=>h.elim⟩
 | .fn l8 pb :: ps,vs,us,s,Z,bm,q,hm,h,hv,hb=>by
  cases vs with
  | nil=>simp [gb] at hm
  | cons v vs =>
   cases v <;> simp only [gb] at hm <;> try (simp at hm;done)
   rename_i g ZC It
   cases aB:(Nat.beq g key&&Nat.beq ZC.length l8&&Nat.beq It.length pb)
   ·rw [aB] at hm;cases hm
   rw [aB] at hm
   simp only [Bool.and_eq_true] at aB
   obtain ⟨⟨aB,P6⟩,BW⟩:=aB
   have aB:=Nat.eq_of_beq_eq_true aB
   have P6:=Nat.eq_of_beq_eq_true P6
   have BW:=Nat.eq_of_beq_eq_true BW
   subst aB
   simp only [aX,aP] at hv
   obtain ⟨u,aT,rfl,⟨x,y,hx,ZD,PF⟩,e9⟩:=hv
   have alj:=IG ZD
   have alk:=IG PF
   obtain ⟨F,H,cp,i1,g1,bx,k1,f1,h1,a1,fp,d1,s1⟩:=qy ps vs aT s Z bm q hm h e9 hb
   exact⟨F,H,cp,i1,g1,⟨_,_,aT,by rw [hx],⟨by simp;omega,by simp;omega⟩,bx⟩,⟨_,_,_,_,rfl,rfl,k1⟩,f1,h1,a1,fp,d1,s1⟩
 | .val t m :: ps,vs,us,s,Z,bm,q,hm,h,hv,hb=>by
  cases vs with
  | nil=>simp [gb] at hm
  | cons v vs =>
   simp only [gb] at hm
   cases hf:oc t v
   ·rw [hf] at hm;simp at hm
   rw [hf] at hm
   simp only [cond_true] at hm
   cases hcs:iN t v with
   | none=>rw [hcs] at hm;simp at hm
   | some cs =>
    rw [hcs] at hm
    simp only at hm
    obtain ⟨r,hr,hm⟩:=bf hm
    cases ep:r.2.1 with
    | cons=>rw [ep] at hm;simp at hm
    | nil =>
     rw [ep] at hm
     simp only at hm
     obtain ⟨p,au,hm⟩:=bf hm
     obtain rfl:=aS hm
     simp only [aX] at hv
     obtain ⟨u,aT,rfl,hu,e9⟩:=hv
     obtain ⟨us1,vs1,F1,cp,e1,i1,s1,c1,f1,bx,⟨nb,fp⟩,_,d1,g1⟩:=ad.lF t true m cs s bm r _ Z hr h (rI hcs hu) hb
     rw [ep] at c1
     have hvs1:vs1=[]:=by cases vs1 with | nil=>rfl | cons=>exact c1.elim
     subst hvs1
     rw [List.append_nil] at e1
     have hw:=BU hf hu
     rw [e1] at hw
     have nx:=qy ps vs aT r.2.2.1 cp r.2.2.2 p au i1 (aX.move s1.ek e9) d1
     refine wv s1.mm f1 .none (fun _ _ _ h=>h) (fun b o hf=>hf.elim (g1 b o) fun h=>h.elim) fp nx ?_ ?_
     ·intro bM dL hZ hA hap
      exact⟨us1,aT,F1,dL,by rw [← hw],ad.al.mono hZ _ _ (fun _ _ h=>h) bx,hA,hap,fun _ _ h=>.inl h,fun _ _ h=>.inr h⟩
     ·intro s2 bM H2 aB hk kZ
      exact IF (.inl ⟨_,_,rfl⟩) (fun _ _ h=>.inr h) hk (fC.refl.held H2)
 | .hD t :: ps,vs,us,s,Z,bm,q,hm,h,hv,hb=>by
  cases vs with
  | nil=>simp [gb] at hm
  | cons v vs =>
   simp only [gb] at hm
   cases hf:oc t v
   ·rw [hf] at hm;simp at hm
   rw [hf] at hm
   simp only [cond_true] at hm
   cases hcs:iN t v with
   | none=>rw [hcs] at hm;simp at hm
   | some cs =>
    rw [hcs] at hm
    simp only at hm
    obtain ⟨r,hr,hm⟩:=bf hm
    cases ep:r.2.1 with
    | cons=>rw [ep] at hm;simp at hm
    | nil =>
     rw [ep] at hm
     simp only at hm
     obtain ⟨p,au,hm⟩:=bf hm
     obtain rfl:=aS hm
     simp only [aX] at hv
     obtain ⟨u,aT,rfl,hu,e9⟩:=hv
     obtain ⟨us1,vs1,F1,cp,e1,i1,s1,c1,f1,bx,⟨nb,fp⟩,_,d1,g1⟩:=ad.lF t false .R cs s bm r _ Z hr h (rI hcs hu) hb
     rw [ep] at c1
     have hvs1:vs1=[]:=by cases vs1 with | nil=>rfl | cons=>exact c1.elim
     subst hvs1
     rw [List.append_nil] at e1
     have hw:=BU hf hu
     rw [e1] at hw
     have nx:=qy ps vs aT r.2.2.1 cp r.2.2.2 p au i1 (aX.move s1.ek e9) d1
     refine wv s1.mm f1 .none (fun _ _ _ h=>h) (fun b o hf=>hf.elim (g1 b o) fun h=>h.elim) fp nx ?_ ?_
     ·intro bM dL hZ hA hap
      exact⟨us1,aT,F1,dL,by rw [← hw],ad.al.mono hZ _ _ (fun _ _ h=>h) bx,hA,hap,fun _ _ h=>.inl h,fun _ _ h=>.inr h⟩
     ·intro s2 bM H2 aB hk kZ
      exact IF (.inr (.inr (.inr ⟨_,rfl⟩))) (fun _ _ h=>.inr h) hk (fC.refl.held H2)
 | .hC t m :: ps,vs,us,s,Z,bm,q,hm,h,hv,hb=>by
  cases vs with
  | nil=>simp [gb] at hm
  | cons v vs =>
   simp only [gb] at hm
   cases hf:(oc t v&&a'.beq m t.own)
   ·rw [hf] at hm;simp at hm
   rw [hf] at hm
   simp only [cond_true] at hm
   simp only [Bool.and_eq_true] at hf
   obtain ⟨hf,ow⟩:=hf
   have ow:=a'.eq_of_beq _ _ ow
   cases hcs:iN t v with
   | none=>rw [hcs] at hm;simp at hm
   | some cs =>
    rw [hcs] at hm
    simp only at hm
    obtain ⟨r,hr,hm⟩:=bf hm
    cases ep:r.2.1 with
    | cons=>rw [ep] at hm;simp at hm
    | nil =>
     rw [ep] at hm
     simp only at hm
     obtain ⟨p,au,hm⟩:=bf hm
     obtain rfl:=aS hm
     simp only [aX] at hv
     obtain ⟨u,aT,rfl,hu,e9⟩:=hv
     obtain ⟨c1,us1,vs1,F1,H1,e0,e1,i1,g1,c9,f1,yD,a1,bx,k1,dU⟩:=ad.yC t m cs s r _ hr h (rI hcs hu)
     rw [ep] at c9 e0
     have hvs1:vs1=[]:=by cases vs1 with | nil=>rfl | cons=>exact c9.elim
     subst hvs1
     rw [List.append_nil] at e1 e0
     subst e0
     have hw:=BU hf hu
     have nx:=qy ps vs aT r.2.2 Z bm p au i1 (aX.move g1.ek e9) (fun d ag=>ID g1 (hb d ag))
     refine wv (nb:=[]) g1 f1 yD a1 dU rfl nx ?_ ?_
     ·intro bM dL hZ hA hap
      exact⟨us1,aT,F1,dL,by rw [← e1,← hw],ad.al.mono (fun b o hz=>hZ b o (.inl hz)) _ _ (fun _ _ h=>h) bx,hA,hap,fun _ _ h=>.inl h,fun _ _ h=>.inr h⟩
     ·intro s2 bM H2 aB hk kZ
      refine⟨v,vs,u,aT,cs,H1,H2,rfl,rfl,hcs,ow,?_,hk,kZ,fun _ _ h=>.inl h,fun _ _ h=>.inr h⟩
      rw [e1]
      exact cZ.move (aB.held H1) (fun _ _ h=>h) t m k1
 | .ref t :: ps,vs,us,s,Z,bm,q,hm,h,hv,hb=>by
  cases vs with
  | nil=>simp [gb] at hm
  | cons v vs =>
   simp only [aX] at hv
   obtain ⟨u,aT,rfl,hu,e9⟩:=hv
   have go:∀(cs:List a8) (nd:List (Nat×Nat)) (b o:Nat) (ws:List Value),bK w Z s ι cs ws→b5 w b o ws→ws.length=t.size→u=.pointer (some (at_ b o))→(∃nb,nd=nb++bm)→(∀d,d∈nd→er s d) →
     (∀j,j<t.size→Z.or (dh ι nd) b (o+j)) →
     ((t.imp true .R cs s nd).bind fun r=>match r.2.1 with | []=>(gb key r.2.2.1 ps vs r.2.2.2).bind fun q=>some ((r.1,q.1),q.2) | _=>none)=some q→BV w0 F0 Z0 n s a w ι Z key bm (.ref t :: ps) (v :: vs) (u :: aT) q:=by
    intro cs nd b o ws pn ck tu jj ⟨ZE,ZF⟩ ZG hin hm
    obtain ⟨r,hr,hm⟩:=bf hm
    cases ep:r.2.1 with
    | cons=>rw [ep] at hm;simp at hm
    | nil =>
     rw [ep] at hm
     simp only at hm
     obtain ⟨p,au,hm⟩:=bf hm
     obtain rfl:=aS hm
     obtain ⟨us1,vs1,F1,cp,e1,i1,s1,c1,f1,bx,⟨nb,fp⟩,_,d1,g1⟩:=ad.lF t true .R cs s nd r _ Z hr h pn ZG
     rw [ep] at c1
     have hvs1:vs1=[]:=by cases vs1 with | nil=>rfl | cons=>exact c1.elim
     subst hvs1
     rw [List.append_nil] at e1
     subst e1
     have nx:=qy ps vs aT r.2.2.1 cp r.2.2.2 p au i1 (aX.move s1.ek e9) d1
     refine wv (nb:=nb++ZE) s1.mm .none .none (fun _ _ h=>h.elim) (fun b o hf=>hf.elim (fun h=>h.elim) fun h=>h.elim) (by rw [fp,ZF,List.append_assoc]) nx ?_ ?_
     ·intro bM dL hZ hA hap
      refine⟨b,o,ws,aT,by rw [jj],ck,ad.al.mono hZ _ _ (fun _ _ h=>h) (rz bx),fun j hj=>hZ _ _ ?_,gA.mono (fun _ _ h=>h) ps (fun _ _ h=>.inr h) hA⟩
      rcases hin j hj with hz | hz
      ·exact .inl (s1.dE _ _ hz)
      ·rw [fp];exact .inr (HP _ _ _ _ _ hz)
     ·intro s2 bM H2 aB hk kZ
      exact IF (.inr (.inl ⟨_,rfl⟩)) (fun _ _ h=>.inr h) hk (fC.refl.held H2)
   cases v <;> simp only [gb] at hm <;> try (simp at hm;done)
   ·rename_i p
    cases hr:l9 s t.size p with
    | none=>rw [hr] at hm;simp at hm
    | some cs =>
     rw [hr] at hm
     simp only [aP] at hu
     obtain ⟨hk,A,hu,au⟩:=hu
     obtain ⟨b,o,ws,rfl,h1,h2,h3,h4,a7⟩:=P5 h hr au
     refine go cs ((p.id,kq s p.id) :: bm) b o ws h1 h2 h3 hu ⟨[_],rfl⟩ ?_ (fun j hj=>.inr ⟨_,List.mem_cons_self,a7 j hj⟩) hm
     intro d ag
     rcases List.mem_cons.1 ag with rfl | ag
     ·exact⟨hk,.inr (Nat.le_refl _)⟩
     ·exact hb d ag
   ·rename_i dp cs off
    cases ht:takeN off t.size cs with
    | none=>rw [ht] at hm;simp at hm
    | some ds =>
     rw [ht] at hm
     simp only at hm
     cases dV:alive s dp
     ·rw [dV] at hm;simp at hm
     rw [dV] at hm
     simp only [cond_true] at hm
     obtain ⟨hle,rfl⟩:=pg ht
     simp only [aP] at hu
     obtain ⟨ag,b,o,ws,hu,hx⟩:=hu
     obtain ⟨h1,h2,h3⟩:=hx dV
     have hl:=h1.len
     refine go _ (dp++bm) b (o+off) ((ws.drop off).take t.size) ((h1.drop off).take _) (h2.part off _) (by simp;omega) hu ⟨dp,rfl⟩ ?_ ?_ hm
     ·intro d h6
      rcases List.mem_append.1 h6 with h | h
      ·exact ag d h
      ·exact hb d h
     ·intro j hj
      have:=h3 (off+j) (by omega)
      rw [← Nat.add_assoc] at this
      rcases this with hz | ⟨d,ag,hf⟩
      ·exact .inl hz
      ·exact .inr ⟨d,List.mem_append.2 (.inl ag),hf⟩
 | .mut t m m' :: ps,vs,us,s,Z,bm,q,hm,h,hv,hb=>by
  cases vs with
  | nil=>simp [gb] at hm
  | cons v vs =>
   simp only [aX] at hv
   obtain ⟨u,aT,rfl,hu,e9⟩:=hv
   cases v <;> simp only [gb] at hm <;> try (simp at hm;done)
   rename_i p
   simp only [aP] at hu
   obtain ⟨hk,A,hu,au⟩:=hu
   obtain ⟨alm,au⟩:=au
   cases ho:s.o p.id with
   | none=>rw [ho] at hm;simp at hm
   | dead=>rw [ho] at hm;simp at hm
   | cg=>rw [ho] at hm;simp at hm
   | var ver old =>
    rw [ho] at hm au
    obtain ⟨he,a0,eC,hA⟩:=au
    rw [he] at hm
    simp only at hm
    cases ht:takeN p.off t.size old with
    | none=>rw [ht] at hm;simp at hm
    | some cs =>
     rw [ht] at hm
     simp only at hm
     obtain ⟨hle,rfl⟩:=pg ht
     obtain ⟨r,hr,hm⟩:=bf hm
     cases ep:r.2.1 with
     | cons=>rw [ep] at hm;simp at hm
     | nil =>
      rw [ep] at hm
      simp only at hm
      obtain ⟨IH,hq,hm⟩:=bf hm
      obtain rfl:=aS hm
      have b_:(s.o p.id).live:=by rw [ho];trivial
      have aB:fC s ι Z (s.bQ p.id (.cg (.var ver old))) Z:=by have:=yz (s:=s) (ι := ι) (Z:=Z) b_;rw [ho] at this;exact this
      have ff:bJ w0 F0 (s.bQ p.id (.cg (.var ver old))) w ι Z (ι p.id).F:=by have:=h.yA b_;rw [ho] at this;exact this
      have c0:=h.fU p.id
      rw [ho] at c0
      obtain ⟨⟨b,o,sp⟩,ws,dG,hsp,hc,ck,hF⟩:=c0
      simp only at hsp
      subst hsp
      rw [eC] at dG
      obtain rfl:=aS dG
      have hl:=hc.len
      have mn:(s.bQ p.id (.cg (.var ver old))).o p.id=.cg (.var ver old):=cz _ _ _
      have P7:=hc.move aB.ek
      obtain ⟨us1,vs1,F1,cp,e1,i1,s1,c1,f1,bx,⟨nb,fp⟩,_,d1,g1⟩:=ad.lF t true m _ _ bm r _ Z hr (h.mm aB) ((P7.drop p.off).take t.size) (fun d ag=>ID aB (hb d ag))
      rw [ep] at c1
      have hvs1:vs1=[]:=by cases vs1 with | nil=>rfl | cons=>exact c1.elim
      subst hvs1
      rw [List.append_nil] at e1
      have nx:=qy ps vs aT r.2.2.1 cp r.2.2.2 IH hq i1 (aX.move s1.ek (aX.move aB.ek e9)) d1
      have yi:=aB.trans s1.mm
      have hrun:ah.sub (ah.run b (o+p.off) t.size) (ι p.id).F:=by
       rintro b' o' ⟨rfl,h1,h2⟩
       have:=(hF (o'-o) (by omega)).2
       simp only at this
       rwa [show o +(o'-o)=o' by omega] at this
      have P8:=ff.shrink s1
      have P9:ah.apart F1 (ι p.id).F:=by
       intro b o h1 h2
       obtain ⟨id,hl,hf⟩:=g1 b o h1
       exact ff.apart id hl b o h2 hf
      refine wv (F1:=F1.or (ah.run b (o+p.off) t.size)) (H1:=ah.diff (ι p.id).F (ah.run b (o+p.off) t.size)) yi (f1.or (P8.sub hrun)) (P8.sub fun _ _ h=>h.1) ?_ ?_ fp nx ?_ ?_
      ·rintro b o (hf | hf) hh
       ·exact P9 b o hf hh.1
       ·exact hh.2 hf
      ·rintro b' o' ((hf | hf) | hh)
       ·obtain ⟨id,hl,qx⟩:=g1 b' o' hf;exact⟨id,(aB.live hl).1,qx⟩
       ·exact⟨p.id,b_,hrun b' o' hf⟩
       ·exact⟨p.id,b_,hh.1⟩
      ·intro bM dL hZ px hap
       refine⟨b,o+p.off,us1,aT,F1,dL,by rw [hu,hA],?_,?_,ad.al.mono hZ _ _ (fun _ _ h=>h) bx,px,hap,fun b o h1 h2=>P9 b o h1 (hrun b o h2),fun _ _ h=>.inl h,fun _ _ h=>.inr h⟩
       ·rw [← e1];exact ck.part p.off t.size
       ·intro j hj
        have:=(hF (p.off+j) (by omega)).1
        rwa [← Nat.add_assoc] at this
      ·intro s2 bM H2 II hkk kZ
       refine⟨p,vs,u,aT,_,H2,rfl,rfl,.inl ?_,hkk,kZ,fun _ _ h=>.inl h,fun _ _ h=>.inr h⟩
       refine wm.move ((s1.mm.trans II).held (ah.diff (ι p.id).F (ah.run b (o+p.off) t.size))) (fun _ _ h=>h) ?_
       refine⟨ver,old,b,o,ws,fun _=>by rw [mn];exact fun h=>h,fun eB bY=>by rw [mn] at bY;exact⟨(cm.cg.inj bY).symm,eC⟩,he,by rw [hu,hA],hle,P7,fun j hj=>(hF j hj).1,fun j hj hh=>⟨(hF j hj).2,?_⟩,fun j v hv hh=>ck j v hv⟩
       rintro ⟨_,h1,h2⟩
       omega
   | row gJ em ver xs =>
    rw [ho] at hm au
    obtain ⟨i,he,hi,a0,eC,hA⟩:=au
    rw [he] at hm
    simp only at hm
    cases BX:(Nat.beq p.off 0&&a'.beq em m&&a'.beq m' em&&a'.beq m t.own)
    ·rw [BX] at hm;simp at hm
    rw [BX] at hm
    simp only [Bool.and_eq_true] at BX
    obtain ⟨⟨⟨hc1,hc2⟩,yE⟩,IJ⟩:=BX
    have IJ:=a'.eq_of_beq _ _ IJ
    have hc1:=Nat.eq_of_beq_eq_true hc1
    have hc2:=a'.eq_of_beq _ _ hc2
    have yE:=a'.eq_of_beq _ _ yE
    subst hc2
    subst yE
    simp only [cond_true] at hm
    obtain ⟨x,hx,hm⟩:=bf hm
    obtain ⟨e1,rfl⟩:=Bl hx
    subst e1
    obtain ⟨IH,hq,hm⟩:=bf hm
    obtain rfl:=aS hm
    have b_:(s.o p.id).live:=by rw [ho];trivial
    have aB:fC s ι Z (s.bQ p.id (.cg (.row gJ m' ver xs))) Z:=by have:=yz (s:=s) (ι := ι) (Z:=Z) b_;rw [ho] at this;exact this
    have ff:bJ w0 F0 (s.bQ p.id (.cg (.row gJ m' ver xs))) w ι Z (ι p.id).F:=by have:=h.yA b_;rw [ho] at this;exact this
    have c0:=h.fU p.id
    rw [ho] at c0
    rcases c0 with⟨rfl,_⟩ | ⟨⟨b,o,sp⟩,dG,hrow⟩
    ·simp at hi
    have hsp:=hrow.spot
    simp only at hsp
    subst hsp
    rw [eC] at dG
    obtain rfl:=aS dG
    obtain ⟨G,g1,g2,g3⟩:=hrow.row
    obtain ⟨G1,iW,G2,ws,k1,k2,k3,bb,bw,da,c5,dI,fB,gk,db⟩:=g1.BO i hi
    have mn:(s.bQ p.id (.cg (.row gJ m' ver xs))).o p.id=.cg (.row gJ m' ver xs):=cz _ _ _
    have hcap:(i+1)*gJ.size≤(ι p.id).cap*gJ.size:=Nat.mul_le_mul_right _ (by have:=hrow.cap;omega)
    rw [Nat.add_one_mul] at hcap
    have hrun:ah.sub (ah.run b (o+i*gJ.size) gJ.size) (ι p.id).F:=by
     rintro b' o' ⟨rfl,h1,h2⟩
     have:=hrow.inF (o'-o) (by omega)
     simp only at this
     rwa [show o +(o'-o)=o' by omega] at this
    have BY:∀ {X:ah},ah.sub X G→∀j,j<(ι p.id).cap*gJ.size→¬X b (o+j):=fun hX j hj hh=>g2 j hj (hX _ _ hh)
    have rS:∀ {X:ah},ah.sub X G→ah.apart X (ah.run b (o+i*gJ.size) gJ.size):=by
     rintro X hX b' o' hx ⟨rfl,h1,h2⟩
     have:=BY hX (o'-o) (by omega)
     rw [show o +(o'-o)=o' by omega] at this
     exact this hx
    have nx:=qy ps vs aT _ Z bm IH hq (h.mm aB) (aX.move aB.ek e9) (fun d ag=>ID aB (hb d ag))
    have P_:ah.sub (iW.or (ah.run b (o+i*gJ.size) gJ.size)) (ι p.id).F:=fun b o h=>h.elim (fun h=>g3 b o (gk b o h)) (hrun b o)
    have jj:u=.pointer (some (at_ b (o+i*gJ.size))):=by rw [hu,hA,hc1];rfl
    refine wv (nb:=[]) (F1:=iW.or (ah.run b (o+i*gJ.size) gJ.size)) (H1:=ah.diff (ι p.id).F (iW.or (ah.run b (o+i*gJ.size) gJ.size))) aB (ff.sub P_) (ff.sub fun _ _ h=>h.1) (fun b o h1 h2=>h2.2 h1) ?_ rfl nx ?_ ?_
    ·rintro b' o' (hf | hf)
     ·exact⟨p.id,b_,P_ b' o' hf⟩
     ·exact⟨p.id,b_,hf.1⟩
    ·intro bM dL hZ px hap
     refine⟨b,o+i*gJ.size,ws,aT,iW,dL,by rw [jj],bb,fun j hj=>?_,?_,px,hap,rS gk,fun _ _ h=>.inl h,fun _ _ h=>.inr h⟩
     ·have:=(hrow.wr (i*gJ.size+j) (by omega)).1
      rwa [← Nat.add_assoc] at this
     ·rw [c7 hi]
      exact ad.al.mono (fun b o hz=>hZ b o (.inl hz)) _ _ (fun _ _ h=>h) k2
    ·intro s2 bM H2 II hkk kZ
     refine⟨p,vs,u,aT,_,H2,rfl,rfl,.inr ⟨rfl,IJ,?_⟩,hkk,kZ,fun _ _ h=>.inl h,fun _ _ h=>.inr h⟩
     refine wo.move (II.held (ah.diff (ι p.id).F (iW.or (ah.run b (o+i*gJ.size) gJ.size)))) (fun _ _ h=>h) ?_
     refine⟨ver,xs,i,b,o,_,G1,G2,fun _=>by rw [mn];exact fun h=>h,fun eB bY=>by rw [mn] at bY;exact⟨(cm.cg.inj bY).symm,eC,rfl⟩,he,hi,jj,hrow.cap,hrow.wr,fun j hj hh=>⟨hrow.inF j hj,?_⟩,k1,bw,c5,fun b o aB=>⟨g3 b o (fB b o aB),?_⟩,fun b o aB=>⟨g3 b o (db b o aB),?_⟩,fun j hj=>⟨BY fB j hj,BY db j hj⟩⟩
     ·rintro (ZH | ⟨_,h1,h2⟩)
      ·exact BY gk j hj ZH
      ·rw [Nat.add_one_mul] at hh;omega
     ·rintro (hh | hh)
      ·exact da b o aB hh
      ·exact rS fB b o aB hh
     ·rintro (hh | hh)
      ·exact dI b o hh aB
      ·exact rS db b o aB hh
end
end Go.LM
namespace Go.LM
section
variable{P:Program}{Q:Exit→Act→World→Prop}
variable{g:Bool}{w0:World}{F0 Z0:ah}{n:cC}{s ar:an}{a b9:Act}{w w' bL:World}{ι bd eA:Nat→bF}{Z Z' bM:ah}
theorem gI.trans{s2:an}{H:ah}(h:gI g w Z s ι w' Z' ar bd H)(k:gI g w' Z' ar bd bL bM s2 eA H):gI g w Z s ι bL bM s2 eA H:=by
 refine⟨fun x v hx=>k.aA x v (h.aA x v hx),fun c v hc=>k.cell c v (h.cell c v hc),fun b o hz=>k.dE b o (h.dE b o hz),fun id o' hn ho=>?_,fun aB id hn=>k.nl aB id (h.nl aB id hn),h.same.trans k.same,h.BQ.trans ?_,fun b o hw=>k.wr b o (h.wr b o hw),fun z b o hw=>k.yB z b o (h.yB z b o hw)⟩
 ·obtain ⟨h1,h2⟩:=k.cg id o' (fun aB=>h.nl aB id (hn aB)) ho
  obtain ⟨h3,h4⟩:=h.cg id o' hn h1
  exact⟨h3,h2.trans h4⟩
 ·exact k.BQ.mono h.dE
theorem Inv.ZI(h:Inv w0 F0 Z0 n s a w ι Z){id:Nat}{o:cm}{i:bF}(hnl:¬(s.o id).live)(ht:iS (s.o id) (ι id) o i)
  (cM:eH w Z s ι w Z (s.bQ id o) (bT ι id i)→h5 w Z (s.bQ id o) (bT ι id i) i o) (hF:bJ w0 F0 s w ι Z i.F) :
  Inv w0 F0 Z0 n (s.bQ id o) a w (bT ι id i) Z∧eH w Z s ι w Z (s.bQ id o) (bT ι id i):=by
 have hm:eH w Z s ι w Z (s.bQ id o) (bT ι id i):=by
  refine⟨fun j=>?_,fun _ _ h=>h,b6.refl _ _⟩
  show iS (s.o j) (ι j) (bT s.o id o j) (bT ι id i j)
  by_cases hj:id=j
  ·subst hj;rw [cz,cz];exact ht
  ·rw [cR hj,cR hj];exact .stay _ _
 refine⟨?_,hm⟩
 refine h.next hm (Ext.refl _ ah.none) (fun _ _ h=>h.elim) (fun _ _ h=>.inl h) ?_ ?_ (fun k=>(h.tmps k).move hm) h.size h.defers
 ·intro j hl hne
  by_cases hj:id=j
  ·subst hj
   rw [cz]
   refine⟨by show h5 _ _ _ _ _ (bT s.o id o id);rw [cz];exact cM hm,hF.own,fun kT gf jE=>?_⟩
   rw [cR jE]
   have dF:(s.o kT).live:=by
    have:(bT s.o id _ kT).live:=gf
    rwa [cR jE] at this
   exact hF.apart kT dF
  ·exact absurd ⟨cR hj,cR hj⟩ hne
 ·intro j hl
  by_cases hj:id=j
  ·subst hj;rw [cz];exact hF.c4
  ·rw [cR hj]
   have dF:(s.o j).live:=by
    have:(bT s.o id _ j).live:=hl
    rwa [cR hj] at this
   exact h.c4 j dF
def ox(w0:World)(F0 Z0:ah)(n:cC)(s:an)(a:Act)(w:World)(ι : Nat→bF)(Z:ah)(ar:an)(eK:ah):Prop :=
 ∃ bd,Inv w0 F0 Z0 n ar a w bd Z∧gI false w Z s ι w Z ar bd (fun _ _=>True)∧(∀X,bJ w0 F0 s w ι Z X→ah.apart X eK→bJ w0 F0 ar w bd Z X)∧∀id,(s.o id).live→ar.o id=s.o id ∧ bd id = ι id
theorem tH(h:Inv w0 F0 Z0 n s a w ι Z)(eK:ah):ox w0 F0 Z0 n s a w ι Z s eK :=
 ⟨ι,h,⟨fun _ _ h=>h,fun _ _ h=>h,fun _ _ h=>h,fun _ _ _ h=>⟨h,rfl⟩,fun h=>by simp at h,b6.refl _ _,b6.refl _ _,fun _ _ h=>h,fun _ _ _ h=>h⟩,fun _ h _=>h,fun _ _=>⟨rfl,rfl⟩⟩
theorem IK(h:Inv w0 F0 Z0 n s a w ι Z){id:Nat}{o:cm}{i:bF}(hnl:¬(s.o id).live)(ho:∀o',o≠.cg o')(ht:iS (s.o id) (ι id) o i)
  (cM:eH w Z s ι w Z (s.bQ id o) (bT ι id i)→h5 w Z (s.bQ id o) (bT ι id i) i o) (hF:bJ w0 F0 s w ι Z i.F) :
  Inv w0 F0 Z0 n (s.bQ id o) a w (bT ι id i) Z∧gI false w Z s ι w Z (s.bQ id o) (bT ι id i) (fun _ _=>True)∧(∀X,bJ w0 F0 s w ι Z X→ah.apart X i.F→bJ w0 F0 (s.bQ id o) w (bT ι id i) Z X) ∧
  ∀j,(s.o j).live→(s.bQ id o).o j=s.o j∧bT ι id i j = ι j:=by
 obtain ⟨h1,hm⟩:=h.ZI hnl ht cM hF
 refine⟨h1,⟨fun _ _=>aP.move hm,fun _ _=>cj.move hm,fun _ _ h=>h,fun j o' _ hj=>?_,fun h=>by simp at h,b6.refl _ _,b6.refl _ _,fun _ _ h=>h,fun _ _ _ h=>h⟩,fun X hX ha=>⟨hX.own,fun j hl=>?_,hX.c4⟩,fun j hl=>?_⟩
 ·have hj':bT s.o id o j=.cg o':=hj
  by_cases hne:id=j
  ·subst hne;rw [cz] at hj';exact absurd hj' (ho o')
  ·rw [cR hne] at hj'
   exact⟨hj',cR hne⟩
 ·by_cases hne:id=j
  ·subst hne;rw [cz];exact ha
  ·rw [cR hne]
   have dF:(s.o j).live:=by
    have:(bT s.o id _ j).live:=hl
    rwa [cR hne] at this
   exact hX.apart j dF
 ·have hne:id≠j:=fun e=>hnl (e ▸ hl)
  exact⟨cR hne,cR hne⟩
theorem yF(h:Inv w0 F0 Z0 n s a w ι Z){id:Nat}{o:cm}{i:bF}(hnl:¬(s.o id).live)(ho:∀o',o≠.cg o')(ht:iS (s.o id) (ι id) o i)
  (cM:eH w Z s ι w Z (s.bQ id o) (bT ι id i)→h5 w Z (s.bQ id o) (bT ι id i) i o) (hF:bJ w0 F0 s w ι Z i.F):ox w0 F0 Z0 n s a w ι Z (s.bQ id o) i.F:=⟨_,IK h hnl ho ht cM hF⟩
mutual
theorem cZ.len:∀(t:ad) (m:a') {cs:List a8} {vs:List Value} {H:ah},cZ g w Z s ι t m cs vs H→vs.length=t.size
 | .int _,_,_,_,_,hk=>by simp only [cZ] at hk;rw [hk.2];rfl
 | .bool,_,_,_,_,hk=>by simp only [cZ] at hk;rw [hk.2];rfl
 | .str,_,_,_,_,hk=>by simp only [cZ] at hk;rw [hk.2];rfl
 | .raw,_,_,_,_,hk=>by simp only [cZ] at hk;rw [hk.2];rfl
 | .sl t,.R,_,_,_,hk=>by simp only [cZ] at hk
 | .sl t,.S _,_,_,_,hk=>by simp only [cZ] at hk
 | .sl t,.O e,_,_,_,hk=>by simp only [cZ] at hk;obtain ⟨c,v,_,rfl,_⟩:=hk;rfl
 | .st aj,m,_,_,_,hk=>by simp only [cZ] at hk;simpa only [ad.size] using fK.len aj m.parts hk
theorem fK.len:∀(aj:ay) (m:cW) {cs:List a8} {vs:List Value} {H:ah},fK g w Z s ι aj m cs vs H→vs.length=aj.size
 | .nil,_,_,_,_,hk=>by simp only [fK] at hk;rw [hk.2];rfl
 | .cons t aj,m,_,_,_,hk=>by
  simp only [fK] at hk
  obtain ⟨c1,gh,v1,v2,H1,H2,_,rfl,h1,h2,_⟩:=hk
  rw [List.length_append,cZ.len t m.ag h1,fK.len aj m.dw h2];rfl
end
mutual
theorem ad.yG:∀(t:ad) (m:a') (x:t.D) (c1 rest:List a8) (s:an) (ι : Nat→bF) (r:List a8×an) (us:List Value) (F H:ah),t.back x (c1++rest) s=some r→Inv w0 F0 Z0 n s a w ι Z →
  cZ false w Z s ι t m c1 us H→t.al w Z m x us F→bJ w0 F0 s w ι Z F→bJ w0 F0 s w ι Z H→ah.apart F H→r.1=rest∧ox w0 F0 Z0 n s a w ι Z r.2 (F.or H)
 | .int k,m,x,c1,rest,s,ι,r,us,F,H,hb,h,hk,hr,hF,cD,ha=>by
  simp only [cZ] at hk
  obtain ⟨hk,_⟩:=hk
  match c1,hk with
  | [c],_ =>
   simp only [ad.back,List.cons_append,List.nil_append,Option.some.injEq] at hb
   subst hb;exact⟨rfl,tH h _⟩
 | .bool,m,x,c1,rest,s,ι,r,us,F,H,hb,h,hk,hr,hF,cD,ha=>by
  simp only [cZ] at hk
  obtain ⟨hk,_⟩:=hk
  match c1,hk with
  | [c],_ =>
   simp only [ad.back,List.cons_append,List.nil_append,Option.some.injEq] at hb
   subst hb;exact⟨rfl,tH h _⟩
 | .str,m,x,c1,rest,s,ι,r,us,F,H,hb,h,hk,hr,hF,cD,ha=>by
  simp only [cZ] at hk
  obtain ⟨hk,_⟩:=hk
  match c1,hk with
  | [c],_ =>
   simp only [ad.back,List.cons_append,List.nil_append,Option.some.injEq] at hb
   subst hb;exact⟨rfl,tH h _⟩
 | .raw,m,x,c1,rest,s,ι,r,us,F,H,hb,h,hk,hr,hF,cD,ha=>by
  simp only [cZ] at hk
  obtain ⟨hk,_⟩:=hk
  match c1,hk with
  | [c],_ =>
   simp only [ad.back,List.cons_append,List.nil_append,Option.some.injEq] at hb
   subst hb;exact⟨rfl,tH h _⟩
 | .sl t,.R,x,c1,rest,s,ι,r,us,F,H,hb,h,hk,hr,hF,cD,ha=>by
  simp only [cZ] at hk
 | .sl t,.S _,x,c1,rest,s,ι,r,us,F,H,hb,h,hk,hr,hF,cD,ha=>by
  simp only [cZ] at hk
 | .sl t,.O e,x,c1,rest,s,ι,r,us,F,H,hb,h,hk,hr,hF,cD,ha=>by
  simp only [cZ] at hk
  obtain ⟨c,v,rfl,rfl,hk⟩:=hk
  cases c with
  | nil u =>
   simp only [ad.back,List.cons_append,List.nil_append,Option.some.injEq] at hb
   subst hb;exact⟨rfl,tH h _⟩
  | ag id sub =>
   cases sub with
   | some=>exact hk.elim
   | none =>
    simp only at hk
    obtain ⟨ver,xs,A,k,rP,_,hl,hv,hk⟩:=hk
    simp only [ad.back,List.cons_append,List.nil_append] at hb
    cases ho:s.o id with
    | cg eB =>
     rw [ho] at hb
     obtain ⟨rfl,hcap,hh⟩:=hl eB ho
     simp only at hb
     obtain ⟨y,aN,hb2⟩:=bf hb
     obtain ⟨e1,tI⟩:=gS aN
     have tI:x=y:=tI.symm
     subst tI
     obtain rfl:=aS hb2
     refine⟨rfl,?_⟩
     simp only [ad.al] at hr
     obtain ⟨pq,k',lE,hr⟩:=hr
     rw [hv] at lE
     simp only [List.cons.injEq,Value.slice.injEq,and_true] at lE
     obtain ⟨rfl,hlen,rfl⟩:=lE
     have lP:=yF h (id:=id) (o:=.row t e (ver+1) x) (i:=⟨(ι id).base,(ι id).cap,F.or H⟩) (by rw [ho];exact fun h=>h) (fun o'=>by simp) (by rw [ho];exact .rC _ _ _ _ _ _ _ _ _ (by omega) hlen.symm rfl rfl) ?_ (hF.or cD)
     ·exact lP
     intro hm
     rcases hk with⟨rfl,py⟩ | ⟨b,o,eC,IL,ZA,hA,hwr,hJ⟩
     ·left
      refine⟨List.eq_nil_of_length_eq_zero (by rw [← hlen];rfl),?_⟩
      show(ι id).cap=0
      rw [hcap,py]
     ·right
      refine⟨at_ b o,eC _ ho,?_⟩
      rcases hr with⟨rfl,rfl⟩ | ⟨⟨b',o',sp⟩,px,hr⟩
      ·refine⟨rfl,Nat.zero_le _,?_,?_,ah.none,trivial,fun _ _ h=>h,fun _ _ h=>h.elim⟩
       ·show ∀j,j<(ι id).cap*t.size→_
        rw [hcap];exact hwr
       ·show ∀j,j<(ι id).cap*t.size→_
        rw [hcap];exact fun j hj=>.inr (hJ j (by omega) hj)
      ·have hx0:=hr.cap
       by_cases hk0:k=0
       ·subst hk0
        have:x=[]:=List.eq_nil_of_length_eq_zero (by omega)
        subst this
        refine⟨rfl,Nat.zero_le _,?_,?_,ah.none,trivial,fun _ _ h=>h,fun _ _ h=>h.elim⟩
        ·show ∀j,j<(ι id).cap*t.size→_
         rw [hcap];exact hwr
        ·show ∀j,j<(ι id).cap*t.size→_
         rw [hcap];exact fun j hj=>.inr (hJ j (by omega) hj)
       ·have hA:=hA.resolve_left hk0
        rw [px] at hA
        simp only [at_,Option.some.injEq,Addr.mk.injEq] at hA
        obtain ⟨rfl,rfl,rfl⟩:=hA
        obtain ⟨G,g1,g2,g3⟩:=hr.row
        refine⟨rfl,?_,?_,?_,G,g1,?_,fun b o aB=>.inl (g3 b o aB)⟩
        ·show x.length≤(ι id).cap
         rw [hcap,← hlen];exact IL
        ·show ∀j,j<(ι id).cap*t.size→_
         rw [hcap];exact hwr
        ·show ∀j,j<(ι id).cap*t.size→_
         rw [hcap]
         intro j hj
         by_cases lQ:j<k*t.size
         ·exact .inl (hr.inF j lQ)
         ·exact .inr (hJ j (by omega) hj)
        ·show ∀j,j<(ι id).cap*t.size→_
         rw [hcap]
         intro j hj aB
         by_cases lQ:j<k*t.size
         ·exact g2 j lQ aB
         ·exact ha _ _ (g3 _ _ aB) (hJ j (by omega) hj)
    | _=>rw [ho] at hb;simp at hb
  | b2 u dp cr xs =>
   simp only at hk
   obtain ⟨p,i,T,ver,ys,b,o,rP,rfl,e5,_,hl,kY,rfl,ZJ⟩:=hk
   simp only [ad.back,List.cons_append,List.nil_append] at hb
   obtain ⟨s1,lL,hb2⟩:=bf hb
   obtain rfl:=aS hb2
   simp only [vJ,e5] at lL
   cases ho:s.o p.id with
   | cg eB =>
    rw [ho] at lL
    obtain ⟨rfl,eC,hcap⟩:=hl eB ho
    simp only at lL
    obtain ⟨z,hz,lL⟩:=bf lL
    obtain rfl:=aS lL
    refine⟨rfl,?_⟩
    exact yF h (id:=p.id) (o:=.row T T.own (ver+1) (ys.set i z)) (i:=⟨(ι p.id).base,(ι p.id).cap,F.or H⟩) (by rw [ho];exact fun h=>h) (fun o'=>by simp) (by rw [ho];exact .rC _ _ _ _ _ _ _ _ _ (by omega) (by simp) rfl rfl)
     (fun hm=>.inr ⟨at_ b o,eC,by
      have:=ZJ w Z F x z (b6.refl _ _) hr ha hz
      rw [← hcap] at this
      exact this⟩) (hF.or cD)
   | _=>rw [ho] at lL;simp at lL
  | _=>exact hk.elim
 | .st aj,m,x,c1,rest,s,ι,r,us,F,H,hb,h,hk,hr,hF,cD,ha=>by
  simp only [ad.back] at hb
  simp only [cZ] at hk
  simp only [ad.al] at hr
  exact ay.yG aj m.parts x c1 rest s ι r us F H hb h hk hr hF cD ha
theorem ay.yG:∀(aj:ay) (m:cW) (x:aj.D) (c1 rest:List a8) (s:an) (ι : Nat→bF) (r:List a8×an) (us:List Value) (F H:ah),aj.back x (c1++rest) s=some r→Inv w0 F0 Z0 n s a w ι Z →
  fK false w Z s ι aj m c1 us H→aj.al w Z m x us F→bJ w0 F0 s w ι Z F→bJ w0 F0 s w ι Z H→ah.apart F H→r.1=rest∧ox w0 F0 Z0 n s a w ι Z r.2 (F.or H)
 | .nil,m,x,c1,rest,s,ι,r,us,F,H,hb,h,hk,hr,hF,cD,ha=>by
  simp only [fK] at hk
  obtain ⟨rfl,rfl⟩:=hk
  simp only [ay.back,List.nil_append,Option.some.injEq] at hb
  subst hb
  exact⟨rfl,tH h _⟩
 | .cons t aj,m,x,c1,rest,s,ι,r,us,F,H,hb,h,hk,hr,hF,cD,ha=>by
  simp only [fK] at hk
  obtain ⟨d1,d2,v1,v2,H1,H2,rfl,rfl,k1,k2,kZ,iX,hJ⟩:=hk
  simp only [ay.al] at hr
  obtain ⟨us1,us2,G1,G2,he,bx,ch,pz,fa,gV⟩:=hr
  have hlen:v1.length=us1.length:=by rw [cZ.len t m.ag k1,(ad.al.len t m.ag bx).1]
  obtain ⟨rfl,rfl⟩:=List.append_inj he hlen
  simp only [ay.back,List.append_assoc] at hb
  obtain ⟨q,hq,hb⟩:=bf hb
  obtain ⟨e1,dy,i1,rT,fL,yH⟩:=ad.yG t m.ag x.1 d1 (d2++rest) s ι q v1 G1 H1 hq h k1 bx (hF.sub fa) (cD.sub iX) (fun b o h1 h2=>ha b o (fa b o h1) (iX b o h2))
  rw [e1] at hb
  obtain ⟨e2,eA,i2,ny,mq,nz⟩:=ay.yG aj m.dw x.2 d2 rest q.2 dy r v2 G2 H2 hb i1 (fK.move (rT.mono fun _ _ _=>trivial) (fun _ _ h=>h) aj m.dw k2) ch
   (fL G2 (hF.sub gV) (by rintro b o h1 (h2 | h2);exact pz b o h2 h1;exact ha b o (gV b o h1) (iX b o h2)))
   (fL H2 (cD.sub hJ) (by rintro b o h1 (h2 | h2);exact ha b o (fa b o h2) (hJ b o h1);exact kZ b o h2 h1))
   (fun b o h1 h2=>ha b o (gV b o h1) (hJ b o h2))
  refine⟨e2,eA,i2,rT.trans ny,fun X hX fM=>mq X (fL X hX ?_) ?_,fun id hl=>?_⟩
  ·rintro b o h1 (h2 | h2)
   ·exact fM b o h1 (.inl (fa b o h2))
   ·exact fM b o h1 (.inr (iX b o h2))
  ·rintro b o h1 (h2 | h2)
   ·exact fM b o h1 (.inl (gV b o h2))
   ·exact fM b o h1 (.inr (hJ b o h2))
  ·obtain ⟨en,fo⟩:=yH id hl
   obtain ⟨gg,jF⟩:=nz id (en ▸ hl)
   exact⟨gg.trans en,jF.trans fo⟩
end
end
end Go.LM
namespace Go.LM
section
variable{P:Program}{Q:Exit→Act→World→Prop}
variable{g:Bool}{w0:World}{F0 Z0:ah}{n:cC}{s ar:an}{a b9:Act}{w w' bL:World}{ι bd eA:Nat→bF}{Z Z' bM:ah}
theorem lG.held(h:lG s ι ar bd)(H:ah):gI false w Z s ι w Z ar bd H:=by
 have hm:eH w Z s ι w Z ar bd:=h.ek
 refine⟨fun _ _=>aP.move hm,fun _ _=>cj.move hm,fun _ _ h=>h,fun id o' _ ho=>?_,fun h=>by simp at h,b6.refl _ _,b6.refl _ _,fun _ _ h=>h,fun _ _ _ h=>h⟩
 by_cases hn:s.o id=.none
 ·exact absurd ho (h.nl id o' hn)
 ·obtain ⟨h1,h2⟩:=h.o id hn
  exact⟨by rw [← h1,ho],h2⟩
theorem yI{dp:List (Nat×Nat)}(hl:∀d,d∈dp→(s.o d.1).live)(hk:∀id,(s.o id).live→ar.o id=s.o id ∧ bd id = ι id):(∀d,d∈dp→(ar.o d.1).live)∧dh bd dp=dh ι dp:=by
 refine⟨fun d ag=>by rw [(hk d.1 (hl d ag)).1];exact hl d ag,?_⟩
 funext b o
 apply propext
 constructor
 ·rintro ⟨d,ag,hf⟩;exact⟨d,ag,by rw [← (hk d.1 (hl d ag)).2];exact hf⟩
 ·rintro ⟨d,ag,hf⟩;exact⟨d,ag,by rw [(hk d.1 (hl d ag)).2];exact hf⟩
theorem lG.keeps(h:lG s ι ar bd):∀id,(s.o id).live→ar.o id=s.o id ∧ bd id = ι id:=fun id hl=>h.o id (fun e=>by rw [e] at hl;exact hl)
theorem bJ.dh{F:ah}{dp:List (Nat×Nat)}(hF:bJ w0 F0 s w ι Z F)(hl:∀d,d∈dp→(s.o d.1).live):ah.apart F (LM.dh ι dp):=by
 rintro b o h ⟨d,ag,hf⟩
 exact hF.apart d.1 (hl d ag) b o h hf
theorem ox.trans{s1 s2:an}{dy:Nat→bF}{P' Qa eK:ah}(h1:Inv w0 F0 Z0 n s1 a w dy Z)(hh:gI false w Z s ι w Z s1 dy (fun _ _=>True))(hf:∀X,bJ w0 F0 s w ι Z X→ah.apart X P'→bJ w0 F0 s1 w dy Z X)
  (hl:∀id,(s.o id).live→s1.o id=s.o id ∧ dy id = ι id) (k:ox w0 F0 Z0 n s1 a w dy Z s2 Qa) (gK:ah.sub (P'.or Qa) eK):ox w0 F0 Z0 n s a w ι Z s2 eK:=by
 obtain ⟨eA,i2,ny,mq,nz⟩:=k
 refine⟨eA,i2,hh.trans ny,fun X hX fM=>mq X (hf X hX fun b o x y=>fM b o x (gK b o (.inl y))) fun b o x y=>fM b o x (gK b o (.inr y)),fun id b7=>?_⟩
 obtain ⟨en,fo⟩:=hl id b7
 obtain ⟨gg,jF⟩:=nz id (en ▸ b7)
 exact⟨gg.trans en,jF.trans fo⟩
theorem iu.mono(hZ:ah.sub Z Z'):∀(ps:List bB) {us:List Value} {x:(bB.d_ ps).D} {F F':ah},ah.sub F F'→iu w Z ps us x F→iu w Z' ps us x F'
 | [],_,_,_,_,_,_=>trivial
 | .mut t m m' :: ps,_,_,_,_,hF,⟨b,o,vs,aT,G,H,h1,h2,h3,h4,a7,bg,bH,cV⟩=>⟨b,o,vs,aT,G,H,h1,h2,ad.al.mono hZ _ _ (fun _ _ h=>h) h3,iu.mono hZ ps (fun _ _ h=>h) h4,a7,bg,fun b o h=>hF b o (bH b o h),fun b o h=>hF b o (cV b o h)⟩
 | .hC t m :: ps,_,_,_,_,hF,⟨vs,aT,G,H,h1,h2,h3,h4,a7,bg⟩=>⟨vs,aT,G,H,h1,ad.al.mono hZ _ _ (fun _ _ h=>h) h2,iu.mono hZ ps (fun _ _ h=>h) h3,h4,fun b o h=>hF b o (a7 b o h),fun b o h=>hF b o (bg b o h)⟩
 | .val _ _ :: ps,_,_,_,_,hF,⟨u,aT,h1,h2⟩=>⟨u,aT,h1,iu.mono hZ ps hF h2⟩
 | .hD _ :: ps,_,_,_,_,hF,⟨u,aT,h1,h2⟩=>⟨u,aT,h1,iu.mono hZ ps hF h2⟩
 | .ref _ :: ps,_,_,_,_,hF,⟨u,aT,h1,h2⟩=>⟨u,aT,h1,iu.mono hZ ps hF h2⟩
 | .fn _ _ :: ps,_,_,_,_,hF,⟨u,aT,h1,h2⟩=>⟨u,aT,h1,iu.mono hZ ps hF h2⟩
theorem rU{dp:List (Nat×Nat)} : ∀(ps:List bB) (vs:List a6) (us:List Value) (x:(bB.d_ ps).D) (s:an) (ι : Nat→bF) (j:Nat) (q:an×Nat) (F H:ah),l_ dp ps vs x s j=some q→Inv w0 F0 Z0 n s a w ι Z →
  eT false w Z s ι ps vs us H→iu w (Z.or (dh ι dp)) ps us x F→bJ w0 F0 s w ι Z F→bJ w0 F0 s w ι Z H→ah.apart F H→(∀d,d∈dp→(s.o d.1).live∧er s d)→ox w0 F0 Z0 n s a w ι Z q.1 (F.or H)
 | [],vs,us,x,s,ι,j,q,F,H,hu,h,hk,hr,hF,cD,ha,ag=>by
  simp only [l_,Option.some.injEq] at hu
  subst hu
  exact tH h _
 | .val t m :: ps,vs,us,x,s,ι,j,q,F,H,hu,h,hk,hr,hF,cD,ha,ag=>by
  obtain ⟨v,bI,u,aT,rfl,rfl,hk⟩:=hk
  obtain ⟨h_,us2,he,hr⟩:=hr
  simp only [List.cons.injEq] at he
  obtain ⟨rfl,rfl⟩:=he
  exact rU ps bI aT x s ι j q F H (by simpa only [l_] using hu) h hk hr hF cD ha ag
 | .hD t :: ps,vs,us,x,s,ι,j,q,F,H,hu,h,hk,hr,hF,cD,ha,ag=>by
  obtain ⟨v,bI,u,aT,rfl,rfl,hk⟩:=hk
  obtain ⟨h_,us2,he,hr⟩:=hr
  simp only [List.cons.injEq] at he
  obtain ⟨rfl,rfl⟩:=he
  exact rU ps bI aT x s ι j q F H (by simpa only [l_] using hu) h hk hr hF cD ha ag
 | .ref t :: ps,vs,us,x,s,ι,j,q,F,H,hu,h,hk,hr,hF,cD,ha,ag=>by
  obtain ⟨v,bI,u,aT,rfl,rfl,hk⟩:=hk
  obtain ⟨h_,us2,he,hr⟩:=hr
  simp only [List.cons.injEq] at he
  obtain ⟨rfl,rfl⟩:=he
  exact rU ps bI aT x s ι j q F H (by simpa only [l_] using hu) h hk hr hF cD ha ag
 | .fn _ _ :: ps,vs,us,x,s,ι,j,q,F,H,hu,h,hk,hr,hF,cD,ha,ag=>by
  obtain ⟨v,bI,u,aT,rfl,rfl,hk⟩:=hk
  obtain ⟨h_,us2,he,hr⟩:=hr
  simp only [List.cons.injEq] at he
  obtain ⟨rfl,rfl⟩:=he
  exact rU ps bI aT x s ι j q F H (by simpa only [l_] using hu) h hk hr hF cD ha ag
 | .hC t m :: ps,vs,us,x,s,ι,j,q,F,H,hu,h,hk,hr,hF,cD,ha,ag=>by
  obtain ⟨v,bI,u,aT,cs,H1,H2,rfl,rfl,hcs,rfl,k1,k2,kZ,iX,hJ⟩:=hk
  obtain ⟨ws,us2,G1,G2,he,bx,ch,pz,fa,gV⟩:=hr
  simp only [List.cons.injEq] at he
  obtain ⟨rfl,rfl⟩:=he
  simp only [l_,hcs] at hu
  obtain ⟨r,hb,hu⟩:=bf hu
  have hl:=ad.al.len t _ bx
  rw [H8 hl.1 hl.2] at k1
  have IM:t.al w Z t.own x.1 ws G1:=tq t bx
  obtain ⟨e1,dy,i1,rT,fL,yH⟩:=ad.yG t t.own x.1 cs [] s ι r ws G1 H1 (by rw [List.append_nil];exact hb) h k1 IM (hF.sub fa) (cD.sub iX) (fun b o x y=>ha b o (fa b o x) (iX b o y))
  have hdl:=yI (dp:=dp) (fun d hm=>(ag d hm).1) yH
  have yJ:=rU ps bI aT x.2 r.2 dy j q G2 H2 hu i1 (eT.move (rT.mono fun _ _ _=>trivial) (fun _ _ h=>h) ps k2) (by rw [hdl.2];exact ch)
   (fL G2 (hF.sub gV) (by rintro b o x (y | y);exact pz b o y x;exact ha b o (gV b o x) (iX b o y)))
   (fL H2 (cD.sub hJ) (by rintro b o x (y | y);exact ha b o (fa b o y) (hJ b o x);exact kZ b o y x))
   (fun b o x y=>ha b o (gV b o x) (hJ b o y)) (fun d hm=>⟨hdl.1 d hm,by have:=(ag d hm).2;unfold er known kq at *;rw [(yH d.1 (ag d hm).1).1];exact this⟩)
  refine ox.trans i1 rT fL yH yJ ?_
  rintro b o ((y | y) | (y | y))
  ·exact .inl (fa b o y)
  ·exact .inr (iX b o y)
  ·exact .inl (gV b o y)
  ·exact .inr (hJ b o y)
 | .mut t m m' :: ps,vs,us,x,s,ι,j,q,F,H,hu,h,hk,hr,hF,cD,ha,ag=>by
  obtain ⟨p,bI,u,aT,H1,H2,rfl,rfl,k1,k2,kZ,iX,hJ⟩:=hk
  obtain ⟨b,o,ws,us2,G,fW,he,ck,bx,ch,pz,rS,fa,gV⟩:=hr
  simp only [List.cons.injEq] at he
  obtain ⟨rfl,rfl⟩:=he
  have hGF:ah.sub G F:=fun b o x=>fa b o (.inl x)
  have ZK:ah.sub (ah.run b o t.size) F:=fun b o x=>fa b o (.inr x)
  have tu:=ad.al.len t _ bx
  simp only [l_] at hu
  cases ho:s.o p.id with
  | cg eB =>
   rw [ho] at hu
   cases e5:p.fl with
   | none =>
    rw [e5] at hu
    cases eB with
    | var ver old =>
     simp only at hu
     obtain ⟨r,hx,hu⟩:=bf hu
     rcases k1 with k1 | ⟨_,_,_,_,_,_,_,_,_,_,_,_,hk2,_⟩
     case inr=>rw [e5] at hk2;simp at hk2
     obtain ⟨nk,aln,b',o',BZ,_,hl,_,jj,hle,Qb,hwr,B0,hcell⟩:=k1
     obtain ⟨bY,eC⟩:=hl _ ho
     simp only [cm.var.injEq] at bY
     obtain ⟨rfl,rfl⟩:=bY
     simp only [Value.pointer.injEq,Option.some.injEq,at_,Addr.mk.injEq,and_true] at jj
     obtain ⟨rfl,rfl⟩:=jj
     obtain ⟨dy,i1,iY,c1,fL⟩:=ad.oj t m' dp x.1 s ι j r ws G hx h bx (hF.sub hGF) ((hF.sub hGF).dh fun d hm=>(ag d hm).1) (fun d hm=>(ag d hm).2)
     obtain ⟨hs1,ZL⟩:=iY.o p.id (by rw [ho];simp)
     have hcl:=c1.len
     have hol:=Qb.len
     have alo:=tu.1
     have Qc:=iY.keeps
     have IN:bJ w0 F0 r.2.1 w dy Z ((ah.run b (o'+p.off) t.size).or H1):=(fL _ (hF.sub ZK) (fun b o x y=>rS b o y x)).or (fL _ (cD.sub iX) (fun b o x y=>ha b o (hGF b o y) (iX b o x)))
     have lP:=yF i1 (id:=p.id) (o:=.var (ver+1) (old.take p.off++r.1++old.drop (p.off+t.size))) (i:=⟨(dy p.id).base,(dy p.id).cap,(ah.run b (o'+p.off) t.size).or H1⟩)
      (by rw [hs1,ho];exact fun h=>h) (fun o'=>by simp) (by rw [hs1,ho];exact .yh _ _ _ _ _ _ (by omega) rfl) (fun hm=>by
       refine⟨at_ b o',de BZ p.off ws,by rw [ZL];exact eC,rfl,?_,?_,?_⟩
       ·have ZM:bK w Z r.2.1 dy old BZ:=Qb.move iY.ek
        have:=(bK.de ZM c1 p.off).move hm
        rwa [show p.off+r.1.length=p.off+t.size by omega] at this
       ·intro i v hv
        unfold de at hv
        show w.cell? (at_ b (o'+i))=some v
        by_cases h1:i<p.off
        ·rw [List.append_assoc,List.getElem?_append_left (by simp;omega),List.getElem?_take,if_pos h1] at hv
         exact hcell i v hv (.inl h1)
        ·by_cases h2:i<p.off+t.size
         ·rw [List.getElem?_append_left (by simp;omega),List.getElem?_append_right (by simp;omega)] at hv
          simp only [List.length_take] at hv
          have:=ck _ v hv
          rwa [show o'+p.off +(i-min p.off BZ.length)=o'+i by omega] at this
         ·rw [List.getElem?_append_right (by simp;omega)] at hv
          simp only [List.length_append,List.length_take,List.getElem?_drop] at hv
          rw [show p.off+ws.length +(i-(min p.off BZ.length+ws.length))=i by omega] at hv
          exact hcell i v hv (.inr (by omega))
       ·intro i hi
        have c_:i<old.length:=by simp only [List.length_append,List.length_take,List.length_drop] at hi;omega
        refine⟨hwr i c_,?_⟩
        show(ah.run b (o'+p.off) t.size).or H1 b (o'+i)
        by_cases hh:i<p.off∨p.off+t.size≤i
        ·exact .inr (B0 i c_ hh)
        ·exact .inl ⟨rfl,by omega,by omega⟩) IN
     obtain ⟨eA,i2,ny,mq,nz⟩:=lP
     have IP:∀id,(s.o id).live→(r.2.1.bQ p.id (.var (ver+1) (old.take p.off++r.1++old.drop (p.off+t.size)))).o id=s.o id ∧ eA id = ι id:=fun id b7=>by
      obtain ⟨en,fo⟩:=Qc id b7
      obtain ⟨gg,jF⟩:=nz id (en ▸ b7)
      exact⟨gg.trans en,jF.trans fo⟩
     have wx:gI false w Z s ι w Z (r.2.1.bQ p.id (.var (ver+1) (old.take p.off++r.1++old.drop (p.off+t.size)))) eA (fun _ _=>True):=(iY.held _).trans ny
     have j2:∀X,bJ w0 F0 s w ι Z X→ah.apart X ((G.or (ah.run b (o'+p.off) t.size)).or H1)→bJ w0 F0 (r.2.1.bQ p.id (.var (ver+1) (old.take p.off++r.1++old.drop (p.off+t.size)))) w eA Z X:=fun X hX fM=>by
      refine mq X (fL X hX fun b o x y=>fM b o x (.inl (.inl y))) ?_
      rintro b o x (y | y)
      ·exact fM b o x (.inl (.inr y))
      ·exact fM b o x (.inr y)
     have hdl:=yI (dp:=dp) (fun d hm=>(ag d hm).1) IP
     have yJ:=rU ps bI aT x.2 _ eA r.2.2 q fW H2 hu i2 (eT.move (wx.mono fun _ _ _=>trivial) (fun _ _ h=>h) ps k2) (by rw [hdl.2];exact ch)
      (j2 fW (hF.sub gV) (by rintro b o x (y | y);exact pz b o y x;exact ha b o (gV b o x) (iX b o y)))
      (j2 H2 (cD.sub hJ) (by rintro b o x (y | y);exact ha b o (fa b o y) (hJ b o x);exact kZ b o y x))
      (fun b o x y=>ha b o (gV b o x) (hJ b o y)) (fun d hm=>⟨hdl.1 d hm,by have:=(ag d hm).2;unfold er known kq at *;rw [(IP d.1 (ag d hm).1).1];exact this⟩)
     refine ox.trans i2 wx j2 IP yJ ?_
     rintro b o ((y | y) | (y | y))
     ·exact .inl (fa b o y)
     ·exact .inr (iX b o y)
     ·exact .inl (gV b o y)
     ·exact .inr (hJ b o y)
    | _=>simp at hu
   | some i =>
    rw [e5] at hu
    cases eB with
    | row gJ em ver xs =>
     simp only at hu
     obtain ⟨y,aN,hu⟩:=bf hu
     obtain ⟨e1,tI⟩:=Bl aN
     subst e1
     have tI:x.1=y:=tI.symm
     subst tI
     rcases k1 with⟨_,_,_,_,_,_,_,hk2,_⟩ | ⟨mg,ow,k1⟩
     ·rw [e5] at hk2;simp at hk2
     obtain ⟨nk,fV,eb,b',o',c,G1,G2,_,hl,Qd,hi,jj,IL,hwr,B0,ZN,ZO,ZP,Qe,Qf,Qg⟩:=k1
     obtain ⟨bY,eC,hcap⟩:=hl _ ho
     simp only [cm.row.injEq,heq_eq_eq,true_and] at bY
     obtain ⟨rfl,rfl,rfl⟩:=bY
     rw [e5] at Qd
     obtain rfl:=aS Qd
     simp only [Value.pointer.injEq,Option.some.injEq,at_,Addr.mk.injEq,and_true] at jj
     obtain ⟨rfl,rfl⟩:=jj
     subst mg
     have IM:t.al w Z m' x.1 ws G:=by rw [ow] at bx ⊢;exact tq t bx
     have hcs:(i+1)*t.size≤c*t.size:=Nat.mul_le_mul_right _ (by omega)
     rw [Nat.add_one_mul] at hcs
     have IN:bJ w0 F0 s w ι Z ((G.or (ah.run b (o'+i*t.size) t.size)).or H1):=(hF.sub fa).or (cD.sub iX)
     have lP:=yF h (id:=p.id) (o:=.row t m' (ver+1) (xs.set i x.1)) (i:=⟨(ι p.id).base,(ι p.id).cap,(G.or (ah.run b (o'+i*t.size) t.size)).or H1⟩)
      (by rw [ho];exact fun h=>h) (fun o'=>by simp) (by rw [ho];exact .rC _ _ _ _ _ _ _ _ _ (by omega) (by simp) rfl rfl) (fun hm=>by
       right
       refine⟨at_ b o',eC,rfl,?_,?_,?_,?_⟩
       ·show(xs.set i x.1).length≤(ι p.id).cap
        rw [List.length_set,hcap];exact IL
       ·show ∀j,j<(ι p.id).cap*t.size→_
        rw [hcap];exact hwr
       ·show ∀j,j<(ι p.id).cap*t.size→_
        rw [hcap]
        intro j hj
        show((G.or (ah.run b (o'+i*t.size) t.size)).or H1) b (o'+j)
        by_cases hh:j<i*t.size∨(i+1)*t.size≤j
        ·exact .inr (B0 j hj hh)
        ·rw [Nat.add_one_mul] at hh
         exact .inl (.inr ⟨rfl,by omega,by omega⟩)
       ·refine⟨G1.or (G.or G2),Row.BP i hi ZN IM tu.1 ck ZO (fun b o x y=>ha b o (hGF b o y) (iX b o (Qe b o x))) ZP (fun b o x y=>ha b o (hGF b o x) (iX b o (Qf b o y))),?_,?_⟩
        ·show ∀j,j<(ι p.id).cap*t.size→_
         rw [hcap]
         rintro j hj (aB | aB | aB)
         ·exact(Qg j hj).1 aB
         ·by_cases hh:j<i*t.size∨(i+1)*t.size≤j
          ·exact ha _ _ (hGF _ _ aB) (iX _ _ (B0 j hj hh))
          ·rw [Nat.add_one_mul] at hh
           exact rS _ _ aB ⟨rfl,by show o'+i*t.size≤o'+j;omega,by show o'+j<_;omega⟩
         ·exact(Qg j hj).2 aB
        ·rintro b o (aB | aB | aB)
         ·exact .inr (Qe b o aB)
         ·exact .inl (.inl aB)
         ·exact .inr (Qf b o aB)) IN
     obtain ⟨eA,i2,ny,mq,nz⟩:=lP
     have hdl:=yI (dp:=dp) (fun d hm=>(ag d hm).1) nz
     have yJ:=rU ps bI aT x.2 _ eA j q fW H2 hu i2 (eT.move (ny.mono fun _ _ _=>trivial) (fun _ _ h=>h) ps k2) (by rw [hdl.2];exact ch)
      (mq fW (hF.sub gV) (by rintro b o x (y | y);exact pz b o y x;exact ha b o (gV b o x) (iX b o y)))
      (mq H2 (cD.sub hJ) (by rintro b o x (y | y);exact ha b o (fa b o y) (hJ b o x);exact kZ b o y x))
      (fun b o x y=>ha b o (gV b o x) (hJ b o y)) (fun d hm=>⟨hdl.1 d hm,by have:=(ag d hm).2;unfold er known kq at *;rw [(nz d.1 (ag d hm).1).1];exact this⟩)
     refine ox.trans i2 ny mq nz yJ ?_
     rintro b o ((y | y) | (y | y))
     ·exact .inl (fa b o y)
     ·exact .inr (iX b o y)
     ·exact .inl (gV b o y)
     ·exact .inr (hJ b o y)
    | _=>simp at hu
  | _=>rw [ho] at hu;simp at hu
end
end Go.LM
namespace Go.LM
section
variable{P:Program}{Q:Exit→Act→World→Prop}
variable{g:Bool}{w0:World}{F0 Z0:ah}{n:cC}{s ar:an}{a b9:Act}{w w' bL:World}{ι bd eA:Nat→bF}{Z Z' bM:ah}
variable{E:Env}{o:Oper}{bu : Type}{K:an→Option bu}{r : bu}{id:Nat}
theorem B1:∀ {dp:List (Nat×Nat)},alive s dp=true→∀d,d∈dp→(s.o d.1).live
 | [],_,d,ag=>by simp at ag
 | (i,v) :: dp,h,d,ag=>by
  unfold alive at h
  rcases List.mem_cons.1 ag with rfl | ag
  ·cases ho:s.o i with
   | row=>trivial
   | var=>trivial
   | _=>rw [ho] at h;simp at h
  ·cases ho:s.o i with
   | row t em ver xs =>
    rw [ho] at h
    simp only at h
    cases hb:Nat.beq ver v
    ·rw [hb] at h;simp at h
    ·rw [hb] at h;exact B1 h d ag
   | var ver cs =>
    rw [ho] at h
    simp only at h
    cases hb:Nat.beq ver v
    ·rw [hb] at h;simp at h
    ·rw [hb] at h;exact B1 h d ag
   | _=>rw [ho] at h;simp at h
theorem aX.append:∀ {x y:List a6} {us vs:List Value},aX w Z s ι x us→aX w Z s ι y vs→aX w Z s ι (x++y) (us++vs)
 | [],_,_,_,h,k=>by simp only [aX] at h;subst h;exact k
 | _ :: _,_,_,_,h,k=>by
  simp only [aX] at h
  obtain ⟨u,aT,rfl,h1,h2⟩:=h
  simp only [List.cons_append,aX]
  exact⟨u,_,rfl,h1,h2.append k⟩
theorem IQ:∀ {x:List a6} {us:List Value},od x=true→aX w Z s ι x us→aX w Z s ι (lA x) (f' us)
 | [],_,_,h=>by simp only [aX] at h;subst h;simp only [lA,f',aX]
 | v :: l,_,hn,h=>by
  simp only [aX] at h
  obtain ⟨u,aT,rfl,h1,h2⟩:=h
  have hl:od l=true:=by cases v <;> simp_all [od]
  have ih:=IQ hl h2
  cases v with
  | fn f a b =>
   simp only [aP] at h1
   obtain ⟨xs,ys,rfl,c9,eI⟩:=h1
   simp only [lA,f']
   exact(c9.append eI).append ih
  | aD=>simp [od] at hn
  | aU c =>
   simp only [lA]
   have:∀f a b,u≠.func f a b:=by
    rintro f a b rfl
    simp only [aP] at h1
    cases c with
    | b2=>obtain ⟨_,⟨_,_,_,h⟩,_⟩:=h1;simp at h
    | ag=>obtain ⟨_,_,_,_,h,_⟩:=h1;simp at h
    | str=>obtain ⟨_,h,_⟩:=h1;simp at h
    | raw=>obtain ⟨h,_,_,_,h2⟩:=h1;rw [h2] at h;simp at h
    | _=>simp [cj] at h1
   cases u <;> first | exact ih | exact absurd rfl (this _ _ _)
  | iv cs=>simp only [aP] at h1;obtain ⟨_,rfl,_⟩:=h1;exact ih
  | ptr p=>simp only [aP] at h1;obtain ⟨_,_,rfl,_⟩:=h1;exact ih
  | dj=>simp only [aP] at h1;obtain ⟨_,_,_,_,rfl,_⟩:=h1;exact ih
  | gone=>simp [od] at hn
  | rp=>simp [od] at hn
  | jU=>simp only [aP] at h1;subst h1;exact ih
  | kP=>simp only [aP] at h1;subst h1;exact ih
  | may=>simp only [aP] at h1;rcases h1 with⟨_,rfl⟩ | ⟨_,_,_,_,_,rfl,_⟩ <;> exact ih
  | opt=>simp only [aP] at h1;rcases h1.2 with⟨_,rfl⟩ | ⟨_,_,rfl,_⟩ <;> exact ih
  | pa=>simp only [aP] at h1;obtain ⟨_,rfl,_⟩:=h1;exact ih
mutual
theorem cZ.mr:∀(t:ad) (m:a') {cs:List a8} {vs:List Value} {H:ah},cZ true w Z s ι t m cs vs H→cZ false w Z s ι t m cs vs H
 | .int _,_,_,_,_,hk=>by simp only [cZ] at hk ⊢;exact hk
 | .bool,_,_,_,_,hk=>by simp only [cZ] at hk ⊢;exact hk
 | .str,_,_,_,_,hk=>by simp only [cZ] at hk ⊢;exact hk
 | .raw,_,_,_,_,hk=>by simp only [cZ] at hk ⊢;exact hk
 | .sl t,.R,_,_,_,hk=>by simp only [cZ] at hk
 | .sl t,.S _,_,_,_,hk=>by simp only [cZ] at hk
 | .sl t,.O e,_,_,_,hk=>by
  simp only [cZ] at hk ⊢
  obtain ⟨c,v,h1,h2,hk⟩:=hk
  refine⟨c,v,h1,h2,?_⟩
  cases c with
  | nil=>exact hk
  | ag id sub =>
   cases sub with
   | some=>exact hk
   | none=>obtain ⟨ver,xs,A,k,c,_,h⟩:=hk;exact⟨ver,xs,A,k,c,fun h=>by simp at h,h⟩
  | b2 u dp cr xs=>obtain ⟨p,i,T,ver,ys,b,o,c,h1,h2,_,h⟩:=hk;exact⟨p,i,T,ver,ys,b,o,c,h1,h2,fun h=>by simp at h,h⟩
  | _=>exact hk
 | .st aj,m,_,_,_,hk=>by simp only [cZ] at hk ⊢;exact fK.mr aj m.parts hk
theorem fK.mr:∀(aj:ay) (m:cW) {cs:List a8} {vs:List Value} {H:ah},fK true w Z s ι aj m cs vs H→fK false w Z s ι aj m cs vs H
 | .nil,_,_,_,_,hk=>by simp only [fK] at hk ⊢;exact hk
 | .cons t aj,m,_,_,_,hk=>by
  simp only [fK] at hk ⊢
  obtain ⟨c1,gh,v1,v2,H1,H2,h1,h2,h3,h4,a7⟩:=hk
  exact⟨c1,gh,v1,v2,H1,H2,h1,h2,cZ.mr t m.ag h3,fK.mr aj m.dw h4,a7⟩
end
theorem eT.mr:∀(ps:List bB) {vs:List a6} {us:List Value} {H:ah},eT true w Z s ι ps vs us H→eT false w Z s ι ps vs us H
 | [],_,_,_,_=>trivial
 | .mut t m m' :: ps,_,_,_,⟨p,bI,u,aT,H1,H2,h1,h2,h3,h4,a7⟩ =>
  ⟨p,bI,u,aT,H1,H2,h1,h2,h3.imp (fun⟨a,b,c,d,e,_,h⟩=>⟨a,b,c,d,e,fun h=>by simp at h,h⟩) (fun⟨c9,eI,a,b,c,d,e,f,g1,g2,_,h⟩=>⟨c9,eI,a,b,c,d,e,f,g1,g2,fun h=>by simp at h,h⟩),eT.mr ps h4,a7⟩
 | .hC t m :: ps,_,_,_,⟨v,bI,u,aT,cs,H1,H2,h1,h2,h3,ow,h4,a7,bg⟩=>⟨v,bI,u,aT,cs,H1,H2,h1,h2,h3,ow,cZ.mr t m h4,eT.mr ps a7,bg⟩
 | .val _ _ :: ps,_,_,_,⟨v,bI,u,aT,h1,h2,h3⟩=>⟨v,bI,u,aT,h1,h2,eT.mr ps h3⟩
 | .hD _ :: ps,_,_,_,⟨v,bI,u,aT,h1,h2,h3⟩=>⟨v,bI,u,aT,h1,h2,eT.mr ps h3⟩
 | .ref _ :: ps,_,_,_,⟨v,bI,u,aT,h1,h2,h3⟩=>⟨v,bI,u,aT,h1,h2,eT.mr ps h3⟩
 | .fn _ _ :: ps,_,_,_,⟨v,bI,u,aT,h1,h2,h3⟩=>⟨v,bI,u,aT,h1,h2,eT.mr ps h3⟩
theorem ia.mono(hZ:ah.sub Z Z'){ps:List bB}{us:List Value} : ∀(rs:List cX) {x:(cX.outs rs (bB.d_ ps)).D} {du:List Value} {F F':ah},ah.sub F F'→ia w Z ps us rs x du F→ia w Z' ps us rs x du F'
 | [],_,_,_,_,hF,⟨h1,h2⟩=>⟨h1,iu.mono hZ ps hF h2⟩
 | .val t m :: rs,_,_,_,_,hF,⟨vs,ec,G,H,h1,h2,h3,h4,a7,bg⟩=>⟨vs,ec,G,H,h1,ad.al.mono hZ _ _ (fun _ _ h=>h) h2,ia.mono hZ rs (fun _ _ h=>h) h3,h4,fun b o h=>hF b o (a7 b o h),fun b o h=>hF b o (bg b o h)⟩
 | .opt a off t :: rs,_,_,_,_,hF,⟨v,ec,h1,h2,h3⟩=>⟨v,ec,h1,h2,ia.mono hZ rs hF h3⟩
 | .any t :: rs,_,_,_,_,hF,⟨v,ec,h1,h2,h3⟩=>⟨v,ec,h1,h2,ia.mono hZ rs hF h3⟩
 | .pc t :: rs,_,_,_,_,hF,⟨v,ec,h1,h2,h3⟩=>⟨v,ec,h1,h2.imp (fun h=>h) fun⟨y,b,o,vs,k1,k2,k3,bb,bw⟩=>⟨y,b,o,vs,k1,k2,k3,ad.al.mono hZ _ _ (fun _ _ h=>h) bb,fun j hj=>hZ _ _ (bw j hj)⟩,ia.mono hZ rs hF h3⟩
 | .new t m :: rs,_,_,_,_,hF,⟨b,o,vs,ec,G,H,h1,h2,hw,h3,h4,a7,bg,bH,cV⟩=>⟨b,o,vs,ec,G,H,h1,h2,hw,ad.al.mono hZ _ _ (fun _ _ h=>h) h3,ia.mono hZ rs (fun _ _ h=>h) h4,a7,bg,fun b o h=>hF b o (bH b o h),fun b o h=>hF b o (cV b o h)⟩
theorem jh.plus{p:Place}{b o:Nat}(k:Nat)(h:jh s ι p (at_ b o)):jh s ι { p with off:=p.off+k } (at_ b (o+k)):=by
 obtain ⟨_,h⟩:=h
 refine⟨rfl,?_⟩
 show match (s.o p.id).core with | .var _ _=>_ | .row .. => _ | _=>_
 cases hc:(s.o p.id).core with
 | var ver cs =>
  rw [hc] at h
  obtain ⟨h1,a0,h2,h3⟩:=h
  simp only [at_,Addr.mk.injEq,and_true] at h3
  exact⟨h1,a0,h2,by simp only [at_,Addr.mk.injEq,and_true];exact⟨h3.1,by omega⟩⟩
 | row t em ver xs =>
  rw [hc] at h
  obtain ⟨i,h1,h2,a0,h3,h4⟩:=h
  simp only [at_,Addr.mk.injEq,and_true] at h4
  exact⟨i,h1,h2,a0,h3,by simp only [at_,Addr.mk.injEq,and_true];exact⟨h4.1,by omega⟩⟩
 | _=>trivial
theorem aX.get:∀ {x:List a6} {us:List Value} (i:Nat) {v:a6},aX w Z s ι x us→x[i]?=some v→∃u,us[i]?=some u∧aP w Z s ι v u
 | [],_,i,_,_,h=>by simp at h
 | y :: l,_,0,v,h,hv=>by
  simp only [aX] at h
  obtain ⟨u,aT,rfl,h1,h2⟩:=h
  simp at hv;subst hv
  exact⟨u,rfl,h1⟩
 | y :: l,_,i+1,v,h,hv=>by
  simp only [aX] at h
  obtain ⟨u,aT,rfl,h1,h2⟩:=h
  simp only [List.getElem?_cons_succ] at hv ⊢
  exact h2.get i hv
theorem aX.held{g:Bool}{H:ah}(h:gI g w Z s ι w' Z' ar bd H):∀ {x:List a6} {us:List Value},aX w Z s ι x us→aX w' Z' ar bd x us
 | [],_,hx=>by simp only [aX] at hx ⊢;exact hx
 | y :: l,_,hx=>by
  simp only [aX] at hx ⊢
  obtain ⟨u,aT,h0,h1,h2⟩:=hx
  exact⟨u,aT,h0,h.aA _ _ h1,aX.held h h2⟩
theorem wy{bm:List (Nat×Nat)}{ps:List bB}{vs:List a6}{us:List Value} : ∀(rs:List cX) (x:(cX.outs rs (bB.d_ ps)).D) (du:List Value) (s:an) (ι : Nat→bF) (j:Nat) (q:List a6×an) (F H:ah),lz vs ps bm rs x s j=some q →
  Inv w0 F0 Z0 n s a w ι Z→eT false w Z s ι ps vs us H→ia w (Z.or (dh ι bm)) ps us rs x du F→bJ w0 F0 s w ι Z F→bJ w0 F0 s w ι Z H→ah.apart F H→(∀d,d∈bm→(s.o d.1).live∧er s d)→aX w Z s ι vs us →
  ∃ bd,Inv w0 F0 Z0 n q.2 a w bd Z∧(∀x u,aP w Z s ι x u→aP w Z q.2 bd x u)∧aX w Z q.2 bd q.1 du
 | [],x,du,s,ι,j,q,F,H,hu,h,hk,hr,hF,cD,ha,ag,hv=>by
  simp only [lz] at hu
  obtain ⟨r,hx,hu⟩:=bf hu
  obtain rfl:=aS hu
  obtain ⟨rfl,hr⟩:=hr
  obtain ⟨bd,eb,held,_⟩:=rU ps vs us x s ι j r F H hx h hk hr hF cD ha ag
  exact⟨bd,eb,held.aA,by simp only [aX]⟩
 | .val t m :: rs,x,du,s,ι,j,q,F,H,hu,h,hk,hr,hF,cD,ha,ag,hv=>by
  simp only [lz] at hu
  obtain ⟨r,hx,hu⟩:=bf hu
  cases hw:jV t r.1 with
  | none=>rw [hw] at hu;simp at hu
  | some v =>
   rw [hw] at hu
   simp only at hu
   obtain ⟨p,au,hu⟩:=bf hu
   obtain rfl:=aS hu
   obtain ⟨ws,ec,G1,G2,rfl,bx,ch,pz,fa,gV⟩:=hr
   obtain ⟨dy,i1,iY,c1,fL⟩:=ad.oj t m bm x.1 s ι j r ws G1 hx h bx (hF.sub fa) ((hF.sub fa).dh fun d hm=>(ag d hm).1) (fun d hm=>(ag d hm).2)
   have rT:gI false w Z s ι w Z r.2.1 dy (fun _ _=>True):=iY.held _
   have hdl:=yI (dp:=bm) (fun d hm=>(ag d hm).1) iY.keeps
   have IS:aX w Z r.2.1 dy vs us:=aX.move (iY.ek (w:=w) (Z:=Z)) hv
   obtain ⟨eA,i2,pA,hK⟩:=wy rs x.2 ec r.2.1 dy r.2.2 p G2 H au i1 (eT.move (rT.mono fun _ _ _=>trivial) (fun _ _ h=>h) ps hk) (by rw [hdl.2];exact ch)
    (fL G2 (hF.sub gV) (fun b o x y=>pz b o y x)) (fL H cD (fun b o x y=>ha b o (fa b o y) x)) (fun b o x y=>ha b o (gV b o x) y)
    (fun d hm=>⟨hdl.1 d hm,by have:=(ag d hm).2;unfold er known kq at *;rw [(iY.keeps d.1 (ag d hm).1).1];exact this⟩) IS
   refine⟨eA,i2,fun x u hx=>pA x u (rT.aA x u hx),?_⟩
   simp only [aX]
   exact⟨_,ec,rfl,pA _ _ (pk hw c1),hK⟩
 | .new t m :: rs,x,du,s,ι,j,q,F,H,hu,h,hk,hr,hF,cD,ha,ag,hv=>by
  simp only [lz] at hu
  obtain ⟨r,hx,hu⟩:=bf hu
  obtain ⟨s1,hm,hu⟩:=bf hu
  obtain ⟨p,au,hu⟩:=bf hu
  obtain rfl:=aS hu
  obtain ⟨b7,rfl⟩:=qp hm
  obtain ⟨b,o,ws,ec,G1,G2,rfl,ck,hwr,bx,ch,pz,rS,fa,gV⟩:=hr
  have hG:ah.sub G1 F:=fun b o x=>fa b o (.inl x)
  have dK:ah.sub (ah.run b o t.size) F:=fun b o x=>fa b o (.inr x)
  obtain ⟨dy,i1,iY,c1,fL⟩:=ad.oj t m bm x.1 s ι j r ws G1 hx h bx (hF.sub hG) ((hF.sub hG).dh fun d hm=>(ag d hm).1) (fun d hm=>(ag d hm).2)
  have hl:=(ad.al.len t _ bx).1
  have hcl:=c1.len
  have j2:=fL _ (hF.sub dK) (fun b o x y=>rS b o y x)
  obtain ⟨i2,ny,mq,nz⟩:=IK i1 (id:=r.2.2) (o:=.var 0 r.1) (i:=⟨some (at_ b o),0,ah.run b o t.size⟩) (by rw [b7];exact fun h=>h) (fun o'=>by simp) (by rw [b7];exact .made _ _ _) (fun hm=>by
   refine⟨at_ b o,ws,rfl,rfl,c1.move hm,ck,fun k hk=>⟨hwr k (by omega),rfl,by simp [at_],by simp [at_];omega⟩⟩) j2
  have held:gI false w Z s ι w Z _ _ (fun _ _=>True):=(iY.held _).trans ny
  have Qh:∀id,(s.o id).live→(r.2.1.bQ r.2.2 (.var 0 r.1)).o id=s.o id∧bT dy r.2.2 ⟨some (at_ b o),0,ah.run b o t.size⟩ id = ι id:=fun id b_=>by
   obtain ⟨h1,h2⟩:=iY.keeps id b_
   obtain ⟨h3,h4⟩:=nz id (by rw [h1];exact b_)
   exact⟨h3.trans h1,h4.trans h2⟩
  have hdl:=yI (dp:=bm) (fun d hm=>(ag d hm).1) Qh
  have IS:aX w Z _ _ vs us:=aX.held held hv
  have yK:∀X,bJ w0 F0 s w ι Z X→ah.apart X (G1.or (ah.run b o t.size))→bJ w0 F0 (r.2.1.bQ r.2.2 (.var 0 r.1)) w (bT dy r.2.2 ⟨some (at_ b o),0,ah.run b o t.size⟩) Z X:=fun X hX fM =>
   mq X (fL X hX fun b o x y=>fM b o x (.inl y)) fun b o x y=>fM b o x (.inr y)
  obtain ⟨IT,i3,Qi,hK⟩:=wy rs x.2 ec _ _ _ p G2 H au i2 (eT.move (held.mono fun _ _ _=>trivial) (fun _ _ h=>h) ps hk) (by rw [hdl.2];exact ch)
   (yK G2 (hF.sub gV) (fun b o x y=>pz b o y x)) (yK H cD (fun b o x y=>ha b o (fa b o y) x)) (fun b o x y=>ha b o (gV b o x) y)
   (fun d hm=>⟨hdl.1 d hm,by have:=(ag d hm).2;unfold er known kq at *;rw [(Qh d.1 (ag d hm).1).1];exact this⟩) IS
  refine⟨IT,i3,fun x u hx=>Qi x u (held.aA x u hx),?_⟩
  simp only [aX]
  refine⟨_,ec,rfl,Qi _ _ ?_,hK⟩
  simp only [aP]
  refine⟨by show bT r.2.1.o r.2.2 _ r.2.2≠_;rw [cz];simp,_,rfl,rfl,?_⟩
  show match (bT r.2.1.o r.2.2 _ r.2.2).core with | .var _ _=>_ | .row .. => _ | _=>_
  rw [cz]
  exact⟨rfl,at_ b o,by rw [cz],by simp [at_]⟩
 | .any t :: rs,x,du,s,ι,j,q,F,H,hu,h,hk,hr,hF,cD,ha,ag,hv=>by
  simp only [lz] at hu
  obtain ⟨p,au,hu⟩:=bf hu
  obtain rfl:=aS hu
  obtain ⟨v,ec,rfl,ZQ,ch⟩:=hr
  obtain ⟨eA,i2,pA,hK⟩:=wy rs x ec s ι j p F H au h hk ch hF cD ha ag hv
  refine⟨eA,i2,pA,?_⟩
  simp only [aX]
  exact⟨_,ec,rfl,by simp only [aP];exact ZQ,hK⟩
 | .pc t :: rs,x,du,s,ι,j,q,F,H,hu,h,hk,hr,hF,cD,ha,ag,hv=>by
  simp only [lz] at hu
  obtain ⟨p,au,hu⟩:=bf hu
  obtain rfl:=aS hu
  obtain ⟨v,ec,rfl,ho,ch⟩:=hr
  obtain ⟨eA,i2,pA,hK⟩:=wy rs x.2 ec s ι j p F H au h hk ch hF cD ha ag hv
  refine⟨eA,i2,pA,?_⟩
  simp only [aX]
  refine⟨v,ec,rfl,pA _ _ ?_,hK⟩
  simp only [aP]
  rcases ho with⟨h1,h2⟩ | ⟨y,b,o,bI,h1,h2,h3,h4,a7⟩
  ·exact .inl ⟨by rw [h1];rfl,h2⟩
  ·right
   rw [h1]
   refine⟨rfl,fun d hm=>(ag d hm).2,b,o,bI,h2,fun _=>?_⟩
   have hc:bK w Z s ι (t.cells bm none y) bI:=ad.ql t bm none (fun d hm=>(ag d hm).2) (fun _=>h4) ⟨_,_,_,h4⟩ .none
   refine⟨hc,h3,fun j hj=>?_⟩
   have hl:=(ad.al.len t _ h4).1
   have dF:=hc.len
   exact a7 j (by rw [show(J t [y] 0)=y from rfl] at hj;omega)
 | .opt lR off t :: rs,x,du,s,ι,j,q,F,H,hu,h,hk,hr,hF,cD,ha,ag,hv=>by
  simp only [lz] at hu
  obtain ⟨p,au,hu⟩:=bf hu
  cases dW:qg p.2 vs lR off with
  | none=>rw [dW] at hu;simp at hu
  | some id =>
   rw [dW] at hu
   simp only at hu
   cases mu:qh p.2 t id
   ·rw [mu] at hu;cases hu
   rw [mu] at hu
   simp only [cond_true] at hu
   obtain rfl:=aS hu
   obtain ⟨v,ec,rfl,ho,ch⟩:=hr
   obtain ⟨eA,i2,pA,hK⟩:=wy rs x.2 ec s ι j p F H au h hk ch hF cD ha ag hv
   refine⟨eA,i2,pA,?_⟩
   simp only [aX]
   refine⟨v,ec,rfl,?_,hK⟩
   unfold qg at dW
   cases ns:vs[lR]? with
   | none=>rw [ns] at dW;simp at dW
   | some lB =>
    rw [ns] at dW
    cases lB with
    | ptr pl =>
     simp only at dW
     cases c8:l9 p.2 1 { pl with off:=pl.off+off } with
     | none=>rw [c8] at dW;simp at dW
     | some cs =>
      rw [c8] at dW
      have hcs:cs=[.ag id none]:=by
       split at dW
       ·rename_i h;obtain rfl:=aS dW;exact aS h
       ·simp at dW
      subst hcs
      obtain ⟨u,wz,rV⟩:=hv.get lR ns
      have rV:=pA _ _ rV
      simp only [aP] at rV
      obtain ⟨j0,A,rfl,mv⟩:=rV
      obtain ⟨b,o,sp⟩:=A
      have hsp:=mv.1
      simp only at hsp
      subst hsp
      obtain ⟨rG,eG,ws,hA,hc1,hc2,yE⟩:=yk i2 c8 (jh.plus (b:=b) (o:=o) off mv)
      simp only [at_,Addr.mk.injEq,and_true] at hA
      obtain ⟨rfl,rfl⟩:=hA
      match ws,hc1 with
      | [v0],hc1 =>
       obtain ⟨hk0,A,m,k,rfl,hh⟩:=hc1.1
       simp only [aP]
       refine⟨hk0,?_⟩
       rcases ho with⟨h1,h2⟩ | ⟨h1,rM,eS,ji,dD,fp,c1,h2,h3,h4,a7⟩
       ·exact .inl ⟨h1,h2⟩
       ·right
        refine⟨h1,_,a7,rfl,?_⟩
        rw [wz] at h2
        simp only [Option.some.injEq,Value.pointer.injEq,at_,Addr.mk.injEq,and_true] at h2
        obtain ⟨rfl,rfl⟩:=h2
        have:=hc2.head
        rw [h3] at this
        simp only [Option.some.injEq,Value.slice.injEq] at this
        obtain ⟨rfl,rfl,rfl⟩:=this
        show match (p.2.o id).core with | .var _ _=>_ | .row .. => _ | _=>_
        unfold qh at mu
        cases bY:p.2.o id with
        | row u em ver xs =>
         rw [bY] at mu
         have:=ad.eq_of_beq _ _ mu
         subst this
         obtain ⟨c9,eI,iw,ix,iy⟩:=hh u em ver xs (lD bY)
         have c9:fp=xs.length:=c9
         rcases iy with iy | ⟨a0,nm,nt⟩
         ·omega
         ·simp only [ej,Nat.zero_mul,Nat.add_zero,Option.some.injEq,at_,Addr.mk.injEq,and_true] at nt
          refine⟨_,rfl,by omega,a0,nm,?_⟩
          simp only [at_,Addr.mk.injEq,and_true]
          exact⟨nt.1,by omega⟩
        | _=>rw [bY] at mu;cases mu
    | _=>simp at dW
end
end Go.LM
namespace Go.LM
section
variable{P:Program}{Q:Exit→Act→World→Prop}
variable{g:Bool}{w0:World}{F0 Z0:ah}{n:cC}{s ar:an}{a b9:Act}{w w' bL:World}{ι bd eA:Nat→bF}{Z Z' bM:ah}
variable{E:Env}{o:Oper}{bu : Type}{K:an→Option bu}{r : bu}{id:Nat}
def B2:List a6→a6
 | [v]=>v
 | l=>.pa l
theorem Calls.mono{P:Program}{f:FuncId}{args:Array Value}{w:World}{R iQ:Ending→World→Prop}(h:Calls P f args w R)(dK:∀e w',R e w'→iQ e w'):Calls P f args w iQ:=by
 intro cs
 obtain ⟨e,w',nA,h1,h2⟩:=h cs
 exact⟨e,w',nA,dK e w' h1,h2⟩
theorem wk.mono{P:Program}{f:FuncId}{args:Array Value}{w:World}{R iQ:Ending→World→Prop}(h:wk P f args w R)(dK:∀e w',R e w'→iQ e w'):wk P f args w iQ:=by
 rcases h with⟨h1,h2⟩ | ⟨v,w',h1,h2⟩
 ·exact .inl ⟨h1,Calls.mono h2 dK⟩
 ·exact .inr ⟨v,w',h1,dK _ _ h2⟩
def B3(P:Program)(E:Env):Prop:=∀f key e,E.fns f key=some e→hU P f key e
theorem ZR{f:FuncId}{vs:List a6}{us:List Value}{K:a6→an→Option bu}(dS:B3 P E)(h:Inv w0 F0 Z0 n s a w ι Z)(hv:aX w Z s ι vs us)(hk:Hv E id s f vs K=some r) :
  ∃(T:a6→an→Prop),(∀v ar,T v ar→K v ar=some r)∧(∃v ar,T v ar)∧wk P f us.toArray w fun e w'=>∃u,e=.returned u∧∀v ar,T v ar→∃ bd Z',Inv w0 F0 Z0 n ar a w' bd Z'∧aP w' Z' ar bd v u:=by
 unfold Hv at hk
 cases hf:E.fns f (pe vs) with
 | none=>rw [hf] at hk;simp at hk
 | some e =>
  rw [hf] at hk
  simp only at hk
  cases hm:gb (pe vs) s e.ps (vs++lA vs) [] with
  | none=>rw [hm] at hk;simp at hk
  | some q =>
   obtain ⟨x,s1,bm⟩:=q
   rw [hm] at hk
   simp only at hk
   cases dV:(alive s1 bm&&od vs)
   ·rw [dV] at hk;simp at hk
   rw [dV] at hk
   simp only [Bool.and_eq_true] at dV
   obtain ⟨dV,IU⟩:=dV
   simp only [cond_true] at hk
   obtain ⟨y,aN,hk⟩:=bf hk
   cases hu:lz (vs++lA vs) e.ps bm e.rs y s1 id with
   | none=>rw [hu] at hk;simp at hk
   | some q =>
    obtain ⟨l,s2⟩:=q
    rw [hu] at hk
    have IV:=dS f _ e hf
    have hvc:=hv.append (IQ IU hv)
    obtain ⟨F,H,cp,i1,g1,bx,k1,f1,h1,a1,_,d1,_⟩:=qy e.ps _ _ s Z [] _ hm h hvc (by simp)
    simp only at i1 g1 bx k1 f1 h1 d1
    have b_:=B1 dV
    have hcall:=IV.calls w (cp.or (dh ι bm)) F x us y
     (by
      rintro b o (hz | ⟨d,ag,hf⟩)
      ·exact i1.iR b o hz
      ·exact(i1.own d.1 (b_ d ag) b o hf).2)
     (fun b o hf=>(f1.own b o hf).2)
     (by
      rintro b o hf (hz | hz)
      ·exact f1.c4 b o hf hz
      ·exact f1.dh b_ b o hf hz) bx aN
    refine⟨fun eN ar=>eN=B2 l∧ar=s2,?_,⟨_,s2,rfl,rfl⟩,hcall.mono ?_⟩
    ·rintro eN ar ⟨rfl,rfl⟩
     clear hu
     match l,hk with
     | [],hk=>exact hk
     | [_],hk=>exact hk
     | _ :: _ :: _,hk=>exact hk
    ·rintro end_ w' ⟨u,rfl,⟨du,Z',F',rfl,hx,jl,hz2,hf2,tJ,hK⟩⟩
     refine⟨_,rfl,?_⟩
     rintro eN ar ⟨rfl,rfl⟩
     let S:ah:=fun b o=>Z' b o∧(F b o∨w.heap.size≤b)
     have mw:=i1.BG f1 hx
     have Qj:∀(X:ah),(∀b o,X b o→(F b o∨w.heap.size≤b)∧b<w'.heap.size)→bJ w0 F0 s1 w' ι cp X:=by
      intro X hX
      have hsz:=i1.ext.size
      refine⟨fun b o hb=>⟨?_,(hX b o hb).2⟩,fun id hl b o hb hi=>?_,fun b o hb hz=>?_⟩
      ·rcases (hX b o hb).1 with hf | hf
       ·exact(f1.own b o hf).1
       ·exact .inr (by omega)
      ·rcases (hX b o hb).1 with hf | hf
       ·exact f1.apart id hl b o hf hi
       ·have:=(i1.own id hl b o hi).2;omega
      ·rcases (hX b o hb).1 with hf | hf
       ·exact f1.c4 b o hf hz
       ·have:=i1.iR b o hz;omega
     have Iq:bJ w0 F0 s1 w' ι cp S:=Qj S (by
      rintro b o ⟨hz,hf⟩
      refine⟨hf,?_⟩
      rcases hz2 b o hz with h1 | h1
      ·have hsz:=hx.size
       rcases h1 with h1 | ⟨d,ag,h1⟩
       ·have:=i1.iR b o h1;omega
       ·have:=(i1.own d.1 (b_ d ag) b o h1).2;omega
      ·exact h1.2)
     have eU:=mw.freeze Iq
     have IW:bJ w0 F0 s1 w' ι (cp.or S) F':=(Qj F' hf2).freeze (fun b o hb hs=>tJ b o hb hs.1)
     have cD:bJ w0 F0 s1 w' ι (cp.or S) H:=(h1.ext hx).freeze (by
      rintro b o hb ⟨_,hf | hf⟩
      ·exact a1 b o hf hb
      ·have:=(h1.own b o hb).2;omega)
     have Qk:ah.apart cp F:=fun b o hz hf=>f1.c4 b o hf hz
     have rQ:eH w cp s1 ι w' (cp.or S) s1 ι := by
      refine⟨fun id=>.stay _ _,fun _ _ h=>.inl h,b6.iT hx i1.rF ?_⟩
      rintro b o (hz | ⟨id,hl,_,_,hf⟩) hs
      ·exact Qk b o hz hs
      ·exact f1.apart id hl b o hs hf
     have wx:gI false w cp s1 ι w' (cp.or S) s1 ι H :=
      ⟨fun _ _=>aP.move rQ,fun _ _=>cj.move rQ,rQ.dE,fun _ _ _ h=>⟨h,rfl⟩,fun h=>by simp at h,b6.iT hx (fun b o hb=>(h1.own b o hb).2) (fun b o hb hf=>a1 b o hf hb),b6.iT hx i1.iR Qk,fun b o hw=>hx.qd hw,fun z b o hw=>hx.kn hw⟩
     have hvs1:aX w' (cp.or S) s1 ι (vs++lA vs) (us++f' us):=aX.move rQ (aX.move g1.ek hvc)
     obtain ⟨eA,i2,_,cM⟩:=wy e.rs y du s1 ι id (l,ar) F' H hu eU (eT.move wx (fun _ _ h=>h) e.ps k1.mr) (ia.mono (by
      intro b o hz
      by_cases hc:(F b o∨w.heap.size≤b)
      ·exact .inl (.inr ⟨hz,hc⟩)
      ·rcases hz2 b o hz with h1 | h1
       ·rcases h1 with h1 | h1
        ·exact .inl (.inl h1)
        ·exact .inr h1
       ·exact absurd h1.1 hc) e.rs (fun _ _ h=>h) hK) IW cD (by
      intro b o hb hh
      rcases (hf2 b o hb).1 with hf | hf
      ·exact a1 b o hf hh
      ·have:=(h1.own b o hh).2;omega) (fun d ag=>⟨b_ d ag,d1 d ag⟩) hvs1
     refine⟨eA,_,i2,?_⟩
     show aP w' _ ar eA (B2 l) (ov du)
     simp only at cM
     clear hk hu
     match l,cM with
     | [],cM=>simp only [aX] at cM;subst cM;simp only [B2,aP,ov];exact⟨[],rfl,by simp only [aX]⟩
     | [v0],cM =>
      simp only [aX] at cM
      obtain ⟨kv,vZ,rfl,h0,rfl⟩:=cM
      exact h0
     | v0 :: v1 :: l,cM =>
      have wA:=cM
      simp only [aX] at cM
      obtain ⟨kv,vZ,rfl,h0,lC,us1,rfl,h1,h2⟩:=cM
      simp only [B2,aP,ov]
      exact⟨_,rfl,wA⟩
theorem Ql{m:Nat}{n:Int}{k:Nat}(hx:aO m n=some k):0≤n∧k=n.toNat:=by
 unfold aO at hx
 by_cases hc:0≤n∧n<(m:Int)
 ·rw [if_pos hc] at hx;exact⟨hc.1,(aS hx).symm⟩
 ·rw [if_neg hc] at hx;cases hx
theorem B4{bu : Type}{r : bu} : ∀ {vs:List a6} {us:List Value} {K:List a6→Option bu},ru s vs K=some r→aX w Z s ι vs us→∃bI,K bI=some r∧aX w Z s ι bI us
 | [],us,K,hk,hv=>⟨[],hk,hv⟩
 | v :: l,us,K,hk,hv=>by
  simp only [aX] at hv
  obtain ⟨u,aT,rfl,h1,h2⟩:=hv
  have keep:(ru s l fun l'=>K (v :: l'))=some r→∃bI,K bI=some r∧aX w Z s ι bI (u :: aT):=fun hk=>by
   obtain ⟨l',k1,k2⟩:=B4 (K:=fun l'=>K (v :: l')) hk h2
   exact⟨v :: l',k1,by simp only [aX];exact⟨u,aT,rfl,h1,k2⟩⟩
  cases v with
  | opt i n =>
   simp only [ru] at hk
   obtain ⟨k,hx,hk⟩:=bf hk
   obtain ⟨l',k1,k2⟩:=B4 (K:=fun l'=>K (.ptr ⟨i,some k,0⟩ :: l')) hk h2
   refine⟨_,k1,?_⟩
   simp only [aX]
   refine⟨u,aT,rfl,?_,k2⟩
   simp only [aP] at h1 ⊢
   obtain ⟨h0,rfl⟩:=Ql hx
   obtain ⟨j0,⟨h3,_⟩ | ⟨h3,wB,rfl,h4⟩⟩:=h1
   ·omega
   ·exact⟨j0,wB,rfl,h4⟩
  | may b dp cs =>
   simp only [ru] at hk
   cases b
   ·cases hk
   obtain ⟨l',k1,k2⟩:=B4 (K:=fun l'=>K (.dj dp cs 0 :: l')) hk h2
   refine⟨_,k1,?_⟩
   simp only [aX]
   refine⟨u,aT,rfl,?_,k2⟩
   simp only [aP] at h1 ⊢
   rcases h1 with⟨h1,_⟩ | ⟨_,h1⟩
   ·cases h1
   ·exact h1
  | _=>exact keep hk
theorem ZS{f:FuncId}{vs:List a6}{us:List Value}{K:a6→an→Option bu}(dS:B3 P E)(h:Inv w0 F0 Z0 n s a w ι Z)(hv:aX w Z s ι vs us)(hk:Hw E id s f vs K=some r) :
  ∃(T:a6→an→Prop),(∀v ar,T v ar→K v ar=some r)∧(∃v ar,T v ar)∧wk P f us.toArray w fun e w'=>∃u,e=.returned u∧∀v ar,T v ar→∃ bd Z',Inv w0 F0 Z0 n ar a w' bd Z'∧aP w' Z' ar bd v u:=by
 unfold Hw at hk
 obtain ⟨bI,eo,lE⟩:=B4 hk hv
 exact ZR dS h lE eo
theorem ZT{c:Call}{bl:Operand}(dS:B3 P E)(h:Inv w0 F0 Z0 n s a w ι Z)(ag:∀k,o.dst=some k→k<n)(ho:o.op=.call c)(hc:c.callee=.value bl)(hk:cU E id o s K=some r) :
  ∃ar,K ar=some r∧o.wp P a w (cY w0 F0 Z0 n ar) Q:=by
 unfold cU at hk
 rw [ho] at hk
 simp only [hc] at hk
 have hvs:=tz h c.args.toList
 have hf:=e4 h bl
 cases B5:bU s bl with
 | fn IX first lx =>
  rw [B5] at hk hf
  simp only at hk
  simp only [aP] at hf
  obtain ⟨cn,cs,IY,kV,hcs⟩:=hf
  have qz:aX w Z s ι (first++c.args.toList.map (bU s)++lx) (cn++c.args.toList.map a.eval++cs):=(kV.append hvs).append hcs
  obtain ⟨T,ZU,⟨v,ar,b1⟩,wC⟩:=ZS dS h qz hk
  refine⟨_,ZU v ar b1,?_⟩
  unfold Oper.wp
  have hrun:(execOp a.eval o).run P w=(callFunc IX (cn++c.args.toList.map a.eval++cs).toArray).run P w:=by
   unfold execOp;rw [ho]
   simp only [run_bind,resolve,hc,IY,Deferred.ofValue,run_pure,invoke]
   congr 2
   apply Array.ext'
   simp
  rw [hrun]
  rcases wC with⟨⟨fn,yL,IZ,iZ⟩,wC⟩ | ⟨u,w',tK,gJ,yw,hu⟩
  ·have I0:(callFunc IX (cn++c.args.toList.map a.eval++cs).toArray).run P w=.ok (.enter IX (cn++c.args.toList.map a.eval++cs).toArray) w:=by
    simp only [callFunc,run_bind,run_pure,program,Sem.run,yL]
    rw [if_neg (by rw [iZ];simp),if_neg (by rw [IZ];simp)]
    simp only [run_pure]
   rw [I0,Oper.upon_enter]
   refine wC.mono ?_
   rintro e w' ⟨u,rfl,hu⟩
   obtain ⟨bd,Z',hinv,cM⟩:=hu v ar b1
   exact⟨bd,Z',hinv.dst cM ag⟩
  ·rw [tK,Oper.upon_value]
   cases yw
   obtain ⟨bd,Z',hinv,cM⟩:=hu v ar b1
   exact⟨bd,Z',hinv.dst cM ag⟩
 | _=>rw [B5] at hk;simp at hk
structure jH(P:Program)(E:Env):Prop where
 ty:gT P E
 eq:Pu P E
 fns:B3 P E
 mix:P.follows .mixedOrders=true
theorem ZV(bN:jH P E)(h:Inv w0 F0 Z0 n s a w ι Z)(ag:∀k,o.dst=some k→k<n)(hk:cU E id o s K=some r) :
  ∃ar,K ar=some r∧o.wp P a w (cY w0 F0 Z0 n ar) Q:=by
 have fg:(∃ar,K ar=some r∧Pure P o a w (cY w0 F0 Z0 n ar))→∃ar,K ar=some r∧o.wp P a w (cY w0 F0 Z0 n ar) Q:=fun⟨ar,h1,h2⟩=>⟨ar,h1,h2.wp⟩
 cases ho:o.op with
 | move x=>exact fg (Bx h ag (.inl ho) hk)
 | assign x=>exact fg (Bx h ag (.inr ho) hk)
 | pick c x y=>exact fg (Pb h ag ho hk)
 | alloc t=>exact YK bN.ty h ag ho hk
 | box t x=>exact YL bN.ty h ag ho hk
 | build t ps=>exact fg (PM bN.ty h ag ho hk)
 | buildSlice t m ps=>exact Za bN.ty h ag ho hk
 | load t x=>exact YM bN.ty h ag ho hk
 | store t x y=>exact YO bN.ty h ag ho hk
 | nilCheck x=>exact fg (Pd h ag ho hk)
 | binOp op t x y BC=>exact fg (Pw bN.ty bN.eq h ag ho hk)
 | unOp op t x=>exact fg (Pt h ag ho hk)
 | convert st gl x=>exact Y2 bN.ty h ag ho hk
 | makeFunc f first lx =>
  cases f with
  | func f=>exact fg (Pj h ag ho hk)
  | _=>unfold cU at hk;rw [ho] at hk;simp at hk
 | makeSlice t x y=>exact YY bN.ty h ag ho hk
 | slice t x lo hi gQ=>exact fg (Pp bN.ty h ag ho hk)
 | fieldAddr t x f=>exact fg (Pf bN.ty h ag ho hk)
 | field t x f=>exact fg (Pg bN.ty h ag ho hk)
 | indexAddr t x i=>exact fg (Pk bN.ty h ag ho hk)
 | index t x i=>exact fg (Pl bN.ty h ag ho hk)
 | extract x i=>exact fg (Ph h ag ho hk)
 | call c =>
  cases hc:c.callee with
  | builtin b =>
   by_cases hb:b=.append
   ·subst hb;exact Zm bN.ty h ag ho hc hk
   ·by_cases hb2:b=.clear
    ·subst hb2;exact Zu bN.ty h ag ho hc hk
    ·exact fg (PG bN.ty h ag ho hc hb hb2 hk)
  | value f=>exact ZT bN.fns h ag ho hc hk
  | invoke x m=>unfold cU at hk;rw [ho] at hk;simp [hc] at hk
 | _=>unfold cU at hk;rw [ho] at hk;simp at hk
end
end Go.LM
namespace Go.LM
mutual
theorem ad.beq_refl:∀t:ad,ad.beq t t=true
 | .int k=>by simp [ad.beq]
 | .bool=>rfl
 | .str=>rfl
 | .raw=>rfl
 | .sl t=>by simp only [ad.beq];exact ad.beq_refl t
 | .st aj=>by simp only [ad.beq];exact ay.beq_refl aj
theorem ay.beq_refl:∀t:ay,ay.beq t t=true
 | .nil=>rfl
 | .cons t aj=>by simp only [ay.beq,ad.beq_refl t,ay.beq_refl aj,cond_true]
end
theorem ZW(a:ad)(x:a.D):eF a a x=some x:=by unfold eF;rw [dif_pos (ad.beq_refl a)]
section
variable{w bL:World}{Z bM:ah}
def Qm(w:World)(Z:ah)(t:ad)(z:List t.D)(v:Value)(H1 G1:ah)(R:World→ah→List t.D→Value→ah→Prop):Prop :=
 (ad.sl t).al w Z (.O t.own) z [v] H1∧ah.apart H1 G1∧∀(bL:World) (bM X:ah) (y:List t.D) (u:Value),b6 w bL G1→(ad.sl t).al bL bM (.O t.own) y [u] X→ah.apart X G1→R bL bM y u (X.or G1)
mutual
theorem ad.tL:∀(T:ad) (off:Nat) (t:ad) {x:T.D} {z:List t.D} {us:List Value} {G:ah},T.al w Z T.own x us G→T.getAt off t x=some z →
  ∃v H1 G1,us[off]?=some v∧ah.sub H1 G∧ah.sub G1 G∧Qm w Z t z v H1 G1 (fun bL bM y u eK=>∀bD,T.setAt off t y x=some bD→T.al bL bM T.own bD (us.set off u) eK)
 | .int _,_,_,_,_,_,_,_,h=>by simp [ad.getAt] at h
 | .bool,_,_,_,_,_,_,_,h=>by simp [ad.getAt] at h
 | .str,_,_,_,_,_,_,_,h=>by simp [ad.getAt] at h
 | .raw,_,_,_,_,_,_,_,h=>by simp [ad.getAt] at h
 | .sl u,off,t,x,z,us,G,hr,h=>by
  simp only [ad.getAt] at h
  cases hb:Nat.beq off 0
  ·rw [hb] at h;cases h
  rw [hb] at h
  obtain rfl:=Nat.eq_of_beq_eq_true hb
  obtain ⟨e,rfl⟩:=gS h
  subst e
  have fI:=hr
  simp only [ad.own,ad.al] at hr
  obtain ⟨A,c,rfl,_⟩:=hr
  refine⟨_,G,ah.none,rfl,fun _ _ h=>h,fun _ _ h=>h.elim,fI,fun _ _ _ h=>h.elim,fun bL bM X y kv _ h2 _ bD hs=>?_⟩
  simp only [ad.setAt] at hs
  obtain ⟨e,rfl⟩:=gS (show eF (.sl u) (.sl u) y=some bD from hs)
  exact ad.al.mono (fun _ _ h=>h) _ _ (fun _ _ h=>.inl h) h2
 | .st aj,off,t,x,z,us,G,hr,h=>by
  have h9:aj.flat=false:=by
   cases hf:aj.flat
   ·rfl
   ·exact(ad.wj (.st aj) (by simpa only [ad.flat] using hf) h).elim
  simp only [ad.own,h9,Bool.false_eq_true,if_false,ad.al,a'.parts] at hr
  simp only [ad.getAt] at h
  obtain ⟨v,H1,G1,h1,h2,h3,h4,a7,bg⟩:=ay.tL aj off t hr h
  refine⟨v,H1,G1,h1,h2,h3,h4,a7,fun bL bM X y kv k1 k2 k3 bD hs=>?_⟩
  simp only [ad.setAt] at hs
  simp only [ad.own,h9,Bool.false_eq_true,if_false,ad.al,a'.parts]
  exact bg bL bM X y kv k1 k2 k3 bD hs
theorem ay.tL:∀(aj:ay) (off:Nat) (t:ad) {x:aj.D} {z:List t.D} {us:List Value} {G:ah},aj.al w Z aj.own x us G→aj.getAt off t x=some z →
  ∃v H1 G1,us[off]?=some v∧ah.sub H1 G∧ah.sub G1 G∧Qm w Z t z v H1 G1 (fun bL bM y u eK=>∀bD,aj.setAt off t y x=some bD→aj.al bL bM aj.own bD (us.set off u) eK)
 | .nil,_,_,_,_,_,_,_,h=>by simp [ay.getAt] at h
 | .cons T aj,off,t,x,z,us,G,hr,h=>by
  simp only [ay.own,ay.al,cW.ag,cW.dw] at hr
  obtain ⟨lC,h_,nv,nw,rfl,bx,ch,hap,ha,hb⟩:=hr
  have hl:=(ad.al.len T _ bx).1
  simp only [ay.getAt] at h
  cases cA:Nat.blt off T.size
  ·rw [cA] at h
   have Iw:T.size≤off:=by
    rcases Nat.lt_or_ge off T.size with h1 | h1
    ·have:Nat.blt off T.size=true:=Nat.ble_eq_true_of_le h1
     rw [this] at cA;cases cA
    ·exact h1
   obtain ⟨v,H1,G1,h1,h2,h3,h4,a7,bg⟩:=ay.tL aj (off-T.size) t ch h
   refine⟨v,H1,nv.or G1,?_,fun b o x=>hb b o (h2 b o x),?_,h4,?_,fun bL bM X y kv k1 k2 k3 bD hs=>?_⟩
   ·rw [List.getElem?_append_right (by omega),hl];exact h1
   ·rintro b o (y | y)
    ·exact ha b o y
    ·exact hb b o (h3 b o y)
   ·rintro b o y (q | q)
    ·exact hap b o q (h2 b o y)
    ·exact a7 b o y q
   ·simp only [ay.setAt,cA,cond_false] at hs
    obtain ⟨jG,hz,hs⟩:=bf hs
    obtain rfl:=aS hs
    simp only [ay.own,ay.al,cW.ag,cW.dw]
    refine⟨lC,h_.set (off-T.size) kv,nv,X.or G1,by rw [List.set_append_right _ _ (by omega),hl],qw T (k1.mono fun _ _ h=>.inl h) bx,bg bL bM X y kv (k1.mono fun _ _ h=>.inr h) k2 (fun b o p q=>k3 b o p (.inr q)) jG hz,?_,fun _ _ h=>.inr (.inl h),?_⟩
    ·rintro b o p (q | q)
     ·exact k3 b o q (.inl p)
     ·exact hap b o p (h3 b o q)
    ·rintro b o (q | q)
     ·exact .inl q
     ·exact .inr (.inr q)
  ·rw [cA] at h
   have Iw:off<T.size:=Nat.le_of_ble_eq_true cA
   obtain ⟨v,H1,G1,h1,h2,h3,h4,a7,bg⟩:=ad.tL T off t bx h
   refine⟨v,H1,G1.or nw,?_,fun b o x=>ha b o (h2 b o x),?_,h4,?_,fun bL bM X y kv k1 k2 k3 bD hs=>?_⟩
   ·rw [List.getElem?_append_left (by omega)];exact h1
   ·rintro b o (y | y)
    ·exact ha b o (h3 b o y)
    ·exact hb b o y
   ·rintro b o y (q | q)
    ·exact a7 b o y q
    ·exact hap b o (h2 b o y) q
   ·simp only [ay.setAt,cA,cond_true] at hs
    obtain ⟨jG,hz,hs⟩:=bf hs
    obtain rfl:=aS hs
    simp only [ay.own,ay.al,cW.ag,cW.dw]
    refine⟨lC.set off kv,h_,X.or G1,nw,by rw [List.set_append_left _ _ (by omega)],bg bL bM X y kv (k1.mono fun _ _ h=>.inl h) k2 (fun b o p q=>k3 b o p (.inl q)) jG hz,P3 aj (k1.mono fun _ _ h=>.inr h) ch,?_,?_,fun _ _ h=>.inr (.inr h)⟩
    ·rintro b o (p | p) q
     ·exact k3 b o p (.inr q)
     ·exact hap b o (h3 b o p) q
    ·rintro b o (q | q)
     ·exact .inl q
     ·exact .inr (.inl q)
end
theorem m8.tL{T:ad}{ys:List T.D}{a:Addr}{c:Nat}{F:ah}{i off:Nat}{t:ad}{z:List t.D}(h:m8 w (T.al w Z T.own) T.size ys a c F)(hi:i<ys.length)(aB:T.getAt off t (J T ys i)=some z) :
  ∃v H1,w.cell? (at_ a.block (a.off+i*T.size+off))=some v∧(ad.sl t).al w Z (.O t.own) z [v] H1∧ah.sub H1 F∧ah.diff F H1 a.block (a.off+i*T.size+off)∧fT w T.size a.block (a.off+i*T.size+off) ∧
   ∀(bL:World) (bM X:ah) (y:List t.D) (bD:T.D) (u:Value),b6 w bL (fun b o=>ah.diff F H1 b o∧¬(b=a.block∧o=a.off+i*T.size+off))→bL.cell? (at_ a.block (a.off+i*T.size+off))=some u →
    fT bL T.size a.block (a.off+i*T.size+off)→(ad.sl t).al bL bM (.O t.own) y [u] X→ah.apart X (ah.diff F H1)→T.setAt off t y (J T ys i)=some bD →
    m8 bL (T.al bL bM T.own) T.size (ys.set i bD) a c (X.or (ah.diff F H1)):=by
 rw [c7 hi] at aB ⊢
 obtain ⟨G,g1,g2,g3⟩:=h.row
 obtain ⟨nv,iW,nw,vs,bx,Ix,hvl,ck,ch,a1,a2,a3,s1,s2,s3⟩:=g1.BO i hi
 obtain ⟨v,H1,G1,hv,k1,k2,k3,bb,bw⟩:=ad.tL T off t Ix aB
 have yy:ah.sub H1 G:=fun b o x=>s2 b o (k1 b o x)
 have hle:ys.length*T.size≤c*T.size:=Nat.mul_le_mul_right _ h.cap
 have gG:(i+1)*T.size≤ys.length*T.size:=Nat.mul_le_mul_right _ hi
 rw [Nat.add_one_mul] at gG
 have fA:off<T.size:=by
  rcases Nat.lt_or_ge off T.size with h1 | h1
  ·exact h1
  ·rw [List.getElem?_eq_none (by omega)] at hv;cases hv
 have tB:∀ {A:ah},ah.sub A G→ah.apart A H1→ah.sub A (ah.diff F H1):=fun hA au b o x=>⟨g3 b o (hA b o x),fun y=>au b o x y⟩
 have tC:ah.sub nv (ah.diff F H1):=tB s1 fun b o x y=>a1 b o x (k1 b o y)
 have tD:ah.sub nw (ah.diff F H1):=tB s3 fun b o x y=>a3 b o (k1 b o y) x
 have d1:ah.sub G1 (ah.diff F H1):=tB (fun b o x=>s2 b o (k2 b o x)) fun b o x y=>bb b o y x
 have pt:∀j,j<c*T.size→ah.diff F H1 a.block (a.off+j):=fun j hj=>⟨h.inF j hj,fun y=>g2 j hj (yy _ _ y)⟩
 have hspot:i*T.size+off<c*T.size:=by omega
 have bS:∀ {A:ah},ah.sub A G→∀b o,A b o→¬(b=a.block∧o=a.off+i*T.size+off):=by
  rintro A hA b o x ⟨rfl,rfl⟩
  have:=g2 (i*T.size+off) hspot
  rw [← Nat.add_assoc] at this
  exact this (hA _ _ x)
 refine⟨v,H1,ck off v hv,k3,fun b o x=>g3 b o (yy b o x),by have:=pt _ hspot;rwa [← Nat.add_assoc] at this,by have:=h.wr _ hspot;rwa [← Nat.add_assoc] at this,fun bL bM X y bD u hs hu hwr hr hap Iy=>?_⟩
 have ZX:b6 w bL nv:=fun b o x=>hs b o ⟨tC b o x,bS s1 b o x⟩
 have jI:b6 w bL nw:=fun b o x=>hs b o ⟨tD b o x,bS s3 b o x⟩
 have ZY:b6 w bL G1:=fun b o x=>hs b o ⟨d1 b o x,bS (fun b o x=>s2 b o (k2 b o x)) b o x⟩
 have hcell:∀j,j<c*T.size→j≠i*T.size+off→bL.cell? (at_ a.block (a.off+j))=w.cell? (at_ a.block (a.off+j)):=fun j hj hne=>(hs _ _ ⟨pt j hj,fun h=>hne (by omega)⟩).1
 have hw2:∀j,j<c*T.size→fT bL T.size a.block (a.off+j):=by
  intro j hj
  by_cases hne:j=i*T.size+off
  ·subst hne;rwa [Nat.add_assoc] at hwr
  ·exact hs.kn ⟨pt j hj,fun h=>hne (by omega)⟩ (h.wr j hj)
 have fl:=bw bL bM X y u ZY hr (fun b o p q=>hap b o p (d1 b o q)) bD Iy
 refine⟨h.spot,by simpa using h.cap,hw2,fun j hj=>.inr (pt j hj),nv.or ((X.or G1).or nw),?_,?_,?_⟩
 ·refine Row.BP i hi (bx.imp (fun y us dk hG hr=>qw T (ZX.mono fun b o p=>hG b o p) hr) fun j hj=>hcell j ?_ ?_) fl (by simpa using hvl) ?_ (ch.imp (fun y us dk hG hr=>qw T (jI.mono fun b o p=>hG b o p) hr) fun j hj=>?_) ?_ a2 ?_
  ·simp only [List.length_take] at hj
   have:min i ys.length*T.size≤ys.length*T.size:=Nat.mul_le_mul_right _ (Nat.min_le_right _ _)
   omega
  ·simp only [List.length_take] at hj
   have:min i ys.length*T.size≤i*T.size:=Nat.mul_le_mul_right _ (Nat.min_le_left _ _)
   omega
  ·intro k q hk
   by_cases Qn:k=off
   ·subst Qn
    rw [List.getElem?_set_self (by omega)] at hk
    rw [← aS hk];exact hu
   ·rw [List.getElem?_set_ne (by omega)] at hk
    have n_:k<vs.length:=by
     rcases Nat.lt_or_ge k vs.length with h1 | h1
     ·exact h1
     ·rw [List.getElem?_eq_none h1] at hk;cases hk
    have:=hcell (i*T.size+k) (by omega) (by omega)
    rw [← Nat.add_assoc] at this
    rw [this];exact ck k q hk
  ·simp only [List.length_drop] at hj
   have e1:(ys.length-(i+1))*T.size=ys.length*T.size-(i*T.size+T.size):=by rw [Nat.sub_mul,Nat.add_one_mul]
   rw [e1] at hj
   have:=hcell ((i+1)*T.size+j) (by rw [Nat.add_one_mul];omega) (by rw [Nat.add_one_mul];omega)
   rwa [← Nat.add_assoc] at this
  ·rintro b o p (q | q)
   ·exact hap b o q (tC b o p)
   ·exact a1 b o p (k2 b o q)
  ·rintro b o (p | p) q
   ·exact hap b o p (tD b o q)
   ·exact a3 b o (k2 b o p) q
 ·rintro j hj (p | (p | p) | p)
  ·exact g2 j hj (s1 _ _ p)
  ·exact hap _ _ p (pt j hj)
  ·exact g2 j hj (s2 _ _ (k2 _ _ p))
  ·exact g2 j hj (s3 _ _ p)
 ·rintro b o (p | (p | p) | p)
  ·exact .inr (tC b o p)
  ·exact .inl p
  ·exact .inr (d1 b o p)
  ·exact .inr (tD b o p)
end
section
variable{P:Program}{Q:Exit→Act→World→Prop}
variable{w0:World}{F0 Z0:ah}{n:cC}{s ar:an}{a b9:Act}{w w':World}{ι bd:Nat→bF}{Z Z':ah}
variable{E:Env}{bu : Type}{r : bu}
theorem I1(a:Act){d:Nat}(v:Value)(ag:d<a.tmps.size):(a.put (some d) v).eval (.tmp d)=v:=by
 show(a.tmps.setIfInBounds d v).getD d undef=v
 rw [HM _ _ _ _ ag,if_pos rfl]
theorem yM(a:Act){d k:Nat}(v:Value)(ag:d<a.tmps.size)(hk:d≠k):(a.put (some d) v).eval (.tmp k)=a.eval (.tmp k):=by
 show(a.tmps.setIfInBounds d v).getD k undef=a.tmps.getD k undef
 rw [HM _ _ _ _ ag,if_neg hk]
theorem Qo(a:Act)(d:Nat)(v:Value):(a.put (some d) v).tmps.size=a.tmps.size:=by
 show(a.tmps.setIfInBounds d v).size=_
 simp
theorem Qp{u t:ad}{dp:List (Nat×Nat)}{p:Place}{xs:List u.D}{v:Value}{mx:List t.D}{s0:an}(h:Inv w0 F0 Z0 n s a w ι Z)(hc:cj w Z s ι (.b2 u dp (some p) xs) v)
  (hl:ti t t.own s dp (some p)=some (mx,s0)) :
  ∃(i:Nat) (T:ad) (ver:Nat) (ys:List T.D) (cO dM:Nat) (H1:ah),p.fl=some i∧s.o p.id=.row T T.own ver ys∧s0=s.bQ p.id (.cg (.row T T.own ver ys))∧i<ys.length∧(ι p.id).base=some (at_ cO dM) ∧
   Inv w0 F0 Z0 n s0 a w ι Z∧fC s ι Z s0 Z∧bJ w0 F0 s0 w ι Z H1∧bJ w0 F0 s0 w ι Z (ah.diff (ι p.id).F H1)∧(ad.sl t).al w Z (.O t.own) mx [v] H1∧ah.sub H1 (ι p.id).F ∧
   ah.diff (ι p.id).F H1 cO (dM+i*T.size+p.off)∧fT w T.size cO (dM+i*T.size+p.off) ∧
   ∀(bL:World) (bM X:ah) (y:List t.D) (bD:T.D) (q:Value),b6 w bL (fun b o=>ah.diff (ι p.id).F H1 b o∧¬(b=cO∧o=dM+i*T.size+p.off))→bL.cell? (at_ cO (dM+i*T.size+p.off))=some q →
    fT bL T.size cO (dM+i*T.size+p.off)→(ad.sl t).al bL bM (.O t.own) y [q] X→ah.apart X (ah.diff (ι p.id).F H1)→T.setAt p.off t y (J T ys i)=some bD →
    m8 bL (T.al bL bM T.own) T.size (ys.set i bD) (at_ cO dM) (ι p.id).cap (X.or (ah.diff (ι p.id).F H1)):=by
 simp only [ti] at hl
 cases e5:p.fl with
 | none=>rw [e5] at hl;simp at hl
 | some i =>
  rw [e5] at hl
  cases ho:s.o p.id with
  | row T em ver ys =>
   rw [ho] at hl
   simp only at hl
   cases hb:(alive s dp&&a'.beq em T.own&&a'.beq t.own t.own)
   ·rw [hb] at hl;simp at hl
   rw [hb] at hl
   simp only [cond_true] at hl
   simp only [Bool.and_eq_true] at hb
   obtain rfl:=a'.eq_of_beq _ _ hb.1.2
   obtain ⟨x,hx,hl⟩:=bf hl
   simp only [Option.some.injEq,Prod.mk.injEq] at hl
   obtain ⟨rfl,rfl⟩:=hl
   obtain ⟨_,_,_,kX⟩:=hc
   obtain ⟨_,kX⟩:=kX _ rfl
   obtain ⟨ji,dD,⟨_,fJ⟩,hcell,hin⟩:=kX hb.1.1
   simp only [ho,cm.core] at fJ
   obtain ⟨eb,hii,kY,a0,eC,nm⟩:=fJ
   rw [e5] at hii
   obtain rfl:=aS hii
   have b_:(s.o p.id).live:=by rw [ho];trivial
   have aB:fC s ι Z (s.bQ p.id (.cg (.row T T.own ver ys))) Z:=by have:=yz (s:=s) (ι := ι) (Z:=Z) b_;rw [ho] at this;exact this
   have ff:bJ w0 F0 (s.bQ p.id (.cg (.row T T.own ver ys))) w ι Z (ι p.id).F:=by have:=h.yA b_;rw [ho] at this;exact this
   have c0:=h.fU p.id
   rw [ho] at c0
   rcases c0 with⟨hx0,_⟩ | ⟨a1,hb1,hr⟩
   ·rw [hx0] at kY;simp at kY
   rw [eC] at hb1
   obtain rfl:=aS hb1
   obtain ⟨ab,ao,sp⟩:=a0
   have hsp:=hr.spot
   simp only at hsp
   subst hsp
   obtain ⟨eN,H1,dU,eJ,oo,ZZ,Z1,pj⟩:=hr.tL kY hx
   rw [← nm] at dU
   have IC:eN=v:=by rw [hcell] at dU;exact(aS dU).symm
   subst IC
   exact⟨i,T,ver,ys,ab,ao,H1,rfl,rfl,rfl,kY,eC,h.mm aB,aB,ff.sub oo,ff.sub fun _ _ h=>h.1,eJ,oo,ZZ,Z1,pj⟩
  | _=>rw [ho] at hl;simp at hl
theorem Z2{v:a6}{K:Place→Option bu}(hk:HB s v K=some r):∃jD,K jD=some r∧∀ {w':World} {Z':ah} {ar:an} {bd:Nat→bF} {x:Value},aP w' Z' ar bd v x→∃A,x=.pointer (some A)∧jh ar bd jD A:=by
 unfold HB at hk
 cases v <;> simp only at hk <;> try (cases hk;done)
 ·exact⟨_,hk,fun hv=>by simp only [aP] at hv;exact hv.2⟩
 ·obtain ⟨k,h1,hk⟩:=bf hk
  obtain ⟨h2,rfl⟩:=Ql h1
  refine⟨_,hk,fun hv=>?_⟩
  simp only [aP] at hv
  rcases hv.2 with⟨h3,_⟩ | ⟨_,h3⟩
  ·omega
  ·exact h3
theorem Z3{dD:Oper}{T:ad}{k1 d0 i ver cO dM:Nat}{p jD:Place}{ys:List T.D}{hv:Value}{s1:an}(my:dD.op=.nilCheck (.tmp k1))(iw:k1≠d0)(i_:d0<n.n)(tM:jD.id=p.id)(B6:jD.fl=some i)(rW:Inv w0 F0 Z0 n s1 a w' ι Z)
  (I2:∀ {w':World} {Z':ah} {ar:an} {bd:Nat→bF} {x:Value},aP w' Z' ar bd (s1.t k1) x→∃A,x=.pointer (some A)∧jh ar bd jD A)
  (pB:s1.o p.id=.cg (.row T T.own ver ys)) (eC:(ι p.id).base=some (at_ cO dM)):(execOp (a.put (some d0) hv).eval dD).run P w'=.ok (.value (.pointer (some (at_ cO (dM+i*T.size+jD.off))))) w':=by
 obtain ⟨alp,Z4,hsp,mv⟩:=I2 (rW.tmps k1)
 rw [tM,pB] at mv
 simp only [cm.core] at mv
 obtain ⟨eb,hii,_,a0,gj,I3⟩:=mv
 rw [hii] at B6
 obtain rfl:=aS B6
 rw [eC] at gj
 obtain rfl:=aS gj
 subst I3
 have:(a.put (some d0) hv).eval (.tmp k1)=.pointer (some (at_ cO (dM+eb*T.size+jD.off))):=by rw [yM _ _ (by rw [rW.size];exact i_) (Ne.symm iw)];exact Z4
 unfold execOp;rw [my];simp only [this];rfl
theorem Qq{dD eG eS:Oper}{aj:ay}{t T u:ad}{d0 d1 d2 m9 na oe k i ver cO dM:Nat}{p:Place}{po:Nat}{ys:List T.D}{y:List t.D}{hv:Value}{G pC:ah}{s1 B7:an}{A:Option Addr}{wD Z5:Nat}{K:an→Option bu}(bN:jH P E)
  (j1:eG.op=.fieldAddr m9 (.tmp d1) oe) (qA:eS.op=.store na (.tmp d2) (.tmp d0)) (gi:dD.dst=some d1) (iC:eG.dst=some d2) (pv:eS.dst=none)
  (ix:d0≠d1) (iy:d0≠d2) (i_:d0<n.n) (mz:d1<n.n) (mA:d2<n.n) (tN:E.ty m9=some (.st aj)) (tO:E.ty na=some (.sl t)) (fA:aj.off oe=some (k,u)) (hz:u.size≠0)
  (j5:po+k=p.off) (e5:p.fl=some i) (kY:i<ys.length) (rW:Inv w0 F0 Z0 n s1 a w' ι Z)
  (I4:(execOp (a.put (some d0) hv).eval dD).run P w'=.ok (.value (.pointer (some (at_ cO (dM+i*T.size+po))))) w')
  (pB:s1.o p.id=.cg (.row T T.own ver ys)) (eC:(ι p.id).base=some (at_ cO dM)) (pD:hv=.slice A Z5 wD) (cM:(ad.sl t).al w' Z (.O t.own) y [hv] G)
  (pE:bJ w0 F0 s1 w' ι Z G) (lS:bJ w0 F0 s1 w' ι Z pC) (wE:ah.apart G pC) (wF:pC cO (dM+i*T.size+p.off)) (B8:fT w' T.size cO (dM+i*T.size+p.off))
  (wG:∀(bL:World) (bM X:ah) (y:List t.D) (bD:T.D) (q:Value),b6 w' bL (fun b o=>pC b o∧¬(b=cO∧o=dM+i*T.size+p.off))→bL.cell? (at_ cO (dM+i*T.size+p.off))=some q→fT bL T.size cO (dM+i*T.size+p.off) →
   (ad.sl t).al bL bM (.O t.own) y [q] X→ah.apart X pC→T.setAt p.off t y (J T ys i)=some bD→m8 bL (T.al bL bM T.own) T.size (ys.set i bD) (at_ cO dM) (ι p.id).cap (X.or pC))
  (hbk:vJ t y (((s1.set d0 .aD).set d1 .aD).set d2 .aD) (some p)=some B7) (hk:K B7=some r) :
  dD.wp P (a.put (some d0) hv) w' (fun a w=>eG.wp P a w (fun a w=>eS.wp P a w (fun a w=>∃ar,K ar=some r∧cY w0 F0 Z0 n ar a w) Q) Q) Q:=by
 have hcl:hv.cells = #[hv]:=by rw [pD];rfl
 have oy:ee hv=true:=by rw [pD];rfl
 have hsz:=rW.size
 have Z6:Inv w0 F0 Z0 n (s1.set d0 .aD) (a.put (some d0) hv) w' ι Z:=rW.set (by simp only [aP]) i_
 have B9:(a.put (some d0) hv).tmps.size=n.n:=by rw [Qo];exact hsz
 unfold Oper.wp
 rw [I4,Oper.upon_value,gi]
 obtain ⟨a2,yN⟩:∃a2,a2=(a.put (some d0) hv).put (some d1) (.pointer (some (at_ cO (dM+i*T.size+po)))):=⟨_,rfl⟩
 rw [← yN]
 have B_:a2.tmps.size=n.n:=by rw [yN,Qo];exact B9
 have oz:a2.eval (.tmp d1)=.pointer (some (at_ cO (dM+i*T.size+po))):=by rw [yN];exact I1 _ _ (by rw [B9];exact mz)
 have Z7:a2.eval (.tmp d0)=hv:=by rw [yN,yM _ _ (by rw [B9];exact mz) (Ne.symm ix)];exact I1 _ _ (by rw [hsz];exact i_)
 obtain ⟨pos,eV⟩:∃pos,pos=dM+i*T.size+p.off:=⟨_,rfl⟩
 rw [← eV] at wF B8 wG
 have Z8:(execOp a2.eval eG).run P w'=.ok (.value (.pointer (some (at_ cO pos)))) w':=by
  obtain ⟨cn,hu,kV⟩:=H_ (bN.ty.ty m9 _ tN)
  obtain ⟨alq,h1,h2,h3⟩:=ay.By kV fA
  rw [Array.getElem?_toList] at h1
  unfold execOp;rw [j1]
  refine fY ?_
  simp only [Instr.fieldAt,run_bind,run_underlying hu,h1,Instr.sureAddr,oz,run_pure,Pe h3 hz,h2,Nat.zero_add]
  rw [eV,← j5,Nat.add_assoc]
 rw [Z8,Oper.upon_value,iC]
 obtain ⟨a3,B'⟩:∃a3,a3=a2.put (some d2) (.pointer (some (at_ cO pos))):=⟨_,rfl⟩
 rw [← B']
 have Z9:a3.eval (.tmp d2)=.pointer (some (at_ cO pos)):=by rw [B'];exact I1 _ _ (by rw [B_];exact mA)
 have Z_:a3.eval (.tmp d0)=hv:=by rw [B',yM _ _ (by rw [B_];exact mA) (Ne.symm iy)];exact Z7
 have Ca:Inv w0 F0 Z0 n (((s1.set d0 .aD).set d1 .aD).set d2 .aD) a3 w' ι Z:=by
  rw [B',yN]
  exact(Z6.set (by simp only [aP]) mz).set (by simp only [aP]) mA
 have Qr:(execOp a3.eval eS).run P w'=.ok .skip (setCells w' cO pos [hv]):=by
  unfold execOp;rw [qA]
  have:=H7 (P:=P) (w:=w') (bN.ty.ty na _ tO) (b:=cO) (o:=pos) (v:=hv) (by rw [hcl];rfl) (by rw [hcl];intro u hu;simp at hu;rw [hu];exact oy) (fun j hj=>by
   rw [hcl] at hj
   have:j=0:=by simp at hj;omega
   subst this;exact B8.1)
  rw [hcl] at this
  simp only [Instr.storeAt,Instr.sureAddr,Z9,Z_,run_bind,run_pure,this]
 have I5:bJ w0 F0 (((s1.set d0 .aD).set d1 .aD).set d2 .aD) w' ι Z pC:=⟨lS.own,lS.apart,lS.c4⟩
 have pE:bJ w0 F0 (((s1.set d0 .aD).set d1 .aD).set d2 .aD) w' ι Z G:=⟨pE.own,pE.apart,pE.c4⟩
 obtain ⟨dJ,hw3⟩:∃dJ,dJ=setCells w' cO pos [hv]:=⟨_,rfl⟩
 rw [← hw3] at Qr
 have hx3:Ext w' dJ (ah.run cO pos 1):=by
  rw [hw3]
  exact n9 cO [hv] w' pos fun j hj=>by
   have:j=0:=by simp at hj;omega
   subst this;exact⟨rfl,by omega,by omega⟩
 have Qs:ah.sub (ah.run cO pos 1) pC:=by
  rintro b o ⟨rfl,k2,k3⟩
  rw [show o=pos by omega];exact wF
 have I6:Inv w0 F0 Z0 n (((s1.set d0 .aD).set d1 .aD).set d2 .aD) a3 dJ ι Z:=Ca.BG (I5.sub Qs) hx3
 have aaa:dJ.cell? (at_ cO pos)=some hv:=by
  rw [hw3,vS cO [hv] w' pos (fun j hj=>by
   have:j=0:=by simp at hj;omega
   subst this;exact B8.1.1),if_pos ⟨rfl,by omega,by simp⟩]
  simp
 have aab:b6 w' dJ G:=b6.iT hx3 (fun b o aB=>(pE.own b o aB).2) fun b o aB hr=>wE b o aB (Qs b o hr)
 have aac:(ad.sl t).al dJ Z (.O t.own) y [hv] G:=qw (.sl t) aab cM
 have yO:b6 w' dJ (fun b o=>pC b o∧¬(b=cO∧o=pos)):=by
  refine b6.iT hx3 (fun b o hb=>(I5.own b o hb.1).2) ?_
  rintro b o ⟨_,hne⟩ ⟨rfl,k2,k3⟩
  exact hne ⟨rfl,by omega⟩
 have I7:(((s1.set d0 .aD).set d1 .aD).set d2 .aD).o p.id=.cg (.row T T.own ver ys):=pB
 simp only [vJ,e5] at hbk
 rw [I7] at hbk
 simp only at hbk
 obtain ⟨z,aad,hbk⟩:=bf hbk
 obtain rfl:=aS hbk
 obtain ⟨Qt,Qu,_⟩:=yF I6 (id:=p.id) (o:=.row T T.own (ver+1) (ys.set i z)) (i:=⟨(ι p.id).base,(ι p.id).cap,G.or pC⟩) (by rw [I7];exact fun h=>h) (fun o'=>by simp) (by rw [I7];exact .rC _ _ _ _ _ _ _ _ _ (by omega) (by simp) rfl rfl)
  (fun hm=>.inr ⟨at_ cO dM,eC,wG dJ Z G y z hv yO aaa (hx3.kn B8) aac wE aad⟩) ((pE.ext hx3).or (I5.ext hx3))
 refine Oper.wp_mono (fun a w hs=>⟨_,hk,?_⟩) (wp_skip Qr Qu (fun k hk=>by rw [pv] at hk;cases hk))
 rw [pv] at hs
 exact hs
def wH(s:an)(ι : Nat→bF)(X:ah):ah:=fun b o=>X b o∨∃id,(s.o id).live∧(ι id).F b o
theorem Inv.here(h:Inv w0 F0 Z0 n s a w ι Z)(X:ah):Inv w (wH s ι X) Z n s a w ι Z :=
 ⟨Ext.refl _ _,fun _ _ hz=>.inl hz,fun _ _ h=>h,h.iR,h.fU,fun id hl b o hf=>⟨.inl (.inr ⟨id,hl,hf⟩),(h.own id hl b o hf).2⟩,h.apart,h.c4,h.tmps,h.size,h.ghost,h.seen,h.defers⟩
theorem Cb(h:Inv w0 F0 Z0 n s a w ι Z){X:ah}(hX:bJ w0 F0 s w ι Z X){b o:Nat}(hf:wH s ι X b o∨w.heap.size≤b):F0 b o∨w0.heap.size≤b:=by
 have hsz:=h.ext.size
 rcases hf with(hf | ⟨id,hl,hf⟩) | hf
 ·exact(hX.own b o hf).1
 ·exact(h.own id hl b o hf).1
 ·exact .inr (by omega)
theorem Inv.aae(h:Inv w0 F0 Z0 n s a w ι Z){X:ah}(hX:bJ w0 F0 s w ι Z X)(h':Inv w (wH s ι X) Z n ar b9 w' bd Z'):Inv w0 F0 Z0 n ar b9 w' bd Z':=by
 refine⟨h.ext.trans' h'.ext fun i o hf=>Cb h hX (.inl hf),fun b o hz=>?_,fun b o hz=>h'.rB b o (h.rB b o hz),h'.iR,h'.fU,fun id hl b o hf=>⟨Cb h hX (h'.own id hl b o hf).1,(h'.own id hl b o hf).2⟩,h'.apart,h'.c4,h'.tmps,h'.size,h'.ghost,h'.seen,h'.defers⟩
 rcases h'.dE b o hz with h1 | h1
 ·exact h.dE b o h1
 ·exact .inr (Cb h hX h1)
theorem aaf{o dD eG eS:Oper}{c:Call}{aj:ay}{t u ul:ad}{d0 d1 d2 m9 na oe k i id:Nat}{p:Place}{po:Nat}{dp:List (Nat×Nat)}{I8:List ul.D}{vb:a6}{cb:a8}{M:an→Bool}{K:an→Option bu}(bN:jH P E)(h:Inv w0 F0 Z0 n s a w ι Z)
  (ho:o.op=.call c) (hc:c.callee=.builtin .append) (lM:c.args.toList.map (bU s)=[.aU (.b2 ul dp (some p) I8),vb]) (gH:vL E c.argTypes.toList=some t) (tA:oneCell t vb=some cb) (tP:o.dst=some d0)
  (j1:eG.op=.fieldAddr m9 (.tmp d1) oe) (qA:eS.op=.store na (.tmp d2) (.tmp d0)) (gi:dD.dst=some d1) (iC:eG.dst=some d2) (pv:eS.dst=none)
  (ix:d0≠d1) (iy:d0≠d2) (i_:d0<n.n) (mz:d1<n.n) (mA:d2<n.n) (tN:E.ty m9=some (.st aj)) (tO:E.ty na=some (.sl t)) (fA:aj.off oe=some (k,u)) (hz:u.size≠0)
  (j5:po+k=p.off) (yP:p.fl=some i)
  (I4:∀ {T:ad} {ver cO dM:Nat} {ys:List T.D} {s1:an} {dy:Nat→bF} {cp:ah} {c6:World} {hv:Value},Inv w0 F0 Z0 n s1 a c6 dy cp→s1.t=s.t→s1.o p.id=.cg (.row T T.own ver ys)→s.o p.id=.row T T.own ver ys→(dy p.id).base=some (at_ cO dM) →
   (execOp (a.put (some d0) hv).eval dD).run P c6=.ok (.value (.pointer (some (at_ cO (dM+i*T.size+po))))) c6)
  (hk:HF id t p dp s cb d0 d1 d2 M K=some r) :
  o.wp P a w (fun a w=>(∃og,M og=true∧cY w0 F0 Z0 n og a w)∧dD.wp P a w (fun a w=>eG.wp P a w (fun a w=>eS.wp P a w (fun a w=>∃ar,K ar=some r∧cY w0 F0 Z0 n ar a w) Q) Q) Q) Q:=by
 have hvs:=tz h c.args.toList
 have Qv:(c.args.map a.eval).toList=c.args.toList.map a.eval:=by simp
 rw [lM] at hvs
 simp only [aX] at hvs
 obtain ⟨P0,_,he,ns,Zn,_,rfl,Is,rfl⟩:=hvs
 simp only [aP] at ns
 obtain ⟨hI,hW,rest,e,rR,hu,cd,j3⟩:=PZ bN.ty gH
 have hb1:=Ir tA Is
 unfold HF at hk
 cases qv:added s t cb with
 | none=>rw [qv] at hk;cases hk
 | some q =>
 obtain ⟨ks,ys,s1⟩:=q
 rw [qv] at hk
 simp only at hk
 cases mg:a'.beq ks t.own
 ·rw [mg] at hk;cases hk
 rw [mg] at hk
 simp only [cond_true] at hk
 obtain rfl:=a'.eq_of_beq _ _ mg
 obtain ⟨⟨mx,s2⟩,iB,hk⟩:=bf hk
 obtain ⟨s3,nj,hk⟩:=bf hk
 obtain ⟨hroom,hk⟩:=rL hk
 cases mB:M (s3.set d0 .aD)
 ·rw [mB] at hk;cases hk
 rw [mB] at hk
 simp only [cond_true] at hk
 obtain ⟨B7,hbk,I9⟩:=bf hk
 obtain ⟨b7,rfl⟩:=qp nj
 simp only at b7 hbk hroom
 obtain ⟨vs,gU,hlen,nu,hels,h1,hs1,ot⟩:=PS (P:=P) qv h hb1
 have hc1:cj w Z s1 ι (.b2 ul dp (some p) I8) P0:=cj.move hs1.ek ns
 obtain ⟨eb,T,ver,yQ,cO,dM,H1,e5,dW,mj,kY,eC,i0,Cc,tQ,lS,I_,Qw,wF,I',wG⟩:=Qp h1 hc1 iB
 rw [e5] at yP
 obtain rfl:=aS yP
 have Cd:=ot.tE Cc
 have Qx:(s1.o p.id).live:=by rw [dW];trivial
 have lN:ah.apart H1 gU:=fun b o x y=>ot.apart p.id Qx b o y (Qw b o x)
 have Qy:=tQ.or Cd
 have aag:bJ w (wH s2 ι (H1.or gU)) s2 w ι Z H1:=⟨fun b o x=>⟨.inl (.inl (.inl x)),(tQ.own b o x).2⟩,tQ.apart,tQ.c4⟩
 have aah:bJ w (wH s2 ι (H1.or gU)) s2 w ι Z gU:=⟨fun b o x=>⟨.inl (.inl (.inr x)),(Cd.own b o x).2⟩,Cd.apart,Cd.c4⟩
 obtain ⟨eN,w',mC,hrun,hinv,hcell⟩:=PU (P:=P) (id:=id) (ty:=o.type) (ats:=c.argTypes) (args:=c.args.map a.eval) (by rw [← Array.getElem?_toList,rR];rfl) (by rw [← Array.getElem?_toList,rR];rfl)
  (by rw [← Array.getElem?_toList,Qv,he];rfl) (by rw [← Array.getElem?_toList,Qv,he];rfl) hu cd j3 (Nat.le_of_ble_eq_true hroom) (i0.here _) b7 I_ hels aag aah lN hlen nu
 have yx:taken (s2.bQ id (.row t t.own 0 (mx++ys))) t (.ag id none)=some (t.own,mx++ys,(s2.bQ id (.row t t.own 0 (mx++ys))).bQ id .dead):=by
  simp only [taken]
  rw [show(s2.bQ id (.row t t.own 0 (mx++ys))).o id=.row t t.own 0 (mx++ys) from cz _ _ _]
  simp only [kQ]
  rw [ZW];rfl
 obtain ⟨G,Qz,i4,alr,wI,als⟩:=PT yx hinv hcell
 have aai:(s2.bQ id (.row t t.own 0 (mx++ys))).bQ id .dead=s2.bQ id .dead:=by
  show { s2 with o:=bT (bT s2.o id _) id cm.dead } = { s2 with o:=bT s2.o id cm.dead }
  congr 1
  funext j
  by_cases hj:j=id
  ·subst hj;rw [cz,cz]
  ·rw [rq hj,rq hj,rq hj]
 rw [aai] at i4 wI
 have QA:p.id≠id:=by
  intro e0
  rw [mj] at b7
  rw [show(s1.bQ p.id (.cg (.row T T.own ver yQ))).o id=.cg (.row T T.own ver yQ) from by rw [e0];exact cz _ _ _] at b7
  cases b7
 have QB : bT ι id mC p.id = ι p.id:=rq QA
 have i5:=i0.aae Qy i4
 have hcl:∀j,((s2.bQ id .dead).o j).live→j≠id∧(s2.o j).live:=by
  intro j hj
  by_cases lT:j=id
  ·subst lT
   rw [show(s2.bQ j .dead).o j=.dead from cz _ _ _] at hj
   exact hj.elim
  ·rw [show(s2.bQ id .dead).o j=s2.o j from rq lT] at hj
   exact⟨lT,hj⟩
 have Ja:=hinv.ext
 have hap:∀b o,ah.diff (ι p.id).F H1 b o→wH s2 ι (H1.or gU) b o→False:=by
  rintro b o ag ((hf | hf) | ⟨j,hj,hf⟩)
  ·exact ag.2 hf
  ·exact ot.apart p.id Qx b o hf ag.1
  ·exact lS.apart j hj b o ag hf
 have pE:bJ w0 F0 (s2.bQ id .dead) w' (bT ι id mC) Z G:=⟨fun b o x=>⟨Cb i0 Qy (wI.own b o x).1,(wI.own b o x).2⟩,wI.apart,wI.c4⟩
 have aaj:bJ w0 F0 (s2.bQ id .dead) w' (bT ι id mC) Z (ah.diff (ι p.id).F H1):=by
  refine⟨(lS.ext Ja).own,fun j hj b o x y=>?_,lS.c4⟩
  obtain ⟨yR,kx⟩:=hcl j hj
  rw [rq yR] at y
  exact lS.apart j kx b o x y
 have wE:ah.apart G (ah.diff (ι p.id).F H1):=by
  intro b o aB ag
  rcases (wI.own b o aB).1 with hf | hf
  ·exact hap b o ag hf
  ·have:=(lS.own b o ag).2;omega
 have yO:b6 w w' (ah.diff (ι p.id).F H1):=b6.iT Ja (fun b o hb=>(lS.own b o hb).2) hap
 have yS:=Qz
 simp only [ad.al] at yS
 obtain ⟨A,wD,pD,_⟩:=yS
 have pD:eN=.slice A (mx++ys).length wD:=by simpa using pD
 have aak:(execOp a.eval o).run P w=.ok (.value eN) w':=by
  unfold execOp;rw [ho]
  simp only [run_bind,resolve,hc,run_pure,invoke]
  unfold builtin
  exact fY hrun
 have ht:(s2.bQ id .dead).t=s.t:=by
  show s2.t=s.t
  rw [mj]
  exact hs1.t
 unfold Oper.wp
 rw [aak,Oper.upon_value,tP]
 have aal:s2.o p.id=.cg (.row T T.own ver yQ):=by rw [mj];exact cz _ _ _
 have QC:(s2.bQ id .dead).o p.id=.cg (.row T T.own ver yQ):=by rw [show(s2.bQ id .dead).o p.id=s2.o p.id from rq QA];exact aal
 have QD:(bT ι id mC p.id).base=some (at_ cO dM):=by rw [QB];exact eC
 have Ce:s.o p.id=.row T T.own ver yQ:=by
  rcases hs1.o p.id with h2 | ⟨_,h2⟩
  ·rw [← h2];exact dW
  ·rw [h2] at dW;cases dW
 refine⟨⟨_,mB,bT ι id mC,Z,i5.set (by simp only [aP]) i_⟩,?_⟩
 exact Qq bN j1 qA gi iC pv ix iy i_ mz mA tN tO fA hz j5 e5 kY i5 (I4 i5 ht QC Ce QD) QC QD pD Qz pE aaj wE wF (Ja.kn I')
  (by rw [QB];exact fun bL bM X y bD q hs=>wG bL bM X y bD q ((yO.mono fun _ _ h=>h.1).trans hs)) hbk I9
set_option maxHeartbeats 1000000 in
theorem aam{o:Oper}{l:List Oper}{K:an→Option bu}(bN:jH P E)(hn:E.n=n)(h:Inv w0 F0 Z0 n s a w ι Z)(hk:HC E s o l K=some r) :
  ∃dD eG eS l',l=dD :: eG :: eS :: l'∧o.guard=none∧dD.guard=none∧eG.guard=none∧eS.guard=none ∧
   o.wp P a w (fun a w=>dD.wp P a w (fun a w=>eG.wp P a w (fun a w=>eS.wp P a w (fun a w=>∃ar,K ar=some r∧cY w0 F0 Z0 n ar a w) Q) Q) Q) Q:=by
 unfold HC at hk
 split at hk
 case h_2=>cases hk
 rename_i dD eG eS l'
 refine⟨dD,eG,eS,l',rfl,?_⟩
 split at hk
 case h_2=>cases hk
 rename_i c k1 m9 e1 oe na e2 e0 ho my j1 qA
 split at hk
 case h_2=>cases hk
 rename_i bl d0 d1 d2 hc tP gi iC
 cases hb:vP E o dD eG eS k1 e1 e2 e0 d0 d1 d2
 ·rw [hb] at hk;cases hk
 rw [hb] at hk
 simp only [cond_true] at hk
 unfold vP at hb
 simp only [Bool.and_eq_true,Bool.not_eq_true',Option.isNone_iff_eq_none] at hb
 obtain ⟨Cf,c9,eI,iw,ix,iy,g0,g1,g2,g3,pv,i_,mz,mA⟩:=hb
 obtain rfl:=Nat.eq_of_beq_eq_true Cf
 obtain rfl:=Nat.eq_of_beq_eq_true c9
 obtain rfl:=Nat.eq_of_beq_eq_true eI
 have iw:k1≠d0:=Nat.ne_of_beq_eq_false iw
 have ix:d0≠d1:=Nat.ne_of_beq_eq_false ix
 have iy:d0≠d2:=Nat.ne_of_beq_eq_false iy
 have i_:d0<n.n:=by rw [← hn];exact Nat.le_of_ble_eq_true i_
 have mz:d1<n.n:=by rw [← hn];exact Nat.le_of_ble_eq_true mz
 have mA:d2<n.n:=by rw [← hn];exact Nat.le_of_ble_eq_true mA
 refine⟨g0,g1,g2,g3,?_⟩
 split at hk
 case h_2=>cases hk
 rename_i g aj t B5 tN tO
 split at hk
 case h_2=>cases hk
 rename_i e k u p QE fA kX
 obtain ⟨jD,hk,I2⟩:=Z2 hk
 cases fJ:(!(Nat.beq u.size 0)&&(Nat.beq jD.id p.id&&Nat.beq (jD.off+k) p.off))
 ·rw [fJ] at hk;cases hk
 rw [fJ] at hk
 simp only [cond_true] at hk
 simp only [Bool.and_eq_true,Bool.not_eq_true'] at fJ
 obtain ⟨hz,tM,j5⟩:=fJ
 have hz:u.size≠0:=Nat.ne_of_beq_eq_false hz
 have tM:jD.id=p.id:=Nat.eq_of_beq_eq_true tM
 have j5:jD.off+k=p.off:=Nat.eq_of_beq_eq_true j5
 split at hk
 case h_2=>cases hk
 rename_i aan aao B6 yP
 cases qB:Nat.beq aan aao
 ·rw [qB] at hk;cases hk
 rw [qB] at hk
 simp only [cond_true] at hk
 have hvs:=tz h c.args.toList
 have hf:=e4 h bl
 rw [B5] at hf
 simp only [aP] at hf
 obtain ⟨cn,cs,IY,kV,hcs⟩:=hf
 simp only [aX] at kV hcs
 subst kV hcs
 cases Jb:c.args.toList.map (bU s) with
 | nil=>rw [Jb] at kX;cases kX
 | cons v0 bI =>
  rw [Jb] at kX hk hvs
  cases v0 with
  | aU Po =>
   cases Po with
   | b2 dw dp cr xs =>
    simp only [vN] at kX
    subst kX
    simp only [aX] at hvs
    obtain ⟨kv,aT,hus,py,QF⟩:=hvs
    simp only [aP] at py
    rw [Jb] at QE
    obtain ⟨ps,rs,f⟩:=e
    cases hm:vO (pe (a6.aU (a8.b2 dw dp (some p) xs) :: bI)) s t ps (a6.aU (a8.b2 dw dp (some p) xs) :: bI++lA (a6.aU (a8.b2 dw dp (some p) xs) :: bI)) with
    | none=>rw [hm] at hk;cases hk
    | some X =>
     obtain ⟨x,s1,bm⟩:=X
     rw [hm] at hk
     simp only at hk
     cases dV:(alive s1 bm&&od (a6.aU (a8.b2 dw dp (some p) xs) :: bI))
     ·rw [dV] at hk;cases hk
     rw [dV] at hk
     simp only [cond_true] at hk
     simp only [Bool.and_eq_true] at dV
     obtain ⟨dV,IU⟩:=dV
     obtain ⟨bp,ep,hk⟩:=bf hk
     obtain ⟨y,aN,hk⟩:=bf hk
     obtain ⟨B7,hbk,I9⟩:=bf hk
     have IV:=bN.fns g _ _ QE
     cases ps with
     | nil=>simp [vO] at hm
     | cons sp ps =>
      cases sp with
      | val T m =>
       cases T with
       | sl dm =>
        simp only [List.cons_append,vO] at hm
        cases Cg:(a'.beq m (.O dm.own)&&(ad.beq t dm&&HA ps))
        ·rw [Cg] at hm;cases hm
        rw [Cg] at hm
        simp only [cond_true] at hm
        simp only [Bool.and_eq_true] at Cg
        obtain ⟨rQ,v_,alu⟩:=Cg
        obtain rfl:=a'.eq_of_beq _ _ rQ
        obtain rfl:=ad.eq_of_beq _ _ v_
        obtain ⟨⟨mx,s0⟩,iB,hm⟩:=bf hm
        obtain ⟨q,hq,hm⟩:=bf hm
        obtain ⟨c9,alv,nd⟩:=q
        simp only [Option.some.injEq,Prod.mk.injEq] at hm
        obtain ⟨rfl,rfl,rfl⟩:=hm
        obtain ⟨i,T,ver,ys,cO,dM,H1,e5,dW,hs0,kY,eC,i0,Cc,tQ,lS,I_,Qw,wF,I',wG⟩:=Qp h py iB
        have Ce:s0.o p.id=.cg (.row T T.own ver ys):=by rw [hs0];exact cz _ _ _
        have aap:aX w Z s ι (lA (a6.aU (a8.b2 dw dp (some p) xs) :: bI)) (f' (kv :: aT)):=IQ IU (by simp only [aX];exact⟨kv,aT,rfl,by simpa only [aP] using py,QF⟩)
        have alw:∃A m' c',kv=.slice A m' c':=py.2.1
        obtain ⟨mw,eU,cp,i1,wJ,QG,_,QH,_,_,_,aaq,src⟩:=qy ps _ _ s0 Z [] _ hq i0 (aX.move Cc.ek (QF.append aap)) (by simp)
        simp only at i1 wJ QG QH aaq src
        have aar:=tQ.tE wJ
        have Jc:=lS.tE wJ
        have b_:=B1 dV
        have tT:bJ w0 F0 s1 w ι cp (H1.or mw):=aar.or QH
        have Jd:∀ {X:ah},bJ w0 F0 s0 w ι Z X→∀b o,X b o→mw b o→False:=by
         intro X hX b o hx hj
         obtain ⟨id,hl,hf⟩:=src b o (.inl hj)
         exact hX.apart id hl b o hx hf
        have hA:gA w (cp.or (dh ι bm)) (pe (a6.aU (a8.b2 dw dp (some p) xs) :: bI)) (.val (.sl t) (.O t.own) :: ps) (mx,c9) (c.args.toList.map a.eval++f' (c.args.toList.map a.eval)) (H1.or mw):=by
         rw [hus]
         exact⟨[kv],aT++f' (kv :: aT),H1,mw,rfl,ad.al.mono (fun b o hz=>.inl (wJ.dE b o hz)) _ _ (fun _ _ h=>h) I_,QG,fun b o x y=>Jd tQ b o x y,fun _ _ h=>.inl h,fun _ _ h=>.inr h⟩
        obtain ⟨rfl,rfl⟩:∃e:rs=[.val (.sl t) (.O t.own)],y=(e ▸ bp:(cX.outs [.val (.sl t) (.O t.own)] (bB.d_ (.val (.sl t) (.O t.own) :: ps))).D).1:=by
         cases rs with
         | nil=>simp [yg] at aN
         | cons BT rs =>
          cases BT with
          | val h_ aas =>
           cases rs with
           | cons=>simp [yg] at aN
           | nil =>
            simp only [yg] at aN
            cases mg:a'.beq aas (.O t.own)
            ·rw [mg] at aN;cases aN
            rw [mg] at aN
            obtain rfl:=a'.eq_of_beq _ _ mg
            obtain ⟨e,rfl⟩:=Bl aN
            subst e
            exact⟨rfl,rfl⟩
          | _=>simp [yg] at aN
        have hcall:=IV.calls w (cp.or (dh ι bm)) (H1.or mw) (mx,c9) (c.args.toList.map a.eval) bp
         (by
          rintro b o (hz | ⟨d,ag,hf⟩)
          ·exact i1.iR b o hz
          ·exact(i1.own d.1 (b_ d ag) b o hf).2)
         (fun b o hf=>(tT.own b o hf).2)
         (by
          rintro b o hf (hz | hz)
          ·exact tT.c4 b o hf hz
          ·exact tT.dh b_ b o hf hz) hA ep
        suffices key:∀(eN:Value) (w':World),Ends w (cp.or (dh ι bm)) (H1.or mw) ⟨.val (.sl t) (.O t.own) :: ps,[.val (.sl t) (.O t.own)],f⟩ (c.args.toList.map a.eval) bp eN w' →
          dD.wp P (a.put o.dst eN) w' (fun a w=>eG.wp P a w (fun a w=>eS.wp P a w (fun a w=>∃ar,K ar=some r∧cY w0 F0 Z0 n ar a w) Q) Q) Q by
         unfold Oper.wp
         have hrun:(execOp a.eval o).run P w=(callFunc g (c.args.toList.map a.eval).toArray).run P w:=by
          unfold execOp;rw [ho]
          simp only [run_bind,resolve,hc,IY,Deferred.ofValue,run_pure,invoke]
          congr 2
          apply Array.ext'
          simp
         rw [hrun]
         rcases hcall with⟨⟨fn,yL,IZ,iZ⟩,hcall⟩ | ⟨alx,w',tK,gJ,yw,hu⟩
         ·have I0:(callFunc g (c.args.toList.map a.eval).toArray).run P w=.ok (.enter g (c.args.toList.map a.eval).toArray) w:=by
           simp only [callFunc,run_bind,run_pure,program,Sem.run,yL]
           rw [if_neg (by rw [iZ];simp),if_neg (by rw [IZ];simp)]
           simp only [run_pure]
          rw [I0,Oper.upon_enter]
          refine hcall.mono ?_
          rintro aly w' ⟨v9,rfl,hu⟩
          exact key v9 w' hu
         ·rw [tK,Oper.upon_value]
          cases yw
          exact key _ w' hu
        rintro eN w' ⟨⟨du,Z',F',rfl,hx,jl,hz2,hf2,tJ,hK⟩⟩
        simp only [ia] at hK
        obtain ⟨vs1,ec,G,aat,rfl,cM,⟨rfl,_⟩,_,hGF,_⟩:=hK
        have yS:=cM
        simp only [ad.al] at yS
        obtain ⟨A,wD,rfl,_⟩:=yS
        obtain ⟨hv,pD⟩:∃hv,hv=Value.slice A bp.1.length wD:=⟨_,rfl⟩
        rw [← pD] at cM
        rw [show ov [dH (.sl t) [Value.slice A bp.1.length wD]]=hv from pD.symm]
        have rW:Inv w0 F0 Z0 n s1 a w' ι cp:=i1.BG tT hx
        rw [tP]
        have Ch:s1.t=s.t:=wJ.t.trans Cc.t
        have pB:s1.o p.id=.cg (.row T T.own ver ys):=by
         rcases wJ.o p.id with h1 | ⟨h1,_⟩
         ·rw [h1,Ce]
         ·rw [Ce] at h1;exact h1.elim
        rw [e5] at yP
        obtain rfl:=aS yP
        obtain rfl:=Nat.eq_of_beq_eq_true qB
        have fa:ah.sub G F':=hGF
        have wE:ah.apart G (ah.diff (ι p.id).F H1):=by
         intro b o aB ag
         rcases (hf2 b o (fa b o aB)).1 with(hf | hf) | hf
         ·exact ag.2 hf
         ·exact Jd lS b o ag hf
         ·have:=(Jc.own b o ag).2;omega
        have pE:bJ w0 F0 s1 w' ι cp G:=by
         have alz:=i1.ext.size
         refine⟨fun b o aB=>⟨?_,(hf2 b o (fa b o aB)).2⟩,fun id hl b o aB hi=>?_,fun b o aB hz=>?_⟩
         ·rcases (hf2 b o (fa b o aB)).1 with hf | hf
          ·exact(tT.own b o hf).1
          ·exact .inr (by omega)
         ·rcases (hf2 b o (fa b o aB)).1 with hf | hf
          ·exact tT.apart id hl b o hf hi
          ·have:=(i1.own id hl b o hi).2;omega
         ·rcases (hf2 b o (fa b o aB)).1 with hf | hf
          ·exact tT.c4 b o hf hz
          ·have:=i1.iR b o hz;omega
        have yO:b6 w w' (ah.diff (ι p.id).F H1):=b6.iT hx (fun b o hb=>(Jc.own b o hb).2) (by
         rintro b o ag (hf | hf)
         ·exact ag.2 hf
         ·exact Jd lS b o ag hf)
        exact Qq bN j1 qA gi iC pv ix iy i_ mz mA tN tO fA hz j5 e5 kY rW (Z3 my iw i_ tM B6 rW (by rw [Ch];exact I2) pB eC) pB eC pD (qw (.sl t) (b6.refl _ _) cM) pE (Jc.ext hx) wE wF (hx.kn I')
         (fun bL bM X y bD q hs=>wG bL bM X y bD q ((yO.mono fun _ _ h=>h.1).trans hs)) hbk I9
       | _=>simp [vO] at hm
      | _=>simp [vO] at hm
   | _=>simp [vN] at kX
  | _=>simp [vN] at kX
theorem aau{dD:Oper}{T:ad}{vQ k1 k2 d0 i m ver cO dM:Nat}{p:Place}{sub:Option (Nat×Nat)}{ys:List T.D}{q:Int}{hv:Value}{s1:an}(b1:gT P E)(gH:E.ty vQ=some (.sl T))(my:dD.op=.indexAddr vQ (.tmp k1) (.tmp k2))(iw:k1≠d0)(Je:k2≠d0)(i_:d0<n.n)
  (hx:s1.t k1=.aU (.ag p.id sub)) (hq:kr (s1.t k2)=some q) (hm:aO (ly sub ys) q=some m) (hi:ej sub+m=i) (h:Inv w0 F0 Z0 n s1 a w ι Z)
  (pB:s1.o p.id=.cg (.row T T.own ver ys)) (eC:(ι p.id).base=some (at_ cO dM)):(execOp (a.put (some d0) hv).eval dD).run P w=.ok (.value (.pointer (some (at_ cO (dM+i*T.size+0))))) w:=by
 obtain ⟨e,hu,jj⟩:=lK (b1.ty vQ _ gH)
 have h1:=h.tmps k1
 have h2:=h.tmps k2
 rw [hx] at h1
 simp only [aP] at h1
 obtain ⟨_,A,len,c,iU,hh⟩:=h1
 obtain ⟨g1,g2,g3,g4,g5⟩:=hh T T.own ver ys (by rw [pB];rfl)
 obtain ⟨di,v7⟩:=rK hq h2
 have hl:ly sub ys=len:=by
  cases sub with
  | none=>simp [ly,g1]
  | some p=>obtain ⟨lo,l⟩:=p;simp [ly,g1]
 rw [hl] at hm
 obtain ⟨h2,h3,rfl,h4⟩:=yl hm
 rcases g5 with g5 | ⟨a0,gj,rfl⟩
 ·omega
 rw [eC] at gj
 obtain rfl:=aS gj
 unfold execOp;rw [my]
 refine fY ?_
 rw [yM _ _ (by rw [h.size];exact i_) (Ne.symm iw),yM _ _ (by rw [h.size];exact i_) (Ne.symm Je)]
 have e1:a.eval (.tmp k1)=a.tmps.getD k1 undef:=rfl
 have e2:a.eval (.tmp k2)=a.tmps.getD k2 undef:=rfl
 rw [e1,e2,iU,v7]
 have:=Ic (P:=P) (w:=w) (A:=at_ cO (dM+ej sub*T.size)) (b:=cO) (o:=dM+ej sub*T.size) (c:=c) (k:=di) hu jj h2 h3
 rw [← hi,Nat.add_zero,Nat.add_mul,← Nat.add_assoc]
 exact this
theorem aav{o dD eG eS:Oper}{id:Nat}{M:an→Bool}{K:an→Option bu}(bN:jH P E)(hn:E.n=n)(h:Inv w0 F0 Z0 n s a w ι Z)(hk:HG E id s o dD eG eS M K=some r) :
  o.guard=none∧dD.guard=none∧eG.guard=none∧eS.guard=none ∧
   o.wp P a w (fun a w=>(∃og,M og=true∧cY w0 F0 Z0 n og a w)∧dD.wp P a w (fun a w=>eG.wp P a w (fun a w=>eS.wp P a w (fun a w=>∃ar,K ar=some r∧cY w0 F0 Z0 n ar a w) Q) Q) Q) Q:=by
 unfold HG at hk
 split at hk
 case h_2=>cases hk
 rename_i c vQ k1 k2 m9 e1 oe na e2 e0 ho my j1 qA
 split at hk
 case h_2=>cases hk
 rename_i d0 d1 d2 hc tP gi iC
 cases hb:(vP E o dD eG eS k1 e1 e2 e0 d0 d1 d2 && !(Nat.beq k2 d0))
 ·rw [hb] at hk;cases hk
 rw [hb] at hk
 simp only [cond_true] at hk
 unfold vP at hb
 simp only [Bool.and_eq_true,Bool.not_eq_true',Option.isNone_iff_eq_none] at hb
 obtain ⟨⟨Cf,c9,eI,iw,ix,iy,g0,g1,g2,g3,pv,i_,mz,mA⟩,Je⟩:=hb
 obtain rfl:=Nat.eq_of_beq_eq_true Cf
 obtain rfl:=Nat.eq_of_beq_eq_true c9
 obtain rfl:=Nat.eq_of_beq_eq_true eI
 have i_:d0<n.n:=by rw [← hn];exact Nat.le_of_ble_eq_true i_
 have mz:d1<n.n:=by rw [← hn];exact Nat.le_of_ble_eq_true mz
 have mA:d2<n.n:=by rw [← hn];exact Nat.le_of_ble_eq_true mA
 refine⟨g0,g1,g2,g3,?_⟩
 split at hk
 case h_2=>cases hk
 rename_i lC aj t hI ul dp p I8 vb aaw tN tO gH lM
 split at hk
 case h_2=>cases hk
 rename_i k u cb i sub q v em ver xs j fA tA hx1 om dW e5
 cases fJ:(ad.beq hI t&&(ad.beq lC v&&(!(Nat.beq u.size 0)&&(Nat.beq i p.id&&Nat.beq k p.off))))
 ·rw [fJ] at hk;cases hk
 rw [fJ] at hk
 simp only [cond_true] at hk
 simp only [Bool.and_eq_true,Bool.not_eq_true'] at fJ
 obtain ⟨ht,wz,hz,tM,j5⟩:=fJ
 obtain rfl:=ad.eq_of_beq _ _ ht
 obtain rfl:=ad.eq_of_beq _ _ wz
 obtain rfl:=Nat.eq_of_beq_eq_true tM
 obtain ⟨m,hm,hk⟩:=bf hk
 cases qB:Nat.beq (ej sub+m) j
 ·rw [qB] at hk;cases hk
 rw [qB] at hk
 simp only [cond_true] at hk
 have qB:=Nat.eq_of_beq_eq_true qB
 refine aaf (po:=0) bN h ho hc lM gH tA tP j1 qA gi iC pv (Nat.ne_of_beq_eq_false ix) (Nat.ne_of_beq_eq_false iy) i_ mz mA tN tO fA (Nat.ne_of_beq_eq_false hz) (by rw [Nat.zero_add];exact Nat.eq_of_beq_eq_true j5) e5 ?_ hk
 intro T nk cO dM ys s1 dy cp c6 hv h1 Ch pB QI hb1
 rw [dW] at QI
 obtain ⟨rfl,_,_,h4⟩:=cm.row.inj QI
 have h4:=eq_of_heq h4
 subst h4
 exact aau bN.ty aaw my (Nat.ne_of_beq_eq_false iw) (Nat.ne_of_beq_eq_false Je) i_ (by rw [Ch];exact hx1) (by rw [Ch];exact om) hm qB h1 pB hb1
end
end Go.LM
