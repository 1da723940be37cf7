/- Calls are what the interpreter says. Conditions: each theorem's own hypotheses. -/
import Derived.Test.YtklmgcjamifmaaaGreatDoorMLmb
set_option linter.unusedVariables false
set_option linter.unusedSimpArgs false
namespace Go.LM
def f':List Value→List Value
 | []=>[]
 | .func _ a b :: l=>a.toList++b.toList++f' l
 | _ :: l=>f' l
def gw(w:World)(Z:ah)(key:Nat):(ps:List bC)→(bC.ins ps).D→List Value→ah→Prop
 | [],_,us,_=>us=[]
 | .fn l9 o_ :: ps,x,us,F=>∃a b aU,us=.func (.func key) a b :: aU∧(a.size=l9∧b.size=o_)∧gw w Z key ps x aU F
 | .val t m :: ps,x,us,F=>∃vs aU G H,us=dH t vs :: aU∧t.al w Z m x.1 vs G∧gw w Z key ps x.2 aU H∧ah.apart G H∧ah.sub G F∧ah.sub H F
 | .hD t :: ps,x,us,F=>∃vs aU G H,us=dH t vs :: aU∧t.al w Z .R x.1 vs G∧gw w Z key ps x.2 aU H∧ah.apart G H∧ah.sub G F∧ah.sub H F
 | .hC t m :: ps,x,us,F=>∃vs aU G H,us=dH t vs :: aU∧t.al w Z m x.1 vs G∧gw w Z key ps x.2 aU H∧ah.apart G H∧ah.sub G F∧ah.sub H F
 | .ref t :: ps,x,us,F=>∃b o vs aU,us=.pointer (some (at_ b o)) :: aU∧b8 w b o vs∧t.al w Z .R x.1 vs ah.none∧(∀j,j<t.size→Z b (o+j))∧gw w Z key ps x.2 aU F
 | .mut t m _ :: ps,x,us,F=>∃b o vs aU G H,us=.pointer (some (at_ b o)) :: aU∧b8 w b o vs∧(∀j,j<t.size→fm w b (o+j))∧t.al w Z m x.1 vs G∧gw w Z key ps x.2 aU H ∧
   ah.apart (G.or (ah.run b o t.size)) H∧ah.apart G (ah.run b o t.size)∧ah.sub (G.or (ah.run b o t.size)) F∧ah.sub H F
def iq(w:World)(Z:ah):(ps:List bC)→List Value→(bC.dZ ps).D→ah→Prop
 | [],_,_,_=>True
 | .mut t _ m' :: ps,us,x,F=>∃b o vs aU G H,us=.pointer (some (at_ b o)) :: aU∧b8 w b o vs∧t.al w Z m' x.1 vs G∧iq w Z ps aU x.2 H ∧
   ah.apart (G.or (ah.run b o t.size)) H∧ah.apart G (ah.run b o t.size)∧ah.sub (G.or (ah.run b o t.size)) F∧ah.sub H F
 | .hC t m :: ps,us,x,F=>∃vs aU G H,us=dH t vs :: aU∧t.al w Z m x.1 vs G∧iq w Z ps aU x.2 H∧ah.apart G H∧ah.sub G F∧ah.sub H F
 | .val _ _ :: ps,us,x,F=>∃u aU,us=u :: aU∧iq w Z ps aU x F
 | .hD _ :: ps,us,x,F=>∃u aU,us=u :: aU∧iq w Z ps aU x F
 | .ref _ :: ps,us,x,F=>∃u aU,us=u :: aU∧iq w Z ps aU x F
 | .fn _ _ :: ps,us,x,F=>∃u aU,us=u :: aU∧iq w Z ps aU x F
def Il(w:World)(us:List Value)(a off size:Nat)(x:Int)(v:Value):Prop :=
 (x<0∧v=.pointer none)∨(0≤x∧∃b o jn dE n c,us[a]?=some (.pointer (some (at_ b o)))∧w.cell? (at_ b (o+off))=some (.slice (some (at_ jn dE)) n c)∧x.toNat<n∧v=.pointer (some (at_ jn (dE+x.toNat*size))))
def ic(w:World)(Z:ah)(ps:List bC)(us:List Value):(rs:List cX)→(cX.outs rs (bC.dZ ps)).D→List Value→ah→Prop
 | [],x,dr,F=>dr=[]∧iq w Z ps us x F
 | .val t m :: rs,x,dr,F=>∃vs eb G H,dr=dH t vs :: eb∧t.al w Z m x.1 vs G∧ic w Z ps us rs x.2 eb H∧ah.apart G H∧ah.sub G F∧ah.sub H F
 | .opt a off t :: rs,x,dr,F=>∃v eb,dr=v :: eb∧Il w us a off t.size x.1 v∧ic w Z ps us rs x.2 eb F
 | .any t :: rs,x,dr,F=>∃v eb,dr=v :: eb∧(v.cells.toList.length=t.size∧∀u∈v.cells.toList,ee u=true)∧ic w Z ps us rs x eb F
 | .pa t :: rs,x,dr,F=>∃v eb,dr=v :: eb∧((x.1=[]∧v=.pointer none)∨∃y b o vs,x.1=[y]∧v=.pointer (some (at_ b o))∧b8 w b o vs∧t.al w Z .R y vs ah.none∧∀j,j<t.size→Z b (o+j))∧ic w Z ps us rs x.2 eb F
 | .new t m :: rs,x,dr,F=>∃b o vs eb G H,dr=.pointer (some (at_ b o)) :: eb∧b8 w b o vs∧(∀j,j<t.size→fm w b (o+j))∧t.al w Z m x.1 vs G∧ic w Z ps us rs x.2 eb H ∧
   ah.apart (G.or (ah.run b o t.size)) H∧ah.apart G (ah.run b o t.size)∧ah.sub (G.or (ah.run b o t.size)) F∧ah.sub H F
def ow:List Value→Value
 | [v]=>v
 | l=>.tuple l.toArray
structure Ends(w:World)(Z F:ah)(e:Entry)(us:List Value)(r:(cX.outs e.rs (bC.dZ e.ps)).D)(v:Value)(w':World):Prop where
 out:∃dr Z' F',v=ow dr∧Ext w w' F∧ah.sub Z Z'∧(∀b o,Z' b o→Z b o∨((F b o∨w.heap.size≤b)∧b<w'.heap.size))∧(∀b o,F' b o→(F b o∨w.heap.size≤b)∧b<w'.heap.size) ∧
  ah.apart F' Z'∧ic w' Z' e.ps (us++f' us) e.rs r dr F'
structure Sound(P:Program)(f:FuncId)(key:Nat)(e:Entry):Prop where
 fn:∃fn,P.funcs[f]?=some fn∧fn.body.isNone=false∧(fn.name == "runtime.NumGoroutine")=false
 calls:∀(w:World) (Z F:ah) (x:(bC.ins e.ps).D) (us:List Value) (r:(cX.outs e.rs (bC.dZ e.ps)).D),
  (∀b o,Z b o→b<w.heap.size)→(∀b o,F b o→b<w.heap.size)→ah.apart F Z→gw w Z key e.ps x (us++f' us) F→e.f x=some r →
  Calls P f us.toArray w fun end_ w'=>∃v,end_=.returned v∧Ends w Z F e us r v w'
def wo(P:Program)(f:FuncId)(us:Array Value)(w:World)(R:Ending→World→Prop):Prop :=
 ((∃fn,P.funcs[f]?=some fn∧fn.body.isNone=false∧(fn.name == "runtime.NumGoroutine")=false)∧Calls P f us w R)∨∃v w',(callFunc f us).run P w=.ok (.value v) w'∧R (.returned v) w'
structure hW(P:Program)(f:FuncId)(key:Nat)(e:Entry):Prop where
 calls:∀(w:World) (Z F:ah) (x:(bC.ins e.ps).D) (us:List Value) (r:(cX.outs e.rs (bC.dZ e.ps)).D),
  (∀b o,Z b o→b<w.heap.size)→(∀b o,F b o→b<w.heap.size)→ah.apart F Z→gw w Z key e.ps x (us++f' us) F→e.f x=some r →
  wo P f us.toArray w fun end_ w'=>∃v,end_=.returned v∧Ends w Z F e us r v w'
theorem Sound.x{P:Program}{f:FuncId}{key:Nat}{e:Entry}(h:Sound P f key e):hW P f key e :=
 ⟨fun w Z F x us r h1 h2 h3 h4 a7=>.inl ⟨h.fn,h.calls w Z F x us r h1 h2 h3 h4 a7⟩⟩
instance {P:Program} {f:FuncId} {key:Nat} {e:Entry} : Coe (Sound P f key e) (hW P f key e):=⟨Sound.x⟩
section
variable{P:Program}{Q:Exit→Act→World→Prop}
variable{w0:World}{F0 Z0:ah}{n:cD}{s aq:an}{a b_:Act}{w w':World}{ι bf:Nat→bG}{Z Z':ah}
theorem gw.mono{key:Nat}(hZ:ah.sub Z Z'):∀(ps:List bC) {x:(bC.ins ps).D} {us:List Value} {F F':ah},ah.sub F F'→gw w Z key ps x us F→gw w Z' key ps x us F'
 | [],_,_,_,_,_,h=>h
 | .fn _ _ :: ps,_,_,_,_,hF,h=>by
  obtain ⟨a,b,aU,h1,h0,h2⟩:=h
  exact⟨a,b,aU,h1,h0,gw.mono hZ ps hF h2⟩
 | .val t m :: ps,_,_,_,_,hF,h=>by
  obtain ⟨vs,aU,G,H,h1,h2,h3,h4,a7,bh⟩:=h
  exact⟨vs,aU,G,H,h1,ad.al.mono hZ _ _ (fun _ _ h=>h) h2,gw.mono hZ ps (fun _ _ h=>h) h3,h4,fun b o h=>hF b o (a7 b o h),fun b o h=>hF b o (bh b o h)⟩
 | .hD t :: ps,_,_,_,_,hF,h=>by
  obtain ⟨vs,aU,G,H,h1,h2,h3,h4,a7,bh⟩:=h
  exact⟨vs,aU,G,H,h1,ad.al.mono hZ _ _ (fun _ _ h=>h) h2,gw.mono hZ ps (fun _ _ h=>h) h3,h4,fun b o h=>hF b o (a7 b o h),fun b o h=>hF b o (bh b o h)⟩
 | .hC t m :: ps,_,_,_,_,hF,h=>by
  obtain ⟨vs,aU,G,H,h1,h2,h3,h4,a7,bh⟩:=h
  exact⟨vs,aU,G,H,h1,ad.al.mono hZ _ _ (fun _ _ h=>h) h2,gw.mono hZ ps (fun _ _ h=>h) h3,h4,fun b o h=>hF b o (a7 b o h),fun b o h=>hF b o (bh b o h)⟩
 | .ref t :: ps,_,_,_,_,hF,h=>by
  obtain ⟨b,o,vs,aU,h1,h2,h3,h4,a7⟩:=h
  exact⟨b,o,vs,aU,h1,h2,ad.al.mono hZ _ _ (fun _ _ h=>h) h3,fun j hj=>hZ _ _ (h4 j hj),gw.mono hZ ps hF a7⟩
 | .mut t m m' :: ps,_,_,_,_,hF,h=>by
  obtain ⟨b,o,vs,aU,G,H,h1,h2,h3,h4,a7,bh,bH,cG,iZ⟩:=h
  exact⟨b,o,vs,aU,G,H,h1,h2,h3,ad.al.mono hZ _ _ (fun _ _ h=>h) h4,gw.mono hZ ps (fun _ _ h=>h) a7,bh,bH,fun b o h=>hF b o (cG b o h),fun b o h=>hF b o (iZ b o h)⟩
structure fy(s:an)(ι : Nat→bG)(Z:ah)(aq:an)(Z':ah):Prop where
 o:∀id,aq.o id=s.o id∨((s.o id).live∧(aq.o id=.dead∨aq.o id=.ch (s.o id)))
 t:aq.t=s.t
 g:aq.g=s.g
 dF:ah.sub Z Z'
 pd:∀b o,Z' b o→Z b o∨∃id,(s.o id).live∧¬(aq.o id).live∧(ι id).F b o
theorem fc.mn(h:fc s ι Z aq Z'):fy s ι Z aq Z' :=
 ⟨fun id=>(h.o id).imp (fun h=>h) fun h=>⟨h.1,.inl h.2⟩,h.t,h.g,h.dF,fun b o hz=>(h.pd b o hz).imp (fun h=>h) fun⟨id,h1,h2,h3⟩=>⟨id,h1,by rw [h2];exact Ze,h3⟩⟩
where Ze:¬cm.live .dead:=fun h=>h
theorem fy.refl:fy s ι Z s Z:=fc.mn .refl
theorem fy.live(h:fy s ι Z aq Z'){id:Nat}(hl:(aq.o id).live):(s.o id).live∧aq.o id=s.o id:=by
 rcases h.o id with h1 | ⟨_,h1 | h1⟩
 ·exact⟨h1 ▸ hl,h1⟩
 ·rw [h1] at hl;exact hl.elim
 ·rw [h1] at hl;exact hl.elim
theorem fy.trans{s2:an}{bL:ah}(h:fy s ι Z aq Z')(k:fy aq ι Z' s2 bL):fy s ι Z s2 bL:=by
 refine⟨fun id=>?_,k.t.trans h.t,k.g.trans h.g,fun b o hz=>k.dF b o (h.dF b o hz),fun b o hz=>?_⟩
 ·rcases k.o id with h1 | ⟨h0,h1⟩
  ·rw [h1];exact h.o id
  ·obtain ⟨h2,h3⟩:=h.live h0
   rw [h3] at h1
   exact .inr ⟨h2,h1⟩
 ·rcases k.pd b o hz with h1 | ⟨id,h1,h2,h3⟩
  ·rcases h.pd b o h1 with h1 | ⟨id,h1,h2,h3⟩
   ·exact .inl h1
   ·exact .inr ⟨id,h1,fun hl=>h2 (k.live hl).1,h3⟩
  ·exact .inr ⟨id,(h.live h1).1,h2,h3⟩
theorem fy.ej(h:fy s ι Z aq Z'):eI w Z s ι w Z' aq ι := by
 refine⟨fun id=>?_,h.dF,b9.refl _ _⟩
 rcases h.o id with h1 | ⟨h0,h1 | h1⟩
 ·rw [h1];exact .stay _ _
 ·rw [h1];exact .dead _ _ _
 ·rw [h1];exact .fo _ _ h0
theorem bJ.tE{F:ah}(hf:bJ w0 F0 s w ι Z F)(h:fy s ι Z aq Z'):bJ w0 F0 aq w ι Z' F:=by
 refine⟨hf.own,fun id hl=>hf.apart id (h.live hl).1,fun b o h1 h2=>?_⟩
 rcases h.pd b o h2 with h3 | ⟨id,h3,_,h4⟩
 ·exact hf.c5 b o h1 h3
 ·exact hf.apart id h3 b o h1 h4
theorem yy{id:Nat}(hl:(s.o id).live):fy s ι Z (s.bQ id (.ch (s.o id))) Z:=by
 refine⟨fun j=>?_,rfl,rfl,fun _ _ h=>h,fun _ _ h=>.inl h⟩
 by_cases hj:id=j
 ·subst hj;exact .inr ⟨hl,.inr (cw _ _ _)⟩
 ·exact .inl (cS hj)
theorem Inv.mn(h:Inv w0 F0 Z0 n s a w ι Z)(aB:fy s ι Z aq Z'):Inv w0 F0 Z0 n aq a w ι Z':=by
 have hm:eI w Z s ι w Z' aq ι := aB.ej
 refine h.next hm (Ext.refl _ ah.none) (fun _ _ h=>h.elim) ?_ ?_ ?_ (fun k=>by rw [aB.t];exact(h.tmps k).move hm) h.size h.defers aB.g
 ·intro b o hz
  rcases aB.pd b o hz with h1 | ⟨id,h1,_,h3⟩
  ·exact .inl h1
  ·exact .inr (h.own id h1 b o h3)
 ·intro id hl hne;exact absurd ⟨(aB.live hl).2,rfl⟩ hne
 ·intro id hl b o h1 h2
  obtain ⟨dR,_⟩:=aB.live hl
  rcases aB.pd b o h2 with h3 | ⟨j,h3,h4,a7⟩
  ·exact h.c5 id dR b o h1 h3
  ·have hne:id≠j:=fun e=>h4 (e ▸ hl)
   exact h.apart id j dR h3 hne b o h1 a7
theorem Inv.yz(h:Inv w0 F0 Z0 n s a w ι Z){id:Nat}(hl:(s.o id).live):bJ w0 F0 (s.bQ id (.ch (s.o id))) w ι Z (ι id).F:=by
 refine⟨h.own id hl,fun j hj=>?_,h.c5 id hl⟩
 have hj':(bU s.o id (cm.ch (s.o id)) j).live:=hj
 by_cases hne:id=j
 ·subst hne;rw [cw] at hj';exact hj'.elim
 ·rw [cS hne] at hj'
  exact h.apart id j hl hj' hne
def wq(g:Bool)(w:World)(Z:ah)(s:an)(ι : Nat→bG)(t:ad)(p:Place)(u:Value)(H:ah):Prop :=
 ∃ver old b o vs,(g=true→¬(s.o p.id).live)∧(∀eB,s.o p.id=.ch eB→eB=.var ver old∧(ι p.id).base=some (at_ b o))∧p.fa=none∧u=.pointer (some (at_ b (o+p.off)))∧p.off+t.size≤old.length∧bK w Z s ι old vs ∧
  (∀j,j<old.length→fm w b (o+j))∧(∀j,j<old.length→(j<p.off∨p.off+t.size≤j)→H b (o+j)) ∧
  (∀(j:Nat) (v:Value),vs[j]?=some v→(j<p.off∨p.off+t.size≤j)→w.cell? (at_ b (o+j))=some v)
def wu(g:Bool)(w:World)(Z:ah)(s:an)(ι : Nat→bG)(t:ad)(m:a')(p:Place)(u:Value)(H:ah):Prop :=
 ∃ver xs i b o c G1 G2,(g=true→¬(s.o p.id).live)∧(∀eB,s.o p.id=.ch eB→eB=.row t m ver xs∧(ι p.id).base=some (at_ b o)∧(ι p.id).cap=c)∧p.fa=some i∧i<xs.length∧u=.pointer (some (at_ b (o+i*t.size)))∧xs.length≤c ∧
  (∀j,j<c*t.size→fR w t.size b (o+j))∧(∀j,j<c*t.size→(j<i*t.size∨(i+1)*t.size≤j)→H b (o+j)) ∧
  Row w (t.al w Z m) t.size (xs.take i) b o G1∧Row w (t.al w Z m) t.size (xs.drop (i+1)) b (o +(i+1)*t.size) G2∧ah.apart G1 G2∧ah.sub G1 H∧ah.sub G2 H ∧
  (∀j,j<c*t.size→¬G1 b (o+j)∧¬G2 b (o+j))
def Zf(g:Bool)(s:an)(ι : Nat→bG)(t:ad)(e:a')(cr:Option Place)(v:Value)(H:ah)(w:World):Prop :=
 ∃(p:Place) (i:Nat) (T:ad) (ver:Nat) (ys:List T.D) (b o c:Nat),cr=some p∧p.fa=some i∧(g=true→¬(s.o p.id).live)∧(∀eB,s.o p.id=.ch eB→eB=.row T T.own ver ys∧(ι p.id).base=some (at_ b o)∧(ι p.id).cap=c)∧i<ys.length∧e=t.own ∧
  ∀(b6:World) (bL X:ah) (y:List t.D) (bB:T.D),b9 w b6 H→(ad.sl t).al b6 bL (.O t.own) y [v] X→ah.apart X H→T.setAt p.off t y (J T ys i)=some bB→m7 b6 (T.al b6 bL T.own) T.size (ys.set i bB) (at_ b o) c (X.or H)
mutual
def cZ(g:Bool)(w:World)(Z:ah)(s:an)(ι : Nat→bG):(t:ad)→a'→List a8→List Value→ah→Prop
 | .sl t,.O e,cs,vs,H=>∃c v,cs=[c]∧vs=[v]∧match c with
  | .nil _=>v=.slice none 0 0
  | .ag id none=>∃ver xs A k c,(g=true→¬(s.o id).live)∧(∀eB,s.o id=.ch eB→eB=.row t e ver xs∧(ι id).cap=c∧Hw (ι id) t.size none xs.length A xs.length k)∧v=.slice A xs.length k ∧
    ((xs=[]∧c=0)∨∃b o,(∀eB,s.o id=.ch eB→(ι id).base=some (at_ b o))∧xs.length≤c∧k≤c∧(k=0∨A=some (at_ b o))∧(∀j,j<c*t.size→fR w t.size b (o+j))∧(∀j,k*t.size≤j→j<c*t.size→H b (o+j)))
  | .b1 _ _ cr _=>Zf g s ι t e cr v H w
  | _=>False
 | .sl _,_,_,_,_=>False
 | .st aj,m,cs,vs,H=>fE g w Z s ι aj m.parts cs vs H
 | _,_,cs,vs,_=>cs.length=1∧vs.length=1
def fE(g:Bool)(w:World)(Z:ah)(s:an)(ι : Nat→bG):(aj:ay)→cU→List a8→List Value→ah→Prop
 | .nil,_,cs,vs,_=>cs=[]∧vs=[]
 | .cons t aj,m,cs,vs,H=>∃c1 gC v1 v2 H1 H2,cs=c1++gC∧vs=v1++v2∧cZ g w Z s ι t m.ag c1 v1 H1∧fE g w Z s ι aj m.dx gC v2 H2∧ah.apart H1 H2∧ah.sub H1 H∧ah.sub H2 H
end
def eX(g:Bool)(w:World)(Z:ah)(s:an)(ι : Nat→bG):(ps:List bC)→List a6→List Value→ah→Prop
 | [],_,_,_=>True
 | .mut t m m' :: ps,vs,us,H=>∃p bI u aU H1 H2,vs=.ptr p :: bI∧us=u :: aU∧(wq g w Z s ι t p u H1∨(m'=m∧m=t.own∧wu g w Z s ι t m p u H1))∧eX g w Z s ι ps bI aU H2∧ah.apart H1 H2∧ah.sub H1 H∧ah.sub H2 H
 | .hC t m :: ps,vs,us,H=>∃v bI u aU cs H1 H2,vs=v :: bI∧us=u :: aU∧iQ t v=some cs∧m=t.own∧cZ g w Z s ι t m cs u.cells.toList H1∧eX g w Z s ι ps bI aU H2∧ah.apart H1 H2∧ah.sub H1 H∧ah.sub H2 H
 | _ :: ps,vs,us,H=>∃v bI u aU,vs=v :: bI∧us=u :: aU∧eX g w Z s ι ps bI aU H
end
end Go.LM
namespace Go.LM
section
variable{P:Program}{Q:Exit→Act→World→Prop}
variable{g:Bool}{w0:World}{F0 Z0:ah}{n:cD}{s aq:an}{a b_:Act}{w w':World}{ι bf:Nat→bG}{Z Z':ah}
structure gH(g:Bool)(w:World)(Z:ah)(s:an)(ι : Nat→bG)(w':World)(Z':ah)(aq:an)(bf:Nat→bG)(H:ah):Prop where
 aA:∀x v,aQ w Z s ι x v→aQ w' Z' aq bf x v
 cell:∀c v,cj w Z s ι c v→cj w' Z' aq bf c v
 dF:ah.sub Z Z'
 ch:∀id o',(g=true→¬(s.o id).live)→aq.o id=.ch o'→s.o id=.ch o' ∧ bf id = ι id
 nl:g=true→∀id,¬(s.o id).live→¬(aq.o id).live
 same:b9 w w' H
 BI:b9 w w' Z
 wr:∀b o,fm w b o→fm w' b o
 yA:∀z b o,fR w z b o→fR w' z b o
theorem gH.mono{H fV:ah}(h:gH g w Z s ι w' Z' aq bf H)(hs:ah.sub fV H):gH g w Z s ι w' Z' aq bf fV:=⟨h.aA,h.cell,h.dF,h.ch,h.nl,h.same.mono hs,h.BI,h.wr,h.yA⟩
theorem wq.move{t:ad}{p:Place}{u:Value}{H fV:ah}(h:gH g w Z s ι w' Z' aq bf H)(cE:ah.sub H fV)(hk:wq g w Z s ι t p u H):wq g w' Z' aq bf t p u fV:=by
 obtain ⟨ver,old,b,o,vs,h0,h1,h2,h4,a7,bh,bH,cG,iZ⟩:=hk
 have hl:=bh.len
 refine⟨ver,old,b,o,vs,fun aB=>h.nl aB _ (h0 aB),fun eB bX=>?_,h2,h4,a7,bK.mono h.cell bh,fun j hj=>h.wr _ _ (bH j hj),fun j hj hh=>cE _ _ (cG j hj hh),fun j v hv hh=>?_⟩
 ·obtain ⟨dS,eK⟩:=h.ch _ _ h0 bX
  rw [eK];exact h1 eB dS
 have hj:j<old.length:=by
  rcases Nat.lt_or_ge j vs.length with h | h
  ·omega
  ·rw [List.getElem?_eq_none h] at hv;simp at hv
 rw [(h.same _ _ (cG j hj hh)).1]
 exact iZ j v hv hh
theorem wu.move{t:ad}{m:a'}{p:Place}{u:Value}{H fV:ah}(h:gH g w Z s ι w' Z' aq bf H)(cE:ah.sub H fV)(hk:wu g w Z s ι t m p u H):wu g w' Z' aq bf t m p u fV:=by
 obtain ⟨ver,xs,i,b,o,c,G1,G2,h0,h1,h2,h3,a7,bh,bH,cG,iZ,j6,tF,lP,wv,wx⟩:=hk
 have cN:∀(G:ah),ah.sub G H→∀y us dm,ah.sub dm G→t.al w Z m y us dm→t.al w' Z' m y us dm:=fun G hG y us dm HK hr =>
  ad.al.mono h.dF _ _ (fun _ _ h=>h) (ad.al.same h.BI _ _ (h.same.mono fun b o aB=>hG b o (HK b o aB)) hr)
 have hcap:(i+1)*t.size≤c*t.size:=Nat.mul_le_mul_right _ (by omega)
 have hcell:∀j,j<c*t.size→(j<i*t.size∨(i+1)*t.size≤j)→w'.cell? (at_ b (o+j))=w.cell? (at_ b (o+j)):=fun j hj hh=>(h.same _ _ (cG j hj hh)).1
 refine⟨ver,xs,i,b,o,c,G1,G2,fun aB=>h.nl aB _ (h0 aB),fun eB bX=>?_,h2,h3,a7,bh,fun j hj=>h.yA _ _ _ (bH j hj),fun j hj hh=>cE _ _ (cG j hj hh),?_,?_,tF,fun b o aB=>cE b o (lP b o aB),fun b o aB=>cE b o (wv b o aB),wx⟩
 ·obtain ⟨dS,eK⟩:=h.ch _ _ h0 bX
  rw [eK];exact h1 eB dS
 ·refine iZ.imp (cN G1 lP) fun j hj=>hcell j ?_ (.inl ?_)
  all_goals
   have:(xs.take i).length=i:=by simp;omega
   rw [this] at hj
   rw [Nat.add_one_mul] at hcap
   omega
 ·refine j6.imp (cN G2 wv) fun j hj=>?_
  have hle:xs.length*t.size≤c*t.size:=Nat.mul_le_mul_right _ bh
  have e1:(xs.drop (i+1)).length=xs.length-(i+1):=by simp
  rw [e1,Nat.sub_mul] at hj
  have:=hcell ((i+1)*t.size+j) (by omega) (.inr (by omega))
  rwa [← Nat.add_assoc] at this
mutual
theorem cZ.move{H fV:ah}(h:gH g w Z s ι w' Z' aq bf H)(cE:ah.sub H fV):∀(t:ad) (m:a') {cs:List a8} {vs:List Value},cZ g w Z s ι t m cs vs H→cZ g w' Z' aq bf t m cs vs fV
 | .int _,_,_,_,hk=>by simp only [cZ] at hk ⊢;exact hk
 | .bool,_,_,_,hk=>by simp only [cZ] at hk ⊢;exact hk
 | .str,_,_,_,hk=>by simp only [cZ] at hk ⊢;exact hk
 | .raw,_,_,_,hk=>by simp only [cZ] at hk ⊢;exact hk
 | .sl t,.R,_,_,hk=>by simp only [cZ] at hk
 | .sl t,.S _,_,_,hk=>by simp only [cZ] at hk
 | .sl t,.O e,_,_,hk=>by
  simp only [cZ] at hk ⊢
  obtain ⟨c,v,h1,h2,hk⟩:=hk
  refine⟨c,v,h1,h2,?_⟩
  cases c with
  | nil=>exact hk
  | ag id sub =>
   cases sub with
   | some=>exact hk
   | none =>
    obtain ⟨ver,xs,A,k,c,mi,k1,k2,ba⟩:=hk
    refine⟨ver,xs,A,k,c,fun aB=>h.nl aB _ (mi aB),fun eB bX=>?_,k2,?_⟩
    ·obtain ⟨dS,eK⟩:=h.ch _ _ mi bX
     rw [eK];exact k1 eB dS
    rcases ba with ba | ⟨b,o,c8,eJ,iv,iw,ix,pr⟩
    ·exact .inl ba
    ·right
     refine⟨b,o,fun eB bX=>?_,eJ,iv,iw,fun j hj=>h.yA _ _ _ (ix j hj),fun j h1 h2=>cE _ _ (pr j h1 h2)⟩
     obtain ⟨dS,eK⟩:=h.ch _ _ mi bX
     rw [eK];exact c8 eB dS
  | b1 u dp cr xs =>
   obtain ⟨p,i,T,ver,ys,b,o,c,au,hi,mi,k1,k2,k3,ba⟩:=hk
   refine⟨p,i,T,ver,ys,b,o,c,au,hi,fun aB=>h.nl aB _ (mi aB),fun eB bX=>?_,k2,k3,fun b6 bL X y bB c8 eJ iv iw=>?_⟩
   ·obtain ⟨dS,eK⟩:=h.ch _ _ mi bX
    rw [eK];exact k1 eB dS
   ·have:=ba b6 bL X y bB (h.same.trans (c8.mono cE)) eJ (fun b o x y=>iv b o x (cE b o y)) iw
    obtain ⟨G,g1,g2,g3⟩:=this.row
    exact⟨this.spot,this.cap,this.wr,fun j hj=>(this.inF j hj).imp (fun h=>h) (cE _ _),G,g1,g2,fun b o x=>(g3 b o x).imp (fun h=>h) (cE b o)⟩
  | _=>exact hk
 | .st aj,m,_,_,hk=>by simp only [cZ] at hk ⊢;exact fE.move h cE aj m.parts hk
theorem fE.move{H fV:ah}(h:gH g w Z s ι w' Z' aq bf H)(cE:ah.sub H fV):∀(aj:ay) (m:cU) {cs:List a8} {vs:List Value},fE g w Z s ι aj m cs vs H→fE g w' Z' aq bf aj m cs vs fV
 | .nil,_,_,_,hk=>by simp only [fE] at hk ⊢;exact hk
 | .cons t aj,m,_,_,hk=>by
  simp only [fE] at hk ⊢
  obtain ⟨c1,gC,v1,v2,H1,H2,h1,h2,h3,h4,a7,bh,bH⟩:=hk
  exact⟨c1,gC,v1,v2,H1,H2,h1,h2,cZ.move (h.mono bh) (fun _ _ h=>h) t m.ag h3,fE.move (h.mono bH) (fun _ _ h=>h) aj m.dx h4,a7,fun b o x=>cE b o (bh b o x),fun b o x=>cE b o (bH b o x)⟩
end
theorem eX.move{H fV:ah}(h:gH g w Z s ι w' Z' aq bf H)(cE:ah.sub H fV):∀(ps:List bC) {vs:List a6} {us:List Value},eX g w Z s ι ps vs us H→eX g w' Z' aq bf ps vs us fV
 | [],_,_,_=>trivial
 | .mut t m m' :: ps,_,_,⟨p,bI,u,aU,H1,H2,h1,h2,h3,h4,a7,bh,bH⟩=>⟨p,bI,u,aU,H1,H2,h1,h2,h3.imp (wq.move (h.mono bh) (fun _ _ h=>h)) (fun hk=>⟨hk.1,hk.2.1,wu.move (h.mono bh) (fun _ _ h=>h) hk.2.2⟩),eX.move (h.mono bH) (fun _ _ h=>h) ps h4,a7,fun b o x=>cE b o (bh b o x),fun b o x=>cE b o (bH b o x)⟩
 | .hC t m :: ps,_,_,⟨v,bI,u,aU,cs,H1,H2,h1,h2,h3,ox,h4,a7,bh,bH,cG⟩=>⟨v,bI,u,aU,cs,H1,H2,h1,h2,h3,ox,cZ.move (h.mono bH) (fun _ _ h=>h) t m h4,eX.move (h.mono cG) (fun _ _ h=>h) ps a7,bh,fun b o x=>cE b o (bH b o x),fun b o x=>cE b o (cG b o x)⟩
 | .val _ _ :: ps,_,_,⟨v,bI,u,aU,h1,h2,h3⟩=>⟨v,bI,u,aU,h1,h2,eX.move h cE ps h3⟩
 | .hD _ :: ps,_,_,⟨v,bI,u,aU,h1,h2,h3⟩=>⟨v,bI,u,aU,h1,h2,eX.move h cE ps h3⟩
 | .ref _ :: ps,_,_,⟨v,bI,u,aU,h1,h2,h3⟩=>⟨v,bI,u,aU,h1,h2,eX.move h cE ps h3⟩
 | .fn _ _ :: ps,_,_,⟨v,bI,u,aU,h1,h2,h3⟩=>⟨v,bI,u,aU,h1,h2,eX.move h cE ps h3⟩
theorem fy.held(h:fy s ι Z aq Z')(H:ah):gH true w Z s ι w Z' aq ι H:=by
 refine⟨fun _ _=>aQ.move h.ej,fun _ _=>cj.move h.ej,h.dF,fun id o' hn ho=>⟨?_,rfl⟩,fun _ id hn hl=>hn (h.live hl).1,b9.refl _ _,b9.refl _ _,fun _ _ h=>h,fun _ _ _ h=>h⟩
 rcases h.o id with h1 | ⟨h0,_⟩
 ·rw [← h1,ho]
 ·exact absurd h0 (hn rfl)
def Im(w0:World)(F0 Z0:ah)(n:cD)(s:an)(a:Act)(w:World)(ι : Nat→bG)(Z:ah)(R:List Value→ah→Prop)(BJ:an→List a8→List Value→ah→Prop)(cs:List a8)(vs:List Value)(cs':List a8)(aq:an):Prop :=
 ∃c1 us bI F H,cs=c1++cs'∧vs=us++bI∧Inv w0 F0 Z0 n aq a w ι Z∧fy s ι Z aq Z∧bK w Z aq ι cs' bI∧bJ w0 F0 aq w ι Z F∧bJ w0 F0 aq w ι Z H∧ah.apart F H ∧
  R us F∧BJ aq c1 us H∧∀b o,F b o∨H b o→∃id,(s.o id).live∧(ι id).F b o
theorem BK{R:List Value→ah→Prop}{BJ:an→List a8→List Value→ah→Prop}{c:a8}{v:Value}{cs':List a8}{bI:List Value}(h:Inv w0 F0 Z0 n s a w ι Z)(hc:bK w Z s ι cs' bI)
  (dJ:R [v] ah.none) (BL:BJ s [c] [v] ah.none):Im w0 F0 Z0 n s a w ι Z R BJ (c :: cs') (v :: bI) cs' s :=
 ⟨[c],[v],bI,ah.none,ah.none,rfl,rfl,h,.refl,hc,.none,.none,fun _ _ h=>h.elim,dJ,BL,fun _ _ h=>h.elim (fun h=>h.elim) fun h=>h.elim⟩
mutual
theorem ad.yB:∀(t:ad) (m:a') (cs:List a8) (s:an) (r:t.D×List a8×an) (vs:List Value),t.fo m cs s=some r→Inv w0 F0 Z0 n s a w ι Z→bK w Z s ι cs vs →
  Im w0 F0 Z0 n s a w ι Z (fun us F=>t.al w Z m r.1 us F) (fun s c us H=>cZ true w Z s ι t m c us H) cs vs r.2.1 r.2.2
 | .int k,m,cs,s,r,vs,hi,h,hc=>by
  match cs,vs,hc with
  | [],_,_=>simp [ad.fo] at hi
  | _ :: _,[],hc=>exact hc.elim
  | c :: cs,v :: vs,hc =>
   cases c <;> simp only [ad.fo] at hi <;> try (simp at hi;done)
   rename_i k' x
   cases hb:Nat.beq (dq k) (dq k')
   ·rw [hb] at hi;simp at hi
   rw [hb] at hi
   obtain rfl:=aT hi
   have:=Bs hb
   subst this
   have hv:v=.int k x:=hc.1
   exact BK h hc.2 (by simp only [ad.al];rw [hv]) (by simp only [cZ];exact⟨rfl,rfl⟩)
 | .bool,m,cs,s,r,vs,hi,h,hc=>by
  match cs,vs,hc with
  | [],_,_=>simp [ad.fo] at hi
  | _ :: _,[],hc=>exact hc.elim
  | c :: cs,v :: vs,hc =>
   cases c <;> simp only [ad.fo] at hi <;> try (simp at hi;done)
   obtain rfl:=aT hi
   have hv:=hc.1
   simp only [cj] at hv
   exact BK h hc.2 (by simp only [ad.al];rw [hv]) (by simp only [cZ];exact⟨rfl,rfl⟩)
 | .str,m,cs,s,r,vs,hi,h,hc=>by
  match cs,vs,hc with
  | [],_,_=>simp [ad.fo] at hi
  | _ :: _,[],hc=>exact hc.elim
  | c :: cs,v :: vs,hc =>
   cases c <;> simp only [ad.fo] at hi <;> try (simp at hi;done)
   obtain rfl:=aT hi
   have hv:=hc.1
   obtain ⟨ky,hv,hx⟩:=hv
   exact BK h hc.2 (by simp only [ad.al];exact⟨ky,by rw [hv],hx⟩) (by simp only [cZ];exact⟨rfl,rfl⟩)
 | .raw,m,cs,s,r,vs,hi,h,hc=>by cases cs <;> cases m <;> simp [ad.fo] at hi
 | .sl t,m,cs,s,r,vs,hi,h,hc=>by
  match cs,vs,hc with
  | [],_,_=>cases m <;> simp [ad.fo] at hi
  | _ :: _,[],hc=>exact hc.elim
  | c :: cs,v :: vs,hc =>
   cases m with
   | R=>simp [ad.fo] at hi
   | S=>simp [ad.fo] at hi
   | O e =>
    cases c with
    | nil u =>
     simp only [ad.fo] at hi
     obtain ⟨x,hx,hi⟩:=bg hi
     obtain ⟨e1,rfl⟩:=gR hx
     subst e1
     obtain rfl:=aT hi
     have hv:v=.slice none 0 0:=hc.1
     refine BK h hc.2 ?_ ?_
     ·simp only [ad.al];exact⟨none,0,by rw [hv];rfl,.inl (by simp)⟩
     ·simp only [cZ];exact⟨_,_,rfl,rfl,hv⟩
    | ag id sub =>
     cases sub with
     | some=>simp [ad.fo] at hi
     | none =>
      simp only [ad.fo] at hi
      cases ho:s.o id with
      | row u em ver xs =>
       rw [ho] at hi
       simp only at hi
       cases hb:a'.beq em e
       ·rw [hb] at hi;simp at hi
       rw [hb] at hi
       simp only [cond_true] at hi
       have:=a'.eq_of_beq _ _ hb
       subst this
       obtain ⟨x,hx,hi⟩:=bg hi
       obtain ⟨e1,rfl⟩:=gR hx
       subst e1
       obtain rfl:=aT hi
       have cc:(s.o id).live:=by rw [ho];trivial
       have aB:fy s ι Z (s.bQ id (.ch (.row u em ver xs))) Z:=by have:=yy (s:=s) (ι := ι) (Z:=Z) cc;rw [ho] at this;exact this
       have fi:bJ w0 F0 (s.bQ id (.ch (.row u em ver xs))) w ι Z (ι id).F:=by have:=h.yz cc;rw [ho] at this;exact this
       have c2:=h.fS id
       rw [ho] at c2
       obtain ⟨_,A,m',k,hv,hh⟩:=hc.1
       have hh:=hh u em ver xs (lD ho)
       have np:=vX c2 hh
       have pt:m'=xs.length:=hh.OF
       subst pt
       have mo:(s.bQ id (.ch (.row u em ver xs))).o id=.ch (.row u em ver xs):=cw _ _ _
       simp only [ad.al,kR] at np
       obtain ⟨pk,k',lE,np⟩:=np
       simp only [List.cons.injEq,Value.slice.injEq,and_true,true_and] at lE
       obtain ⟨rfl,rfl⟩:=lE
       rcases c2 with⟨hx0,Zg⟩ | ⟨⟨b,o,sp⟩,eC,hr⟩
       ·refine⟨[.ag id none],[v],vs,ah.none,ah.none,rfl,rfl,h.mn aB,aB,hc.2.move aB.ej,.none,.none,fun _ _ h=>h.elim,?_,?_,fun _ _ h=>h.elim (fun h=>h.elim) fun h=>h.elim⟩
        ·simp only [ad.al]
         have hk0:k=0:=by have:=hh.cap;omega
         exact⟨A,k,by rw [hv],.inl ⟨hx0,hk0⟩⟩
        ·simp only [cZ]
         exact⟨_,_,rfl,rfl,ver,xs,A,k,_,fun _=>by rw [mo];exact fun h=>h,fun eB bX=>by rw [mo] at bX;exact⟨(cm.ch.inj bX).symm,rfl,hh⟩,hv,.inl ⟨hx0,Zg⟩⟩
       ·have hsp:=hr.spot
        simp only at hsp
        subst hsp
        have Zh:k*u.size≤(ι id).cap*u.size:=Nat.mul_le_mul_right _ (by have:=hh.cap;simp only [ei] at this;omega)
        let T:ah:=ah.run b (o+k*u.size) ((ι id).cap*u.size-k*u.size)
        refine⟨[.ag id none],[v],vs,ah.diff (ι id).F T,fun b o=>(ι id).F b o∧T b o,rfl,rfl,h.mn aB,aB,hc.2.move aB.ej,fi.sub fun _ _ h=>h.1,fi.sub fun _ _ h=>h.1,fun b o h1 h2=>h1.2 h2.2,?_,?_,?_⟩
        ·simp only [ad.al]
         refine⟨A,k,by rw [hv],?_⟩
         rcases np with np | ⟨⟨b',o',sp⟩,hA,iz⟩
         ·exact .inl np
         ·rcases hh.at_ with hk0 | ⟨a1,nr,tG⟩
          ·exact .inl ⟨List.eq_nil_of_length_eq_zero (by have:=hh.le;omega),hk0⟩
          ·right
           rw [eC] at nr
           obtain rfl:=aT nr
           rw [hA] at tG
           simp only [ei,Nat.zero_mul,Nat.add_zero,Option.some.injEq,at_,Addr.mk.injEq] at tG
           obtain ⟨rfl,rfl,rfl⟩:=tG
           obtain ⟨G,g1,g2,g3⟩:=hr.row
           refine⟨_,hA,rfl,iz.cap,iz.wr,fun j hj=>⟨iz.inF j hj,?_⟩,G,g1,fun j hj=>g2 j (by omega),fun b o aB=>⟨g3 b o aB,?_⟩⟩
           ·rintro ⟨_,h1,_⟩;simp only at h1;omega
           ·rintro ⟨rfl,h1,h2⟩
            have:=g2 (o-o') (by omega)
            simp only at this
            rw [show o' +(o-o')=o by omega] at this
            exact this aB
        ·simp only [cZ]
         refine⟨_,_,rfl,rfl,ver,xs,A,k,(ι id).cap,fun _=>by rw [mo];exact fun h=>h,fun eB bX=>by rw [mo] at bX;exact⟨(cm.ch.inj bX).symm,rfl,hh⟩,hv,.inr ⟨b,o,fun _ _=>eC,hr.cap,by have:=hh.cap;simp only [ei] at this;omega,?_,hr.wr,fun j h1 h2=>⟨hr.inF j h2,rfl,by omega,by omega⟩⟩⟩
         rcases hh.at_ with h0 | ⟨a1,nr,tG⟩
         ·exact .inl h0
         ·rw [eC] at nr
          obtain rfl:=aT nr
          right;rw [tG];simp [ei,at_]
        ·rintro b o (hf | hf)
         ·exact⟨id,cc,hf.1⟩
         ·exact⟨id,cc,hf.1⟩
      | _=>rw [ho] at hi;simp at hi
    | b1 u dp cr xs =>
     simp only [ad.fo] at hi
     obtain ⟨BM,iB,hi⟩:=bg hi
     obtain rfl:=aT hi
     cases cr with
     | none=>simp [th] at iB
     | some p =>
      simp only [th] at iB
      cases e8:p.fa with
      | none=>rw [e8] at iB;simp at iB
      | some i =>
       rw [e8] at iB
       cases ho:s.o p.id with
       | row T em ver ys =>
        rw [ho] at iB
        simp only at iB
        cases hb:(alive s dp&&a'.beq em T.own&&a'.beq e t.own)
        ·rw [hb] at iB;simp at iB
        rw [hb] at iB
        simp only [cond_true] at iB
        simp only [Bool.and_eq_true] at hb
        obtain rfl:=a'.eq_of_beq _ _ hb.1.2
        obtain rfl:=a'.eq_of_beq _ _ hb.2
        obtain ⟨x,hx,iB⟩:=bg iB
        obtain rfl:=aT iB
        obtain ⟨_,_,_,kY⟩:=hc.1
        obtain ⟨_,kY⟩:=kY _ rfl
        obtain ⟨cQ,dL,⟨_,fD⟩,hcell,hin⟩:=kY hb.1.1
        simp only [ho,cm.core] at fD
        obtain ⟨ea,hii,kZ,a0,eC,nk⟩:=fD
        rw [e8] at hii
        obtain rfl:=aT hii
        have cc:(s.o p.id).live:=by rw [ho];trivial
        have aB:fy s ι Z (s.bQ p.id (.ch (.row T T.own ver ys))) Z:=by have:=yy (s:=s) (ι := ι) (Z:=Z) cc;rw [ho] at this;exact this
        have fi:bJ w0 F0 (s.bQ p.id (.ch (.row T T.own ver ys))) w ι Z (ι p.id).F:=by have:=h.yz cc;rw [ho] at this;exact this
        have c2:=h.fS p.id
        rw [ho] at c2
        rcases c2 with⟨hx0,_⟩ | ⟨a1,hb1,hr⟩
        ·rw [hx0] at kZ;simp at kZ
        rw [eC] at hb1
        obtain rfl:=aT hb1
        obtain ⟨ab,ao,sp⟩:=a0
        have hsp:=hr.spot
        simp only at hsp
        subst hsp
        obtain ⟨eQ,H1,dS,eK,oo,pg⟩:=hr.lens kZ hx
        rw [← nk] at dS
        have Io:eQ=v:=by rw [hcell] at dS;exact(aT dS).symm
        subst Io
        have mo:(s.bQ p.id (.ch (.row T T.own ver ys))).o p.id=.ch (.row T T.own ver ys):=cw _ _ _
        refine⟨[.b1 u dp (some p) xs],[eQ],vs,H1,ah.diff (ι p.id).F H1,rfl,rfl,h.mn aB,aB,hc.2.move aB.ej,fi.sub oo,fi.sub fun _ _ h=>h.1,fun b o h1 h2=>h2.2 h1,eK,?_,?_⟩
        ·simp only [cZ]
         exact⟨_,_,rfl,rfl,p,i,T,ver,ys,ab,ao,(ι p.id).cap,rfl,e8,fun _=>by rw [mo];exact fun h=>h,fun eB bX=>by rw [mo] at bX;exact⟨(cm.ch.inj bX).symm,eC,rfl⟩,kZ,rfl,pg⟩
        ·rintro b o (hf | hf)
         ·exact⟨p.id,cc,oo b o hf⟩
         ·exact⟨p.id,cc,hf.1⟩
       | _=>rw [ho] at iB;simp at iB
    | _=>simp [ad.fo] at hi
 | .st aj,m,cs,s,r,vs,hi,h,hc=>by
  simp only [ad.fo] at hi
  have:=ay.yB aj m.parts cs s r vs hi h hc
  simpa only [ad.al,cZ] using this
theorem ay.yB:∀(aj:ay) (m:cU) (cs:List a8) (s:an) (r:aj.D×List a8×an) (vs:List Value),aj.fo m cs s=some r→Inv w0 F0 Z0 n s a w ι Z→bK w Z s ι cs vs →
  Im w0 F0 Z0 n s a w ι Z (fun us F=>aj.al w Z m r.1 us F) (fun s c us H=>fE true w Z s ι aj m c us H) cs vs r.2.1 r.2.2
 | .nil,m,cs,s,r,vs,hi,h,hc=>by
  simp only [ay.fo] at hi
  obtain rfl:=aT hi
  exact⟨[],[],vs,ah.none,ah.none,rfl,rfl,h,.refl,hc,.none,.none,fun _ _ h=>h.elim,by simp only [ay.al],by simp [fE],fun _ _ h=>h.elim (fun h=>h.elim) fun h=>h.elim⟩
 | .cons t aj,m,cs,s,r,vs,hi,h,hc=>by
  simp only [ay.fo] at hi
  obtain ⟨bD,h1,hi⟩:=bg hi
  obtain ⟨cg,h2,hi⟩:=bg hi
  obtain rfl:=aT hi
  obtain ⟨c1,us1,vs1,F1,H1,e1,e2,i1,g1,c8,f1,yC,a1,ek,k1,dS⟩:=ad.yB t m.ag cs s bD vs h1 h hc
  obtain ⟨gC,us2,vs2,dK,H2,d1,d2,i2,g2,eJ,f2,Zi,a2,fp,k2,eK⟩:=ay.yB aj m.dx bD.2.1 bD.2.2 cg vs1 h2 i1 c8
  have hap:∀ {X:ah},bJ w0 F0 bD.2.2 w ι Z X→∀b o,X b o→(dK b o∨H2 b o)→False:=by
   intro X hX b o hx hh
   obtain ⟨id,hl,hf⟩:=eK b o hh
   exact hX.apart id hl b o hx hf
  refine⟨c1++gC,us1++us2,vs2,F1.or dK,H1.or H2,by rw [e1,d1,List.append_assoc],by rw [e2,d2,List.append_assoc],i2,g1.trans g2,eJ,(f1.tE g2).or f2,(yC.tE g2).or Zi,?_,?_,?_,?_⟩
  ·rintro b o (hf | hf) (hh | hh)
   ·exact a1 b o hf hh
   ·exact hap f1 b o hf (.inr hh)
   ·exact hap yC b o hh (.inl hf)
   ·exact a2 b o hf hh
  ·simp only [ay.al]
   exact⟨us1,us2,F1,dK,rfl,ek,fp,fun b o h1 h2=>hap f1 b o h1 (.inl h2),fun _ _ h=>.inl h,fun _ _ h=>.inr h⟩
  ·simp only [fE]
   exact⟨c1,gC,us1,us2,H1,H2,rfl,rfl,cZ.move (g2.held H1) (fun _ _ h=>h) t m.ag k1,k2,fun b o h1 h2=>hap yC b o h1 (.inr h2),fun _ _ h=>.inl h,fun _ _ h=>.inr h⟩
  ·rintro b o ((hf | hf) | (hf | hf))
   ·exact dS b o (.inl hf)
   ·obtain ⟨id,hl,qp⟩:=eK b o (.inl hf);exact⟨id,(g1.live hl).1,qp⟩
   ·exact dS b o (.inr hf)
   ·obtain ⟨id,hl,qp⟩:=eK b o (.inr hf);exact⟨id,(g1.live hl).1,qp⟩
end
end
end Go.LM
namespace Go.LM
section
variable{P:Program}{Q:Exit→Act→World→Prop}
variable{w0:World}{F0 Z0:ah}{n:cD}{s aq:an}{a b_:Act}{w w':World}{ι bf:Nat→bG}{Z Z':ah}
theorem BN{t:ad}{x:a6}{v:Value}(hf:oc t x=true)(hv:aQ w Z s ι x v):v=dH t v.cells.toList:=by
 cases t <;> cases x <;> simp only [oc] at hf <;> try (simp at hf;done)
 all_goals simp only [aQ] at hv
 all_goals first
  | (rw [HQ hv.ee];rfl)
  | (subst hv;rfl)
  | (obtain ⟨vs,rfl,_⟩:=hv;simp [dH,Value.cells])
theorem PQ(h:Inv w0 F0 Z0 n s a w ι Z){k:Nat}{p:Place}{cs:List a8}{A:Addr}(hr:l_ s k p=some cs)(au:jm s ι p A) :
  ∃b o vs,A=at_ b o∧bK w Z s ι cs vs∧b8 w b o vs∧vs.length=k∧(s.o p.id).live∧∀j,j<k→(ι p.id).F b (o+j):=by
 obtain ⟨b,o,vs,rfl,h1,h2,h3⟩:=yl h hr au
 refine⟨b,o,vs,rfl,h1,h2,h3,?_⟩
 obtain ⟨hs,au⟩:=au
 unfold l_ at hr
 cases ho:s.o p.id with
 | var ver old =>
  rw [ho] at hr au
  obtain ⟨he,a0,hb,hA⟩:=au
  rw [he] at hr
  obtain ⟨hle,rfl⟩:=pe hr
  have c2:=h.fS p.id
  rw [ho] at c2
  obtain ⟨vY,bI,dG,hsp,hc,b4,hF⟩:=c2
  rw [hb] at dG
  obtain rfl:=aT dG
  simp only [at_,Addr.mk.injEq,and_true] at hA
  obtain ⟨rfl,rfl⟩:=hA
  refine⟨trivial,fun j hj=>?_⟩
  have:=(hF (p.off+j) (by omega)).2
  rwa [← Nat.add_assoc] at this
 | row t em ver xs =>
  rw [ho] at hr au
  obtain ⟨i,he,hi,a0,hb,hA⟩:=au
  rw [he] at hr
  obtain ⟨hle,rfl⟩:=pe hr
  have c2:=h.fS p.id
  rw [ho] at c2
  obtain ⟨vY,bI,dG,hsp,hc,b4,hl⟩:=OK h ho hi
  rcases c2 with⟨rfl,_⟩ | ⟨a1,hb1,hrow⟩
  ·simp at hi
  rw [hb] at hb1
  obtain rfl:=aT hb1
  simp only [at_,Addr.mk.injEq,and_true] at hA
  obtain ⟨rfl,rfl⟩:=hA
  refine⟨trivial,fun j hj=>?_⟩
  have hcl:=hc.len
  have HI:(i+1)*t.size≤(ι p.id).cap*t.size:=Nat.mul_le_mul_right _ (by have:=hrow.cap;omega)
  rw [Nat.add_one_mul] at HI
  have:=hrow.inF (i*t.size+p.off+j) (by omega)
  rwa [show a0.off +(i*t.size+p.off+j)=a0.off+i*t.size+p.off+j by omega] at this
 | none=>rw [ho] at hr;simp at hr
 | dead=>rw [ho] at hr;simp at hr
 | ch=>rw [ho] at hr;simp at hr
def BO(w0:World)(F0 Z0:ah)(n:cD)(s:an)(a:Act)(w:World)(ι : Nat→bG)(Z:ah)(key:Nat)(bl:List (Nat×Nat))(ps:List bC)(vs:List a6)(us:List Value)(q:(bC.ins ps).D×an×List (Nat×Nat)):Prop :=
 ∃F H cq,Inv w0 F0 Z0 n q.2.1 a w ι cq∧fy s ι Z q.2.1 cq∧gw w (cq.or (dg ι q.2.2)) key ps q.1 us F∧eX true w cq q.2.1 ι ps vs us H∧bJ w0 F0 q.2.1 w ι cq F∧bJ w0 F0 q.2.1 w ι cq H∧ah.apart F H ∧
  (∃nb,q.2.2=nb++bl)∧(∀d,d∈q.2.2→et q.2.1 d)∧∀b o,F b o∨H b o→∃id,(s.o id).live∧(ι id).F b o
theorem Ip(h:fy s ι Z aq Z'){d:Nat×Nat}(ag:et s d):et aq d:=(h.ej (w:=default)).turns.dep ag
theorem wy{key:Nat}{sp:bC}{ps:List bC}{v:a6}{vs:List a6}{u:Value}{us:List Value}{bl Iq nb:List (Nat×Nat)}{s1:an}{cq F1 H1:ah}{q:(bC.ins ps).D×an×List (Nat×Nat)}{x:(bC.ins (sp :: ps)).D}
  (g1:fy s ι Z s1 cq) (f1:bJ w0 F0 s1 w ι cq F1) (h1:bJ w0 F0 s1 w ι cq H1) (a1:ah.apart F1 H1) (src:∀b o,F1 b o∨H1 b o→∃id,(s.o id).live∧(ι id).F b o) (mq:Iq=nb++bl)
  (hr:BO w0 F0 Z0 n s1 a w ι cq key Iq ps vs us q)
  (hA:∀(bL dK:ah),ah.sub (cq.or (dg ι Iq)) bL→gw w bL key ps q.1 us dK→ah.apart F1 dK→gw w bL key (sp :: ps) x (u :: us) (F1.or dK))
  (BL:∀(s2:an) (bL H2:ah),fy s1 ι cq s2 bL→eX true w bL s2 ι ps vs us H2→ah.apart H1 H2→eX true w bL s2 ι (sp :: ps) (v :: vs) (u :: us) (H1.or H2)) :
  BO w0 F0 Z0 n s a w ι Z key bl (sp :: ps) (v :: vs) (u :: us) (x,q.2):=by
 obtain ⟨dK,H2,bL,i2,g2,cg,k2,f2,h2,a2,⟨HG,mb⟩,d2,s2⟩:=hr
 have hap:∀ {X:ah},bJ w0 F0 s1 w ι cq X→∀b o,X b o→(dK b o∨H2 b o)→False:=by
  intro X hX b o hx hh
  obtain ⟨id,hl,hf⟩:=s2 b o hh
  exact hX.apart id hl b o hx hf
 refine⟨F1.or dK,H1.or H2,bL,i2,g1.trans g2,hA _ _ ?_ cg (fun b o h1 h2=>hap f1 b o h1 (.inl h2)),BL _ _ _ g2 k2 (fun b o x y=>hap h1 b o x (.inr y)),(f1.tE g2).or f2,(h1.tE g2).or h2,?_,⟨HG++nb,by show q.2.2=_;rw [mb,mq,List.append_assoc]⟩,d2,?_⟩
 ·rintro b o (hz | hz)
  ·exact .inl (g2.dF b o hz)
  ·show bL b o∨dg ι q.2.2 b o
   rw [mb];exact .inr (HC _ _ _ b o hz)
 ·rintro b o (hf | hf) (hh | hh)
  ·exact a1 b o hf hh
  ·exact hap f1 b o hf (.inr hh)
  ·exact hap h1 b o hh (.inl hf)
  ·exact a2 b o hf hh
 ·rintro b o ((hf | hf) | (hf | hf))
  ·exact src b o (.inl hf)
  ·obtain ⟨id,hl,qp⟩:=s2 b o (.inl hf);exact⟨id,(g1.live hl).1,qp⟩
  ·exact src b o (.inr hf)
  ·obtain ⟨id,hl,qp⟩:=s2 b o (.inr hf);exact⟨id,(g1.live hl).1,qp⟩
theorem Ir{sp:bC}{ps:List bC}{v:a6}{vs:List a6}{u:Value}{us:List Value}{H fV:ah}(hsp:(∃t m,sp=.val t m)∨(∃t,sp=.ref t)∨(∃a b,sp=.fn a b)∨∃t,sp=.hD t)(cE:ah.sub H fV)
  (h:eX true w Z s ι ps vs us H) (hz:gH true w Z s ι w Z s ι H):eX true w Z s ι (sp :: ps) (v :: vs) (u :: us) fV:=by
 have:=eX.move hz cE ps h
 rcases hsp with⟨t,m,rfl⟩ | ⟨t,rfl⟩ | ⟨a,b,rfl⟩ | ⟨t,rfl⟩ <;> exact⟨v,vs,u,us,rfl,rfl,this⟩
theorem Is:∀ {x:List a6} {us:List Value},aY w Z s ι x us→us.length=x.length
 | [],_,h=>by simp only [aY] at h;rw [h];rfl
 | _ :: _,_,h=>by
  simp only [aY] at h
  obtain ⟨u,aU,rfl,_,h2⟩:=h
  simp [Is h2]
theorem qq{key:Nat} : ∀(ps:List bC) (vs:List a6) (us:List Value) (s:an) (Z:ah) (bl:List (Nat×Nat)) (q:(bC.ins ps).D×an×List (Nat×Nat)),gb key s ps vs bl=some q→Inv w0 F0 Z0 n s a w ι Z →
  aY w Z s ι vs us→(∀d,d∈bl→et s d)→BO w0 F0 Z0 n s a w ι Z key bl ps vs us q
 | [],vs,us,s,Z,bl,q,hm,h,hv,hb=>by
  cases vs with
  | cons=>simp [gb] at hm
  | nil =>
   simp only [gb,Option.some.injEq] at hm
   subst hm
   simp only [aY] at hv
   exact⟨ah.none,ah.none,Z,h,.refl,hv,trivial,.none,.none,fun _ _ h=>h.elim,⟨[],rfl⟩,hb,fun _ _ h=>h.elim (fun h=>h.elim) fun h=>h.elim⟩
 | .fn l9 o_ :: ps,vs,us,s,Z,bl,q,hm,h,hv,hb=>by
  cases vs with
  | nil=>simp [gb] at hm
  | cons v vs =>
   cases v <;> simp only [gb] at hm <;> try (simp at hm;done)
   rename_i g Zj Ie
   cases aB:(Nat.beq g key&&Nat.beq Zj.length l9&&Nat.beq Ie.length o_)
   ·rw [aB] at hm;cases hm
   rw [aB] at hm
   simp only [Bool.and_eq_true] at aB
   obtain ⟨⟨aB,PR⟩,BP⟩:=aB
   have aB:=Nat.eq_of_beq_eq_true aB
   have PR:=Nat.eq_of_beq_eq_true PR
   have BP:=Nat.eq_of_beq_eq_true BP
   subst aB
   simp only [aY,aQ] at hv
   obtain ⟨u,aU,rfl,⟨x,y,hx,Zk,Pp⟩,fb⟩:=hv
   have alb:=Is Zk
   have alc:=Is Pp
   obtain ⟨F,H,cq,i1,g1,bD,k1,f1,h1,a1,fU,d1,s1⟩:=qq ps vs aU s Z bl q hm h fb hb
   exact⟨F,H,cq,i1,g1,⟨_,_,aU,by rw [hx],⟨by simp;omega,by simp;omega⟩,bD⟩,⟨_,_,_,_,rfl,rfl,k1⟩,f1,h1,a1,fU,d1,s1⟩
 | .val t m :: ps,vs,us,s,Z,bl,q,hm,h,hv,hb=>by
  cases vs with
  | nil=>simp [gb] at hm
  | cons v vs =>
   simp only [gb] at hm
   cases hf:oc t v
   ·rw [hf] at hm;simp at hm
   rw [hf] at hm
   simp only [cond_true] at hm
   cases hcs:iQ t v with
   | none=>rw [hcs] at hm;simp at hm
   | some cs =>
    rw [hcs] at hm
    simp only at hm
    obtain ⟨r,hr,hm⟩:=bg hm
    cases ep:r.2.1 with
    | cons=>rw [ep] at hm;simp at hm
    | nil =>
     rw [ep] at hm
     simp only at hm
     obtain ⟨p,au,hm⟩:=bg hm
     obtain rfl:=aT hm
     simp only [aY] at hv
     obtain ⟨u,aU,rfl,hu,fb⟩:=hv
     obtain ⟨us1,vs1,F1,cq,e1,i1,s1,c1,f1,bD,⟨nb,fU⟩,_,d1,g1⟩:=ad.lF t true m cs s bl r _ Z hr h (rE hcs hu) hb
     rw [ep] at c1
     have hvs1:vs1=[]:=by cases vs1 with | nil=>rfl | cons=>exact c1.elim
     subst hvs1
     rw [List.append_nil] at e1
     have hw:=BN hf hu
     rw [e1] at hw
     have nv:=qq ps vs aU r.2.2.1 cq r.2.2.2 p au i1 (aY.move s1.ej fb) d1
     refine wy s1.mn f1 .none (fun _ _ _ h=>h) (fun b o hf=>hf.elim (g1 b o) fun h=>h.elim) fU nv ?_ ?_
     ·intro bL dK hZ hA hap
      exact⟨us1,aU,F1,dK,by rw [← hw],ad.al.mono hZ _ _ (fun _ _ h=>h) bD,hA,hap,fun _ _ h=>.inl h,fun _ _ h=>.inr h⟩
     ·intro s2 bL H2 aB hk k0
      exact Ir (.inl ⟨_,_,rfl⟩) (fun _ _ h=>.inr h) hk (fy.refl.held H2)
 | .hD t :: ps,vs,us,s,Z,bl,q,hm,h,hv,hb=>by
  cases vs with
  | nil=>simp [gb] at hm
  | cons v vs =>
   simp only [gb] at hm
   cases hf:oc t v
   ·rw [hf] at hm;simp at hm
   rw [hf] at hm
   simp only [cond_true] at hm
   cases hcs:iQ t v with
   | none=>rw [hcs] at hm;simp at hm
   | some cs =>
    rw [hcs] at hm
    simp only at hm
    obtain ⟨r,hr,hm⟩:=bg hm
    cases ep:r.2.1 with
    | cons=>rw [ep] at hm;simp at hm
    | nil =>
     rw [ep] at hm
     simp only at hm
     obtain ⟨p,au,hm⟩:=bg hm
     obtain rfl:=aT hm
     simp only [aY] at hv
     obtain ⟨u,aU,rfl,hu,fb⟩:=hv
     obtain ⟨us1,vs1,F1,cq,e1,i1,s1,c1,f1,bD,⟨nb,fU⟩,_,d1,g1⟩:=ad.lF t false .R cs s bl r _ Z hr h (rE hcs hu) hb
     rw [ep] at c1
     have hvs1:vs1=[]:=by cases vs1 with | nil=>rfl | cons=>exact c1.elim
     subst hvs1
     rw [List.append_nil] at e1
     have hw:=BN hf hu
     rw [e1] at hw
     have nv:=qq ps vs aU r.2.2.1 cq r.2.2.2 p au i1 (aY.move s1.ej fb) d1
     refine wy s1.mn f1 .none (fun _ _ _ h=>h) (fun b o hf=>hf.elim (g1 b o) fun h=>h.elim) fU nv ?_ ?_
     ·intro bL dK hZ hA hap
      exact⟨us1,aU,F1,dK,by rw [← hw],ad.al.mono hZ _ _ (fun _ _ h=>h) bD,hA,hap,fun _ _ h=>.inl h,fun _ _ h=>.inr h⟩
     ·intro s2 bL H2 aB hk k0
      exact Ir (.inr (.inr (.inr ⟨_,rfl⟩))) (fun _ _ h=>.inr h) hk (fy.refl.held H2)
 | .hC t m :: ps,vs,us,s,Z,bl,q,hm,h,hv,hb=>by
  cases vs with
  | nil=>simp [gb] at hm
  | cons v vs =>
   simp only [gb] at hm
   cases hf:(oc t v&&a'.beq m t.own)
   ·rw [hf] at hm;simp at hm
   rw [hf] at hm
   simp only [cond_true] at hm
   simp only [Bool.and_eq_true] at hf
   obtain ⟨hf,ox⟩:=hf
   have ox:=a'.eq_of_beq _ _ ox
   cases hcs:iQ t v with
   | none=>rw [hcs] at hm;simp at hm
   | some cs =>
    rw [hcs] at hm
    simp only at hm
    obtain ⟨r,hr,hm⟩:=bg hm
    cases ep:r.2.1 with
    | cons=>rw [ep] at hm;simp at hm
    | nil =>
     rw [ep] at hm
     simp only at hm
     obtain ⟨p,au,hm⟩:=bg hm
     obtain rfl:=aT hm
     simp only [aY] at hv
     obtain ⟨u,aU,rfl,hu,fb⟩:=hv
     obtain ⟨c1,us1,vs1,F1,H1,e0,e1,i1,g1,c8,f1,yC,a1,bD,k1,dS⟩:=ad.yB t m cs s r _ hr h (rE hcs hu)
     rw [ep] at c8 e0
     have hvs1:vs1=[]:=by cases vs1 with | nil=>rfl | cons=>exact c8.elim
     subst hvs1
     rw [List.append_nil] at e1 e0
     subst e0
     have hw:=BN hf hu
     have nv:=qq ps vs aU r.2.2 Z bl p au i1 (aY.move g1.ej fb) (fun d ag=>Ip g1 (hb d ag))
     refine wy (nb:=[]) g1 f1 yC a1 dS rfl nv ?_ ?_
     ·intro bL dK hZ hA hap
      exact⟨us1,aU,F1,dK,by rw [← e1,← hw],ad.al.mono (fun b o hz=>hZ b o (.inl hz)) _ _ (fun _ _ h=>h) bD,hA,hap,fun _ _ h=>.inl h,fun _ _ h=>.inr h⟩
     ·intro s2 bL H2 aB hk k0
      refine⟨v,vs,u,aU,cs,H1,H2,rfl,rfl,hcs,ox,?_,hk,k0,fun _ _ h=>.inl h,fun _ _ h=>.inr h⟩
      rw [e1]
      exact cZ.move (aB.held H1) (fun _ _ h=>h) t m k1
 | .ref t :: ps,vs,us,s,Z,bl,q,hm,h,hv,hb=>by
  cases vs with
  | nil=>simp [gb] at hm
  | cons v vs =>
   simp only [aY] at hv
   obtain ⟨u,aU,rfl,hu,fb⟩:=hv
   have go:∀(cs:List a8) (nc:List (Nat×Nat)) (b o:Nat) (ws:List Value),bK w Z s ι cs ws→b8 w b o ws→ws.length=t.size→u=.pointer (some (at_ b o))→(∃nb,nc=nb++bl)→(∀d,d∈nc→et s d) →
     (∀j,j<t.size→Z.or (dg ι nc) b (o+j)) →
     ((t.imp true .R cs s nc).bind fun r=>match r.2.1 with | []=>(gb key r.2.2.1 ps vs r.2.2.2).bind fun q=>some ((r.1,q.1),q.2) | _=>none)=some q→BO w0 F0 Z0 n s a w ι Z key bl (.ref t :: ps) (v :: vs) (u :: aU) q:=by
    intro cs nc b o ws pj b4 tt jo ⟨Zl,Zm⟩ Zn hin hm
    obtain ⟨r,hr,hm⟩:=bg hm
    cases ep:r.2.1 with
    | cons=>rw [ep] at hm;simp at hm
    | nil =>
     rw [ep] at hm
     simp only at hm
     obtain ⟨p,au,hm⟩:=bg hm
     obtain rfl:=aT hm
     obtain ⟨us1,vs1,F1,cq,e1,i1,s1,c1,f1,bD,⟨nb,fU⟩,_,d1,g1⟩:=ad.lF t true .R cs s nc r _ Z hr h pj Zn
     rw [ep] at c1
     have hvs1:vs1=[]:=by cases vs1 with | nil=>rfl | cons=>exact c1.elim
     subst hvs1
     rw [List.append_nil] at e1
     subst e1
     have nv:=qq ps vs aU r.2.2.1 cq r.2.2.2 p au i1 (aY.move s1.ej fb) d1
     refine wy (nb:=nb++Zl) s1.mn .none .none (fun _ _ h=>h.elim) (fun b o hf=>hf.elim (fun h=>h.elim) fun h=>h.elim) (by rw [fU,Zm,List.append_assoc]) nv ?_ ?_
     ·intro bL dK hZ hA hap
      refine⟨b,o,ws,aU,by rw [jo],b4,ad.al.mono hZ _ _ (fun _ _ h=>h) (rr bD),fun j hj=>hZ _ _ ?_,gw.mono (fun _ _ h=>h) ps (fun _ _ h=>.inr h) hA⟩
      rcases hin j hj with hz | hz
      ·exact .inl (s1.dF _ _ hz)
      ·rw [fU];exact .inr (HC _ _ _ _ _ hz)
     ·intro s2 bL H2 aB hk k0
      exact Ir (.inr (.inl ⟨_,rfl⟩)) (fun _ _ h=>.inr h) hk (fy.refl.held H2)
   cases v <;> simp only [gb] at hm <;> try (simp at hm;done)
   ·rename_i p
    cases hr:l_ s t.size p with
    | none=>rw [hr] at hm;simp at hm
    | some cs =>
     rw [hr] at hm
     simp only [aQ] at hu
     obtain ⟨hk,A,hu,au⟩:=hu
     obtain ⟨b,o,ws,rfl,h1,h2,h3,h4,a7⟩:=PQ h hr au
     refine go cs ((p.id,ks s p.id) :: bl) b o ws h1 h2 h3 hu ⟨[_],rfl⟩ ?_ (fun j hj=>.inr ⟨_,List.mem_cons_self,a7 j hj⟩) hm
     intro d ag
     rcases List.mem_cons.1 ag with rfl | ag
     ·exact⟨hk,.inr (Nat.le_refl _)⟩
     ·exact hb d ag
   ·rename_i dp cs off
    cases ht:takeN off t.size cs with
    | none=>rw [ht] at hm;simp at hm
    | some ds =>
     rw [ht] at hm
     simp only at hm
     cases dU:alive s dp
     ·rw [dU] at hm;simp at hm
     rw [dU] at hm
     simp only [cond_true] at hm
     obtain ⟨hle,rfl⟩:=pe ht
     simp only [aQ] at hu
     obtain ⟨ag,b,o,ws,hu,hx⟩:=hu
     obtain ⟨h1,h2,h3⟩:=hx dU
     have hl:=h1.len
     refine go _ (dp++bl) b (o+off) ((ws.drop off).take t.size) ((h1.drop off).take _) (h2.part off _) (by simp;omega) hu ⟨dp,rfl⟩ ?_ ?_ hm
     ·intro d h8
      rcases List.mem_append.1 h8 with h | h
      ·exact ag d h
      ·exact hb d h
     ·intro j hj
      have:=h3 (off+j) (by omega)
      rw [← Nat.add_assoc] at this
      rcases this with hz | ⟨d,ag,hf⟩
      ·exact .inl hz
      ·exact .inr ⟨d,List.mem_append.2 (.inl ag),hf⟩
 | .mut t m m' :: ps,vs,us,s,Z,bl,q,hm,h,hv,hb=>by
  cases vs with
  | nil=>simp [gb] at hm
  | cons v vs =>
   simp only [aY] at hv
   obtain ⟨u,aU,rfl,hu,fb⟩:=hv
   cases v <;> simp only [gb] at hm <;> try (simp at hm;done)
   rename_i p
   simp only [aQ] at hu
   obtain ⟨hk,A,hu,au⟩:=hu
   obtain ⟨ald,au⟩:=au
   cases ho:s.o p.id with
   | none=>rw [ho] at hm;simp at hm
   | dead=>rw [ho] at hm;simp at hm
   | ch=>rw [ho] at hm;simp at hm
   | var ver old =>
    rw [ho] at hm au
    obtain ⟨he,a0,eC,hA⟩:=au
    rw [he] at hm
    simp only at hm
    cases ht:takeN p.off t.size old with
    | none=>rw [ht] at hm;simp at hm
    | some cs =>
     rw [ht] at hm
     simp only at hm
     obtain ⟨hle,rfl⟩:=pe ht
     obtain ⟨r,hr,hm⟩:=bg hm
     cases ep:r.2.1 with
     | cons=>rw [ep] at hm;simp at hm
     | nil =>
      rw [ep] at hm
      simp only at hm
      obtain ⟨It,hq,hm⟩:=bg hm
      obtain rfl:=aT hm
      have cc:(s.o p.id).live:=by rw [ho];trivial
      have aB:fy s ι Z (s.bQ p.id (.ch (.var ver old))) Z:=by have:=yy (s:=s) (ι := ι) (Z:=Z) cc;rw [ho] at this;exact this
      have fi:bJ w0 F0 (s.bQ p.id (.ch (.var ver old))) w ι Z (ι p.id).F:=by have:=h.yz cc;rw [ho] at this;exact this
      have c2:=h.fS p.id
      rw [ho] at c2
      obtain ⟨⟨b,o,sp⟩,ws,dG,hsp,hc,b4,hF⟩:=c2
      simp only at hsp
      subst hsp
      rw [eC] at dG
      obtain rfl:=aT dG
      have hl:=hc.len
      have mo:(s.bQ p.id (.ch (.var ver old))).o p.id=.ch (.var ver old):=cw _ _ _
      have PS:=hc.move aB.ej
      obtain ⟨us1,vs1,F1,cq,e1,i1,s1,c1,f1,bD,⟨nb,fU⟩,_,d1,g1⟩:=ad.lF t true m _ _ bl r _ Z hr (h.mn aB) ((PS.drop p.off).take t.size) (fun d ag=>Ip aB (hb d ag))
      rw [ep] at c1
      have hvs1:vs1=[]:=by cases vs1 with | nil=>rfl | cons=>exact c1.elim
      subst hvs1
      rw [List.append_nil] at e1
      have nv:=qq ps vs aU r.2.2.1 cq r.2.2.2 It hq i1 (aY.move s1.ej (aY.move aB.ej fb)) d1
      have yj:=aB.trans s1.mn
      have hrun:ah.sub (ah.run b (o+p.off) t.size) (ι p.id).F:=by
       rintro b' o' ⟨rfl,h1,h2⟩
       have:=(hF (o'-o) (by omega)).2
       simp only at this
       rwa [show o +(o'-o)=o' by omega] at this
      have PT:=fi.shrink s1
      have PU:ah.apart F1 (ι p.id).F:=by
       intro b o h1 h2
       obtain ⟨id,hl,hf⟩:=g1 b o h1
       exact fi.apart id hl b o h2 hf
      refine wy (F1:=F1.or (ah.run b (o+p.off) t.size)) (H1:=ah.diff (ι p.id).F (ah.run b (o+p.off) t.size)) yj (f1.or (PT.sub hrun)) (PT.sub fun _ _ h=>h.1) ?_ ?_ fU nv ?_ ?_
      ·rintro b o (hf | hf) hh
       ·exact PU b o hf hh.1
       ·exact hh.2 hf
      ·rintro b' o' ((hf | hf) | hh)
       ·obtain ⟨id,hl,qp⟩:=g1 b' o' hf;exact⟨id,(aB.live hl).1,qp⟩
       ·exact⟨p.id,cc,hrun b' o' hf⟩
       ·exact⟨p.id,cc,hh.1⟩
      ·intro bL dK hZ pv hap
       refine⟨b,o+p.off,us1,aU,F1,dK,by rw [hu,hA],?_,?_,ad.al.mono hZ _ _ (fun _ _ h=>h) bD,pv,hap,fun b o h1 h2=>PU b o h1 (hrun b o h2),fun _ _ h=>.inl h,fun _ _ h=>.inr h⟩
       ·rw [← e1];exact b4.part p.off t.size
       ·intro j hj
        have:=(hF (p.off+j) (by omega)).1
        rwa [← Nat.add_assoc] at this
      ·intro s2 bL H2 Iu hkk k0
       refine⟨p,vs,u,aU,_,H2,rfl,rfl,.inl ?_,hkk,k0,fun _ _ h=>.inl h,fun _ _ h=>.inr h⟩
       refine wq.move ((s1.mn.trans Iu).held (ah.diff (ι p.id).F (ah.run b (o+p.off) t.size))) (fun _ _ h=>h) ?_
       refine⟨ver,old,b,o,ws,fun _=>by rw [mo];exact fun h=>h,fun eB bX=>by rw [mo] at bX;exact⟨(cm.ch.inj bX).symm,eC⟩,he,by rw [hu,hA],hle,PS,fun j hj=>(hF j hj).1,fun j hj hh=>⟨(hF j hj).2,?_⟩,fun j v hv hh=>b4 j v hv⟩
       rintro ⟨_,h1,h2⟩
       omega
   | row gI em ver xs =>
    rw [ho] at hm au
    obtain ⟨i,he,hi,a0,eC,hA⟩:=au
    rw [he] at hm
    simp only at hm
    cases BQ:(Nat.beq p.off 0&&a'.beq em m&&a'.beq m' em&&a'.beq m t.own)
    ·rw [BQ] at hm;simp at hm
    rw [BQ] at hm
    simp only [Bool.and_eq_true] at BQ
    obtain ⟨⟨⟨hc1,hc2⟩,yD⟩,Iv⟩:=BQ
    have Iv:=a'.eq_of_beq _ _ Iv
    have hc1:=Nat.eq_of_beq_eq_true hc1
    have hc2:=a'.eq_of_beq _ _ hc2
    have yD:=a'.eq_of_beq _ _ yD
    subst hc2
    subst yD
    simp only [cond_true] at hm
    obtain ⟨x,hx,hm⟩:=bg hm
    obtain ⟨e1,rfl⟩:=Bd hx
    subst e1
    obtain ⟨It,hq,hm⟩:=bg hm
    obtain rfl:=aT hm
    have cc:(s.o p.id).live:=by rw [ho];trivial
    have aB:fy s ι Z (s.bQ p.id (.ch (.row gI m' ver xs))) Z:=by have:=yy (s:=s) (ι := ι) (Z:=Z) cc;rw [ho] at this;exact this
    have fi:bJ w0 F0 (s.bQ p.id (.ch (.row gI m' ver xs))) w ι Z (ι p.id).F:=by have:=h.yz cc;rw [ho] at this;exact this
    have c2:=h.fS p.id
    rw [ho] at c2
    rcases c2 with⟨rfl,_⟩ | ⟨⟨b,o,sp⟩,dG,hrow⟩
    ·simp at hi
    have hsp:=hrow.spot
    simp only at hsp
    subst hsp
    rw [eC] at dG
    obtain rfl:=aT dG
    obtain ⟨G,g1,g2,g3⟩:=hrow.row
    obtain ⟨G1,i_,G2,ws,k1,k2,k3,ba,bt,dh,dj,eo,gG,gj,c3⟩:=g1.BG i hi
    have mo:(s.bQ p.id (.ch (.row gI m' ver xs))).o p.id=.ch (.row gI m' ver xs):=cw _ _ _
    have hcap:(i+1)*gI.size≤(ι p.id).cap*gI.size:=Nat.mul_le_mul_right _ (by have:=hrow.cap;omega)
    rw [Nat.add_one_mul] at hcap
    have hrun:ah.sub (ah.run b (o+i*gI.size) gI.size) (ι p.id).F:=by
     rintro b' o' ⟨rfl,h1,h2⟩
     have:=hrow.inF (o'-o) (by omega)
     simp only at this
     rwa [show o +(o'-o)=o' by omega] at this
    have BR:∀ {X:ah},ah.sub X G→∀j,j<(ι p.id).cap*gI.size→¬X b (o+j):=fun hX j hj hh=>g2 j hj (hX _ _ hh)
    have rO:∀ {X:ah},ah.sub X G→ah.apart X (ah.run b (o+i*gI.size) gI.size):=by
     rintro X hX b' o' hx ⟨rfl,h1,h2⟩
     have:=BR hX (o'-o) (by omega)
     rw [show o +(o'-o)=o' by omega] at this
     exact this hx
    have nv:=qq ps vs aU _ Z bl It hq (h.mn aB) (aY.move aB.ej fb) (fun d ag=>Ip aB (hb d ag))
    have PV:ah.sub (i_.or (ah.run b (o+i*gI.size) gI.size)) (ι p.id).F:=fun b o h=>h.elim (fun h=>g3 b o (gj b o h)) (hrun b o)
    have jo:u=.pointer (some (at_ b (o+i*gI.size))):=by rw [hu,hA,hc1];rfl
    refine wy (nb:=[]) (F1:=i_.or (ah.run b (o+i*gI.size) gI.size)) (H1:=ah.diff (ι p.id).F (i_.or (ah.run b (o+i*gI.size) gI.size))) aB (fi.sub PV) (fi.sub fun _ _ h=>h.1) (fun b o h1 h2=>h2.2 h1) ?_ rfl nv ?_ ?_
    ·rintro b' o' (hf | hf)
     ·exact⟨p.id,cc,PV b' o' hf⟩
     ·exact⟨p.id,cc,hf.1⟩
    ·intro bL dK hZ pv hap
     refine⟨b,o+i*gI.size,ws,aU,i_,dK,by rw [jo],ba,fun j hj=>?_,?_,pv,hap,rO gj,fun _ _ h=>.inl h,fun _ _ h=>.inr h⟩
     ·have:=(hrow.wr (i*gI.size+j) (by omega)).1
      rwa [← Nat.add_assoc] at this
     ·rw [c6 hi]
      exact ad.al.mono (fun b o hz=>hZ b o (.inl hz)) _ _ (fun _ _ h=>h) k2
    ·intro s2 bL H2 Iu hkk k0
     refine⟨p,vs,u,aU,_,H2,rfl,rfl,.inr ⟨rfl,Iv,?_⟩,hkk,k0,fun _ _ h=>.inl h,fun _ _ h=>.inr h⟩
     refine wu.move (Iu.held (ah.diff (ι p.id).F (i_.or (ah.run b (o+i*gI.size) gI.size)))) (fun _ _ h=>h) ?_
     refine⟨ver,xs,i,b,o,_,G1,G2,fun _=>by rw [mo];exact fun h=>h,fun eB bX=>by rw [mo] at bX;exact⟨(cm.ch.inj bX).symm,eC,rfl⟩,he,hi,jo,hrow.cap,hrow.wr,fun j hj hh=>⟨hrow.inF j hj,?_⟩,k1,bt,dj,fun b o aB=>⟨g3 b o (gG b o aB),?_⟩,fun b o aB=>⟨g3 b o (c3 b o aB),?_⟩,fun j hj=>⟨BR gG j hj,BR c3 j hj⟩⟩
     ·rintro (Zo | ⟨_,h1,h2⟩)
      ·exact BR gj j hj Zo
      ·rw [Nat.add_one_mul] at hh;omega
     ·rintro (hh | hh)
      ·exact dh b o aB hh
      ·exact rO gG b o aB hh
     ·rintro (hh | hh)
      ·exact eo b o hh aB
      ·exact rO c3 b o aB hh
end
end Go.LM
namespace Go.LM
section
variable{P:Program}{Q:Exit→Act→World→Prop}
variable{g:Bool}{w0:World}{F0 Z0:ah}{n:cD}{s aq:an}{a b_:Act}{w w' b6:World}{ι bf eA:Nat→bG}{Z Z' bL:ah}
theorem gH.trans{s2:an}{H:ah}(h:gH g w Z s ι w' Z' aq bf H)(k:gH g w' Z' aq bf b6 bL s2 eA H):gH g w Z s ι b6 bL s2 eA H:=by
 refine⟨fun x v hx=>k.aA x v (h.aA x v hx),fun c v hc=>k.cell c v (h.cell c v hc),fun b o hz=>k.dF b o (h.dF b o hz),fun id o' hn ho=>?_,fun aB id hn=>k.nl aB id (h.nl aB id hn),h.same.trans k.same,h.BI.trans ?_,fun b o hw=>k.wr b o (h.wr b o hw),fun z b o hw=>k.yA z b o (h.yA z b o hw)⟩
 ·obtain ⟨h1,h2⟩:=k.ch id o' (fun aB=>h.nl aB id (hn aB)) ho
  obtain ⟨h3,h4⟩:=h.ch id o' hn h1
  exact⟨h3,h2.trans h4⟩
 ·exact k.BI.mono h.dF
theorem Inv.Zp(h:Inv w0 F0 Z0 n s a w ι Z){id:Nat}{o:cm}{i:bG}(hnl:¬(s.o id).live)(ht:iV (s.o id) (ι id) o i)
  (cN:eI w Z s ι w Z (s.bQ id o) (bU ι id i)→h7 w Z (s.bQ id o) (bU ι id i) i o) (hF:bJ w0 F0 s w ι Z i.F) :
  Inv w0 F0 Z0 n (s.bQ id o) a w (bU ι id i) Z∧eI w Z s ι w Z (s.bQ id o) (bU ι id i):=by
 have hm:eI w Z s ι w Z (s.bQ id o) (bU ι id i):=by
  refine⟨fun j=>?_,fun _ _ h=>h,b9.refl _ _⟩
  show iV (s.o j) (ι j) (bU s.o id o j) (bU ι id i j)
  by_cases hj:id=j
  ·subst hj;rw [cw,cw];exact ht
  ·rw [cS hj,cS hj];exact .stay _ _
 refine⟨?_,hm⟩
 refine h.next hm (Ext.refl _ ah.none) (fun _ _ h=>h.elim) (fun _ _ h=>.inl h) ?_ ?_ (fun k=>(h.tmps k).move hm) h.size h.defers
 ·intro j hl hne
  by_cases hj:id=j
  ·subst hj
   rw [cw]
   refine⟨by show h7 _ _ _ _ _ (bU s.o id o id);rw [cw];exact cN hm,hF.own,fun kU gf jI=>?_⟩
   rw [cS jI]
   have dR:(s.o kU).live:=by
    have:(bU s.o id _ kU).live:=gf
    rwa [cS jI] at this
   exact hF.apart kU dR
  ·exact absurd ⟨cS hj,cS hj⟩ hne
 ·intro j hl
  by_cases hj:id=j
  ·subst hj;rw [cw];exact hF.c5
  ·rw [cS hj]
   have dR:(s.o j).live:=by
    have:(bU s.o id _ j).live:=hl
    rwa [cS hj] at this
   exact h.c5 j dR
def oy(w0:World)(F0 Z0:ah)(n:cD)(s:an)(a:Act)(w:World)(ι : Nat→bG)(Z:ah)(aq:an)(eM:ah):Prop :=
 ∃ bf,Inv w0 F0 Z0 n aq a w bf Z∧gH false w Z s ι w Z aq bf (fun _ _=>True)∧(∀X,bJ w0 F0 s w ι Z X→ah.apart X eM→bJ w0 F0 aq w bf Z X)∧∀id,(s.o id).live→aq.o id=s.o id ∧ bf id = ι id
theorem tH(h:Inv w0 F0 Z0 n s a w ι Z)(eM:ah):oy w0 F0 Z0 n s a w ι Z s eM :=
 ⟨ι,h,⟨fun _ _ h=>h,fun _ _ h=>h,fun _ _ h=>h,fun _ _ _ h=>⟨h,rfl⟩,fun h=>by simp at h,b9.refl _ _,b9.refl _ _,fun _ _ h=>h,fun _ _ _ h=>h⟩,fun _ h _=>h,fun _ _=>⟨rfl,rfl⟩⟩
theorem Iw(h:Inv w0 F0 Z0 n s a w ι Z){id:Nat}{o:cm}{i:bG}(hnl:¬(s.o id).live)(ho:∀o',o≠.ch o')(ht:iV (s.o id) (ι id) o i)
  (cN:eI w Z s ι w Z (s.bQ id o) (bU ι id i)→h7 w Z (s.bQ id o) (bU ι id i) i o) (hF:bJ w0 F0 s w ι Z i.F) :
  Inv w0 F0 Z0 n (s.bQ id o) a w (bU ι id i) Z∧gH false w Z s ι w Z (s.bQ id o) (bU ι id i) (fun _ _=>True)∧(∀X,bJ w0 F0 s w ι Z X→ah.apart X i.F→bJ w0 F0 (s.bQ id o) w (bU ι id i) Z X) ∧
  ∀j,(s.o j).live→(s.bQ id o).o j=s.o j∧bU ι id i j = ι j:=by
 obtain ⟨h1,hm⟩:=h.Zp hnl ht cN hF
 refine⟨h1,⟨fun _ _=>aQ.move hm,fun _ _=>cj.move hm,fun _ _ h=>h,fun j o' _ hj=>?_,fun h=>by simp at h,b9.refl _ _,b9.refl _ _,fun _ _ h=>h,fun _ _ _ h=>h⟩,fun X hX ha=>⟨hX.own,fun j hl=>?_,hX.c5⟩,fun j hl=>?_⟩
 ·have hj':bU s.o id o j=.ch o':=hj
  by_cases hne:id=j
  ·subst hne;rw [cw] at hj';exact absurd hj' (ho o')
  ·rw [cS hne] at hj'
   exact⟨hj',cS hne⟩
 ·by_cases hne:id=j
  ·subst hne;rw [cw];exact ha
  ·rw [cS hne]
   have dR:(s.o j).live:=by
    have:(bU s.o id _ j).live:=hl
    rwa [cS hne] at this
   exact hX.apart j dR
 ·have hne:id≠j:=fun e=>hnl (e ▸ hl)
  exact⟨cS hne,cS hne⟩
theorem yE(h:Inv w0 F0 Z0 n s a w ι Z){id:Nat}{o:cm}{i:bG}(hnl:¬(s.o id).live)(ho:∀o',o≠.ch o')(ht:iV (s.o id) (ι id) o i)
  (cN:eI w Z s ι w Z (s.bQ id o) (bU ι id i)→h7 w Z (s.bQ id o) (bU ι id i) i o) (hF:bJ w0 F0 s w ι Z i.F):oy w0 F0 Z0 n s a w ι Z (s.bQ id o) i.F:=⟨_,Iw h hnl ho ht cN hF⟩
mutual
theorem cZ.len:∀(t:ad) (m:a') {cs:List a8} {vs:List Value} {H:ah},cZ g w Z s ι t m cs vs H→vs.length=t.size
 | .int _,_,_,_,_,hk=>by simp only [cZ] at hk;rw [hk.2];rfl
 | .bool,_,_,_,_,hk=>by simp only [cZ] at hk;rw [hk.2];rfl
 | .str,_,_,_,_,hk=>by simp only [cZ] at hk;rw [hk.2];rfl
 | .raw,_,_,_,_,hk=>by simp only [cZ] at hk;rw [hk.2];rfl
 | .sl t,.R,_,_,_,hk=>by simp only [cZ] at hk
 | .sl t,.S _,_,_,_,hk=>by simp only [cZ] at hk
 | .sl t,.O e,_,_,_,hk=>by simp only [cZ] at hk;obtain ⟨c,v,_,rfl,_⟩:=hk;rfl
 | .st aj,m,_,_,_,hk=>by simp only [cZ] at hk;simpa only [ad.size] using fE.len aj m.parts hk
theorem fE.len:∀(aj:ay) (m:cU) {cs:List a8} {vs:List Value} {H:ah},fE g w Z s ι aj m cs vs H→vs.length=aj.size
 | .nil,_,_,_,_,hk=>by simp only [fE] at hk;rw [hk.2];rfl
 | .cons t aj,m,_,_,_,hk=>by
  simp only [fE] at hk
  obtain ⟨c1,gC,v1,v2,H1,H2,_,rfl,h1,h2,_⟩:=hk
  rw [List.length_append,cZ.len t m.ag h1,fE.len aj m.dx h2];rfl
end
mutual
theorem ad.yF:∀(t:ad) (m:a') (x:t.D) (c1 rest:List a8) (s:an) (ι : Nat→bG) (r:List a8×an) (us:List Value) (F H:ah),t.back x (c1++rest) s=some r→Inv w0 F0 Z0 n s a w ι Z →
  cZ false w Z s ι t m c1 us H→t.al w Z m x us F→bJ w0 F0 s w ι Z F→bJ w0 F0 s w ι Z H→ah.apart F H→r.1=rest∧oy w0 F0 Z0 n s a w ι Z r.2 (F.or H)
 | .int k,m,x,c1,rest,s,ι,r,us,F,H,hb,h,hk,hr,hF,cE,ha=>by
  simp only [cZ] at hk
  obtain ⟨hk,_⟩:=hk
  match c1,hk with
  | [c],_ =>
   simp only [ad.back,List.cons_append,List.nil_append,Option.some.injEq] at hb
   subst hb;exact⟨rfl,tH h _⟩
 | .bool,m,x,c1,rest,s,ι,r,us,F,H,hb,h,hk,hr,hF,cE,ha=>by
  simp only [cZ] at hk
  obtain ⟨hk,_⟩:=hk
  match c1,hk with
  | [c],_ =>
   simp only [ad.back,List.cons_append,List.nil_append,Option.some.injEq] at hb
   subst hb;exact⟨rfl,tH h _⟩
 | .str,m,x,c1,rest,s,ι,r,us,F,H,hb,h,hk,hr,hF,cE,ha=>by
  simp only [cZ] at hk
  obtain ⟨hk,_⟩:=hk
  match c1,hk with
  | [c],_ =>
   simp only [ad.back,List.cons_append,List.nil_append,Option.some.injEq] at hb
   subst hb;exact⟨rfl,tH h _⟩
 | .raw,m,x,c1,rest,s,ι,r,us,F,H,hb,h,hk,hr,hF,cE,ha=>by
  simp only [cZ] at hk
  obtain ⟨hk,_⟩:=hk
  match c1,hk with
  | [c],_ =>
   simp only [ad.back,List.cons_append,List.nil_append,Option.some.injEq] at hb
   subst hb;exact⟨rfl,tH h _⟩
 | .sl t,.R,x,c1,rest,s,ι,r,us,F,H,hb,h,hk,hr,hF,cE,ha=>by
  simp only [cZ] at hk
 | .sl t,.S _,x,c1,rest,s,ι,r,us,F,H,hb,h,hk,hr,hF,cE,ha=>by
  simp only [cZ] at hk
 | .sl t,.O e,x,c1,rest,s,ι,r,us,F,H,hb,h,hk,hr,hF,cE,ha=>by
  simp only [cZ] at hk
  obtain ⟨c,v,rfl,rfl,hk⟩:=hk
  cases c with
  | nil u =>
   simp only [ad.back,List.cons_append,List.nil_append,Option.some.injEq] at hb
   subst hb;exact⟨rfl,tH h _⟩
  | ag id sub =>
   cases sub with
   | some=>exact hk.elim
   | none =>
    simp only at hk
    obtain ⟨ver,xs,A,k,rL,_,hl,hv,hk⟩:=hk
    simp only [ad.back,List.cons_append,List.nil_append] at hb
    cases ho:s.o id with
    | ch eB =>
     rw [ho] at hb
     obtain ⟨rfl,hcap,hh⟩:=hl eB ho
     simp only at hb
     obtain ⟨y,aN,hb2⟩:=bg hb
     obtain ⟨e1,tI⟩:=gR aN
     have tI:x=y:=tI.symm
     subst tI
     obtain rfl:=aT hb2
     refine⟨rfl,?_⟩
     simp only [ad.al] at hr
     obtain ⟨pk,k',lE,hr⟩:=hr
     rw [hv] at lE
     simp only [List.cons.injEq,Value.slice.injEq,and_true] at lE
     obtain ⟨rfl,hlen,rfl⟩:=lE
     have lQ:=yE h (id:=id) (o:=.row t e (ver+1) x) (i:=⟨(ι id).base,(ι id).cap,F.or H⟩) (by rw [ho];exact fun h=>h) (fun o'=>by simp) (by rw [ho];exact .ry _ _ _ _ _ _ _ _ _ (by omega) hlen.symm rfl rfl) ?_ (hF.or cE)
     ·exact lQ
     intro hm
     rcases hk with⟨rfl,pw⟩ | ⟨b,o,eC,Ix,Zh,hA,hwr,hJ⟩
     ·left
      refine⟨List.eq_nil_of_length_eq_zero (by rw [← hlen];rfl),?_⟩
      show(ι id).cap=0
      rw [hcap,pw]
     ·right
      refine⟨at_ b o,eC _ ho,?_⟩
      rcases hr with⟨rfl,rfl⟩ | ⟨⟨b',o',sp⟩,pv,hr⟩
      ·refine⟨rfl,Nat.zero_le _,?_,?_,ah.none,trivial,fun _ _ h=>h,fun _ _ h=>h.elim⟩
       ·show ∀j,j<(ι id).cap*t.size→_
        rw [hcap];exact hwr
       ·show ∀j,j<(ι id).cap*t.size→_
        rw [hcap];exact fun j hj=>.inr (hJ j (by omega) hj)
      ·have hx0:=hr.cap
       by_cases hk0:k=0
       ·subst hk0
        have:x=[]:=List.eq_nil_of_length_eq_zero (by omega)
        subst this
        refine⟨rfl,Nat.zero_le _,?_,?_,ah.none,trivial,fun _ _ h=>h,fun _ _ h=>h.elim⟩
        ·show ∀j,j<(ι id).cap*t.size→_
         rw [hcap];exact hwr
        ·show ∀j,j<(ι id).cap*t.size→_
         rw [hcap];exact fun j hj=>.inr (hJ j (by omega) hj)
       ·have hA:=hA.resolve_left hk0
        rw [pv] at hA
        simp only [at_,Option.some.injEq,Addr.mk.injEq] at hA
        obtain ⟨rfl,rfl,rfl⟩:=hA
        obtain ⟨G,g1,g2,g3⟩:=hr.row
        refine⟨rfl,?_,?_,?_,G,g1,?_,fun b o aB=>.inl (g3 b o aB)⟩
        ·show x.length≤(ι id).cap
         rw [hcap,← hlen];exact Ix
        ·show ∀j,j<(ι id).cap*t.size→_
         rw [hcap];exact hwr
        ·show ∀j,j<(ι id).cap*t.size→_
         rw [hcap]
         intro j hj
         by_cases lR:j<k*t.size
         ·exact .inl (hr.inF j lR)
         ·exact .inr (hJ j (by omega) hj)
        ·show ∀j,j<(ι id).cap*t.size→_
         rw [hcap]
         intro j hj aB
         by_cases lR:j<k*t.size
         ·exact g2 j lR aB
         ·exact ha _ _ (g3 _ _ aB) (hJ j (by omega) hj)
    | _=>rw [ho] at hb;simp at hb
  | b1 u dp cr xs =>
   simp only at hk
   obtain ⟨p,i,T,ver,ys,b,o,rL,rfl,e8,_,hl,kZ,rfl,Zq⟩:=hk
   simp only [ad.back,List.cons_append,List.nil_append] at hb
   obtain ⟨s1,lL,hb2⟩:=bg hb
   obtain rfl:=aT hb2
   simp only [vL,e8] at lL
   cases ho:s.o p.id with
   | ch eB =>
    rw [ho] at lL
    obtain ⟨rfl,eC,hcap⟩:=hl eB ho
    simp only at lL
    obtain ⟨z,hz,lL⟩:=bg lL
    obtain rfl:=aT lL
    refine⟨rfl,?_⟩
    exact yE h (id:=p.id) (o:=.row T T.own (ver+1) (ys.set i z)) (i:=⟨(ι p.id).base,(ι p.id).cap,F.or H⟩) (by rw [ho];exact fun h=>h) (fun o'=>by simp) (by rw [ho];exact .ry _ _ _ _ _ _ _ _ _ (by omega) (by simp) rfl rfl)
     (fun hm=>.inr ⟨at_ b o,eC,by
      have:=Zq w Z F x z (b9.refl _ _) hr ha hz
      rw [← hcap] at this
      exact this⟩) (hF.or cE)
   | _=>rw [ho] at lL;simp at lL
  | _=>exact hk.elim
 | .st aj,m,x,c1,rest,s,ι,r,us,F,H,hb,h,hk,hr,hF,cE,ha=>by
  simp only [ad.back] at hb
  simp only [cZ] at hk
  simp only [ad.al] at hr
  exact ay.yF aj m.parts x c1 rest s ι r us F H hb h hk hr hF cE ha
theorem ay.yF:∀(aj:ay) (m:cU) (x:aj.D) (c1 rest:List a8) (s:an) (ι : Nat→bG) (r:List a8×an) (us:List Value) (F H:ah),aj.back x (c1++rest) s=some r→Inv w0 F0 Z0 n s a w ι Z →
  fE false w Z s ι aj m c1 us H→aj.al w Z m x us F→bJ w0 F0 s w ι Z F→bJ w0 F0 s w ι Z H→ah.apart F H→r.1=rest∧oy w0 F0 Z0 n s a w ι Z r.2 (F.or H)
 | .nil,m,x,c1,rest,s,ι,r,us,F,H,hb,h,hk,hr,hF,cE,ha=>by
  simp only [fE] at hk
  obtain ⟨rfl,rfl⟩:=hk
  simp only [ay.back,List.nil_append,Option.some.injEq] at hb
  subst hb
  exact⟨rfl,tH h _⟩
 | .cons t aj,m,x,c1,rest,s,ι,r,us,F,H,hb,h,hk,hr,hF,cE,ha=>by
  simp only [fE] at hk
  obtain ⟨d1,d2,v1,v2,H1,H2,rfl,rfl,k1,k2,k0,i',hJ⟩:=hk
  simp only [ay.al] at hr
  obtain ⟨us1,us2,G1,G2,he,bD,cg,px,fe,gU⟩:=hr
  have hlen:v1.length=us1.length:=by rw [cZ.len t m.ag k1,(ad.al.len t m.ag bD).1]
  obtain ⟨rfl,rfl⟩:=List.append_inj he hlen
  simp only [ay.back,List.append_assoc] at hb
  obtain ⟨q,hq,hb⟩:=bg hb
  obtain ⟨e1,dz,i1,rP,fF,yG⟩:=ad.yF t m.ag x.1 d1 (d2++rest) s ι q v1 G1 H1 hq h k1 bD (hF.sub fe) (cE.sub i') (fun b o h1 h2=>ha b o (fe b o h1) (i' b o h2))
  rw [e1] at hb
  obtain ⟨e2,eA,i2,nw,mr,nx⟩:=ay.yF aj m.dx x.2 d2 rest q.2 dz r v2 G2 H2 hb i1 (fE.move (rP.mono fun _ _ _=>trivial) (fun _ _ h=>h) aj m.dx k2) cg
   (fF G2 (hF.sub gU) (by rintro b o h1 (h2 | h2);exact px b o h2 h1;exact ha b o (gU b o h1) (i' b o h2)))
   (fF H2 (cE.sub hJ) (by rintro b o h1 (h2 | h2);exact ha b o (fe b o h2) (hJ b o h1);exact k0 b o h2 h1))
   (fun b o h1 h2=>ha b o (gU b o h1) (hJ b o h2))
  refine⟨e2,eA,i2,rP.trans nw,fun X hX fG=>mr X (fF X hX ?_) ?_,fun id hl=>?_⟩
  ·rintro b o h1 (h2 | h2)
   ·exact fG b o h1 (.inl (fe b o h2))
   ·exact fG b o h1 (.inr (i' b o h2))
  ·rintro b o h1 (h2 | h2)
   ·exact fG b o h1 (.inl (gU b o h2))
   ·exact fG b o h1 (.inr (hJ b o h2))
  ·obtain ⟨ek,fp⟩:=yG id hl
   obtain ⟨gg,jJ⟩:=nx id (ek ▸ hl)
   exact⟨gg.trans ek,jJ.trans fp⟩
end
end
end Go.LM
namespace Go.LM
section
variable{P:Program}{Q:Exit→Act→World→Prop}
variable{g:Bool}{w0:World}{F0 Z0:ah}{n:cD}{s aq:an}{a b_:Act}{w w' b6:World}{ι bf eA:Nat→bG}{Z Z' bL:ah}
theorem lG.held(h:lG s ι aq bf)(H:ah):gH false w Z s ι w Z aq bf H:=by
 have hm:eI w Z s ι w Z aq bf:=h.ej
 refine⟨fun _ _=>aQ.move hm,fun _ _=>cj.move hm,fun _ _ h=>h,fun id o' _ ho=>?_,fun h=>by simp at h,b9.refl _ _,b9.refl _ _,fun _ _ h=>h,fun _ _ _ h=>h⟩
 by_cases hn:s.o id=.none
 ·exact absurd ho (h.nl id o' hn)
 ·obtain ⟨h1,h2⟩:=h.o id hn
  exact⟨by rw [← h1,ho],h2⟩
theorem yH{dp:List (Nat×Nat)}(hl:∀d,d∈dp→(s.o d.1).live)(hk:∀id,(s.o id).live→aq.o id=s.o id ∧ bf id = ι id):(∀d,d∈dp→(aq.o d.1).live)∧dg bf dp=dg ι dp:=by
 refine⟨fun d ag=>by rw [(hk d.1 (hl d ag)).1];exact hl d ag,?_⟩
 funext b o
 apply propext
 constructor
 ·rintro ⟨d,ag,hf⟩;exact⟨d,ag,by rw [← (hk d.1 (hl d ag)).2];exact hf⟩
 ·rintro ⟨d,ag,hf⟩;exact⟨d,ag,by rw [(hk d.1 (hl d ag)).2];exact hf⟩
theorem lG.keeps(h:lG s ι aq bf):∀id,(s.o id).live→aq.o id=s.o id ∧ bf id = ι id:=fun id hl=>h.o id (fun e=>by rw [e] at hl;exact hl)
theorem bJ.dg{F:ah}{dp:List (Nat×Nat)}(hF:bJ w0 F0 s w ι Z F)(hl:∀d,d∈dp→(s.o d.1).live):ah.apart F (LM.dg ι dp):=by
 rintro b o h ⟨d,ag,hf⟩
 exact hF.apart d.1 (hl d ag) b o h hf
theorem oy.trans{s1 s2:an}{dz:Nat→bG}{PW PX eM:ah}(h1:Inv w0 F0 Z0 n s1 a w dz Z)(hh:gH false w Z s ι w Z s1 dz (fun _ _=>True))(hf:∀X,bJ w0 F0 s w ι Z X→ah.apart X PW→bJ w0 F0 s1 w dz Z X)
  (hl:∀id,(s.o id).live→s1.o id=s.o id ∧ dz id = ι id) (k:oy w0 F0 Z0 n s1 a w dz Z s2 PX) (gJ:ah.sub (PW.or PX) eM):oy w0 F0 Z0 n s a w ι Z s2 eM:=by
 obtain ⟨eA,i2,nw,mr,nx⟩:=k
 refine⟨eA,i2,hh.trans nw,fun X hX fG=>mr X (hf X hX fun b o x y=>fG b o x (gJ b o (.inl y))) fun b o x y=>fG b o x (gJ b o (.inr y)),fun id b2=>?_⟩
 obtain ⟨ek,fp⟩:=hl id b2
 obtain ⟨gg,jJ⟩:=nx id (ek ▸ b2)
 exact⟨gg.trans ek,jJ.trans fp⟩
theorem iq.mono(hZ:ah.sub Z Z'):∀(ps:List bC) {us:List Value} {x:(bC.dZ ps).D} {F F':ah},ah.sub F F'→iq w Z ps us x F→iq w Z' ps us x F'
 | [],_,_,_,_,_,_=>trivial
 | .mut t m m' :: ps,_,_,_,_,hF,⟨b,o,vs,aU,G,H,h1,h2,h3,h4,a7,bh,bH,cG⟩=>⟨b,o,vs,aU,G,H,h1,h2,ad.al.mono hZ _ _ (fun _ _ h=>h) h3,iq.mono hZ ps (fun _ _ h=>h) h4,a7,bh,fun b o h=>hF b o (bH b o h),fun b o h=>hF b o (cG b o h)⟩
 | .hC t m :: ps,_,_,_,_,hF,⟨vs,aU,G,H,h1,h2,h3,h4,a7,bh⟩=>⟨vs,aU,G,H,h1,ad.al.mono hZ _ _ (fun _ _ h=>h) h2,iq.mono hZ ps (fun _ _ h=>h) h3,h4,fun b o h=>hF b o (a7 b o h),fun b o h=>hF b o (bh b o h)⟩
 | .val _ _ :: ps,_,_,_,_,hF,⟨u,aU,h1,h2⟩=>⟨u,aU,h1,iq.mono hZ ps hF h2⟩
 | .hD _ :: ps,_,_,_,_,hF,⟨u,aU,h1,h2⟩=>⟨u,aU,h1,iq.mono hZ ps hF h2⟩
 | .ref _ :: ps,_,_,_,_,hF,⟨u,aU,h1,h2⟩=>⟨u,aU,h1,iq.mono hZ ps hF h2⟩
 | .fn _ _ :: ps,_,_,_,_,hF,⟨u,aU,h1,h2⟩=>⟨u,aU,h1,iq.mono hZ ps hF h2⟩
theorem rQ{dp:List (Nat×Nat)} : ∀(ps:List bC) (vs:List a6) (us:List Value) (x:(bC.dZ ps).D) (s:an) (ι : Nat→bG) (j:Nat) (q:an×Nat) (F H:ah),ma dp ps vs x s j=some q→Inv w0 F0 Z0 n s a w ι Z →
  eX false w Z s ι ps vs us H→iq w (Z.or (dg ι dp)) ps us x F→bJ w0 F0 s w ι Z F→bJ w0 F0 s w ι Z H→ah.apart F H→(∀d,d∈dp→(s.o d.1).live∧et s d)→oy w0 F0 Z0 n s a w ι Z q.1 (F.or H)
 | [],vs,us,x,s,ι,j,q,F,H,hu,h,hk,hr,hF,cE,ha,ag=>by
  simp only [ma,Option.some.injEq] at hu
  subst hu
  exact tH h _
 | .val t m :: ps,vs,us,x,s,ι,j,q,F,H,hu,h,hk,hr,hF,cE,ha,ag=>by
  obtain ⟨v,bI,u,aU,rfl,rfl,hk⟩:=hk
  obtain ⟨ib,us2,he,hr⟩:=hr
  simp only [List.cons.injEq] at he
  obtain ⟨rfl,rfl⟩:=he
  exact rQ ps bI aU x s ι j q F H (by simpa only [ma] using hu) h hk hr hF cE ha ag
 | .hD t :: ps,vs,us,x,s,ι,j,q,F,H,hu,h,hk,hr,hF,cE,ha,ag=>by
  obtain ⟨v,bI,u,aU,rfl,rfl,hk⟩:=hk
  obtain ⟨ib,us2,he,hr⟩:=hr
  simp only [List.cons.injEq] at he
  obtain ⟨rfl,rfl⟩:=he
  exact rQ ps bI aU x s ι j q F H (by simpa only [ma] using hu) h hk hr hF cE ha ag
 | .ref t :: ps,vs,us,x,s,ι,j,q,F,H,hu,h,hk,hr,hF,cE,ha,ag=>by
  obtain ⟨v,bI,u,aU,rfl,rfl,hk⟩:=hk
  obtain ⟨ib,us2,he,hr⟩:=hr
  simp only [List.cons.injEq] at he
  obtain ⟨rfl,rfl⟩:=he
  exact rQ ps bI aU x s ι j q F H (by simpa only [ma] using hu) h hk hr hF cE ha ag
 | .fn _ _ :: ps,vs,us,x,s,ι,j,q,F,H,hu,h,hk,hr,hF,cE,ha,ag=>by
  obtain ⟨v,bI,u,aU,rfl,rfl,hk⟩:=hk
  obtain ⟨ib,us2,he,hr⟩:=hr
  simp only [List.cons.injEq] at he
  obtain ⟨rfl,rfl⟩:=he
  exact rQ ps bI aU x s ι j q F H (by simpa only [ma] using hu) h hk hr hF cE ha ag
 | .hC t m :: ps,vs,us,x,s,ι,j,q,F,H,hu,h,hk,hr,hF,cE,ha,ag=>by
  obtain ⟨v,bI,u,aU,cs,H1,H2,rfl,rfl,hcs,rfl,k1,k2,k0,i',hJ⟩:=hk
  obtain ⟨ws,us2,G1,G2,he,bD,cg,px,fe,gU⟩:=hr
  simp only [List.cons.injEq] at he
  obtain ⟨rfl,rfl⟩:=he
  simp only [ma,hcs] at hu
  obtain ⟨r,hb,hu⟩:=bg hu
  have hl:=ad.al.len t _ bD
  rw [HS hl.1 hl.2] at k1
  have Iy:t.al w Z t.own x.1 ws G1:=tp t bD
  obtain ⟨e1,dz,i1,rP,fF,yG⟩:=ad.yF t t.own x.1 cs [] s ι r ws G1 H1 (by rw [List.append_nil];exact hb) h k1 Iy (hF.sub fe) (cE.sub i') (fun b o x y=>ha b o (fe b o x) (i' b o y))
  have hdl:=yH (dp:=dp) (fun d hm=>(ag d hm).1) yG
  have yI:=rQ ps bI aU x.2 r.2 dz j q G2 H2 hu i1 (eX.move (rP.mono fun _ _ _=>trivial) (fun _ _ h=>h) ps k2) (by rw [hdl.2];exact cg)
   (fF G2 (hF.sub gU) (by rintro b o x (y | y);exact px b o y x;exact ha b o (gU b o x) (i' b o y)))
   (fF H2 (cE.sub hJ) (by rintro b o x (y | y);exact ha b o (fe b o y) (hJ b o x);exact k0 b o y x))
   (fun b o x y=>ha b o (gU b o x) (hJ b o y)) (fun d hm=>⟨hdl.1 d hm,by have:=(ag d hm).2;unfold et known ks at *;rw [(yG d.1 (ag d hm).1).1];exact this⟩)
  refine oy.trans i1 rP fF yG yI ?_
  rintro b o ((y | y) | (y | y))
  ·exact .inl (fe b o y)
  ·exact .inr (i' b o y)
  ·exact .inl (gU b o y)
  ·exact .inr (hJ b o y)
 | .mut t m m' :: ps,vs,us,x,s,ι,j,q,F,H,hu,h,hk,hr,hF,cE,ha,ag=>by
  obtain ⟨p,bI,u,aU,H1,H2,rfl,rfl,k1,k2,k0,i',hJ⟩:=hk
  obtain ⟨b,o,ws,us2,G,fV,he,b4,bD,cg,px,rO,fe,gU⟩:=hr
  simp only [List.cons.injEq] at he
  obtain ⟨rfl,rfl⟩:=he
  have hGF:ah.sub G F:=fun b o x=>fe b o (.inl x)
  have Zr:ah.sub (ah.run b o t.size) F:=fun b o x=>fe b o (.inr x)
  have tt:=ad.al.len t _ bD
  simp only [ma] at hu
  cases ho:s.o p.id with
  | ch eB =>
   rw [ho] at hu
   cases e8:p.fa with
   | none =>
    rw [e8] at hu
    cases eB with
    | var ver old =>
     simp only at hu
     obtain ⟨r,hx,hu⟩:=bg hu
     rcases k1 with k1 | ⟨_,_,_,_,_,_,_,_,_,_,_,_,hk2,_⟩
     case inr=>rw [e8] at hk2;simp at hk2
     obtain ⟨nj,ale,b',o',BS,_,hl,_,jo,hle,PY,hwr,BT,hcell⟩:=k1
     obtain ⟨bX,eC⟩:=hl _ ho
     simp only [cm.var.injEq] at bX
     obtain ⟨rfl,rfl⟩:=bX
     simp only [Value.pointer.injEq,Option.some.injEq,at_,Addr.mk.injEq,and_true] at jo
     obtain ⟨rfl,rfl⟩:=jo
     obtain ⟨dz,i1,ja,c1,fF⟩:=ad.oj t m' dp x.1 s ι j r ws G hx h bD (hF.sub hGF) ((hF.sub hGF).dg fun d hm=>(ag d hm).1) (fun d hm=>(ag d hm).2)
     obtain ⟨hs1,Zs⟩:=ja.o p.id (by rw [ho];simp)
     have hcl:=c1.len
     have hol:=PY.len
     have alf:=tt.1
     have PZ:=ja.keeps
     have Iz:bJ w0 F0 r.2.1 w dz Z ((ah.run b (o'+p.off) t.size).or H1):=(fF _ (hF.sub Zr) (fun b o x y=>rO b o y x)).or (fF _ (cE.sub i') (fun b o x y=>ha b o (hGF b o y) (i' b o x)))
     have lQ:=yE i1 (id:=p.id) (o:=.var (ver+1) (old.take p.off++r.1++old.drop (p.off+t.size))) (i:=⟨(dz p.id).base,(dz p.id).cap,(ah.run b (o'+p.off) t.size).or H1⟩)
      (by rw [hs1,ho];exact fun h=>h) (fun o'=>by simp) (by rw [hs1,ho];exact .yi _ _ _ _ _ _ (by omega) rfl) (fun hm=>by
       refine⟨at_ b o',db BS p.off ws,by rw [Zs];exact eC,rfl,?_,?_,?_⟩
       ·have Zt:bK w Z r.2.1 dz old BS:=PY.move ja.ej
        have:=(bK.db Zt c1 p.off).move hm
        rwa [show p.off+r.1.length=p.off+t.size by omega] at this
       ·intro i v hv
        unfold db at hv
        show w.cell? (at_ b (o'+i))=some v
        by_cases h1:i<p.off
        ·rw [List.append_assoc,List.getElem?_append_left (by simp;omega),List.getElem?_take,if_pos h1] at hv
         exact hcell i v hv (.inl h1)
        ·by_cases h2:i<p.off+t.size
         ·rw [List.getElem?_append_left (by simp;omega),List.getElem?_append_right (by simp;omega)] at hv
          simp only [List.length_take] at hv
          have:=b4 _ v hv
          rwa [show o'+p.off +(i-min p.off BS.length)=o'+i by omega] at this
         ·rw [List.getElem?_append_right (by simp;omega)] at hv
          simp only [List.length_append,List.length_take,List.getElem?_drop] at hv
          rw [show p.off+ws.length +(i-(min p.off BS.length+ws.length))=i by omega] at hv
          exact hcell i v hv (.inr (by omega))
       ·intro i hi
        have c_:i<old.length:=by simp only [List.length_append,List.length_take,List.length_drop] at hi;omega
        refine⟨hwr i c_,?_⟩
        show(ah.run b (o'+p.off) t.size).or H1 b (o'+i)
        by_cases hh:i<p.off∨p.off+t.size≤i
        ·exact .inr (BT i c_ hh)
        ·exact .inl ⟨rfl,by omega,by omega⟩) Iz
     obtain ⟨eA,i2,nw,mr,nx⟩:=lQ
     have IA:∀id,(s.o id).live→(r.2.1.bQ p.id (.var (ver+1) (old.take p.off++r.1++old.drop (p.off+t.size)))).o id=s.o id ∧ eA id = ι id:=fun id b2=>by
      obtain ⟨ek,fp⟩:=PZ id b2
      obtain ⟨gg,jJ⟩:=nx id (ek ▸ b2)
      exact⟨gg.trans ek,jJ.trans fp⟩
     have wz:gH false w Z s ι w Z (r.2.1.bQ p.id (.var (ver+1) (old.take p.off++r.1++old.drop (p.off+t.size)))) eA (fun _ _=>True):=(ja.held _).trans nw
     have j4:∀X,bJ w0 F0 s w ι Z X→ah.apart X ((G.or (ah.run b (o'+p.off) t.size)).or H1)→bJ w0 F0 (r.2.1.bQ p.id (.var (ver+1) (old.take p.off++r.1++old.drop (p.off+t.size)))) w eA Z X:=fun X hX fG=>by
      refine mr X (fF X hX fun b o x y=>fG b o x (.inl (.inl y))) ?_
      rintro b o x (y | y)
      ·exact fG b o x (.inl (.inr y))
      ·exact fG b o x (.inr y)
     have hdl:=yH (dp:=dp) (fun d hm=>(ag d hm).1) IA
     have yI:=rQ ps bI aU x.2 _ eA r.2.2 q fV H2 hu i2 (eX.move (wz.mono fun _ _ _=>trivial) (fun _ _ h=>h) ps k2) (by rw [hdl.2];exact cg)
      (j4 fV (hF.sub gU) (by rintro b o x (y | y);exact px b o y x;exact ha b o (gU b o x) (i' b o y)))
      (j4 H2 (cE.sub hJ) (by rintro b o x (y | y);exact ha b o (fe b o y) (hJ b o x);exact k0 b o y x))
      (fun b o x y=>ha b o (gU b o x) (hJ b o y)) (fun d hm=>⟨hdl.1 d hm,by have:=(ag d hm).2;unfold et known ks at *;rw [(IA d.1 (ag d hm).1).1];exact this⟩)
     refine oy.trans i2 wz j4 IA yI ?_
     rintro b o ((y | y) | (y | y))
     ·exact .inl (fe b o y)
     ·exact .inr (i' b o y)
     ·exact .inl (gU b o y)
     ·exact .inr (hJ b o y)
    | _=>simp at hu
   | some i =>
    rw [e8] at hu
    cases eB with
    | row gI em ver xs =>
     simp only at hu
     obtain ⟨y,aN,hu⟩:=bg hu
     obtain ⟨e1,tI⟩:=Bd aN
     subst e1
     have tI:x.1=y:=tI.symm
     subst tI
     rcases k1 with⟨_,_,_,_,_,_,_,hk2,_⟩ | ⟨mh,ox,k1⟩
     ·rw [e8] at hk2;simp at hk2
     obtain ⟨nj,fT,ea,b',o',c,G1,G2,_,hl,P0,hi,jo,Ix,hwr,BT,Zu,Zv,Zw,P1,P2,P3⟩:=k1
     obtain ⟨bX,eC,hcap⟩:=hl _ ho
     simp only [cm.row.injEq,heq_eq_eq,true_and] at bX
     obtain ⟨rfl,rfl,rfl⟩:=bX
     rw [e8] at P0
     obtain rfl:=aT P0
     simp only [Value.pointer.injEq,Option.some.injEq,at_,Addr.mk.injEq,and_true] at jo
     obtain ⟨rfl,rfl⟩:=jo
     subst mh
     have Iy:t.al w Z m' x.1 ws G:=by rw [ox] at bD ⊢;exact tp t bD
     have hcs:(i+1)*t.size≤c*t.size:=Nat.mul_le_mul_right _ (by omega)
     rw [Nat.add_one_mul] at hcs
     have Iz:bJ w0 F0 s w ι Z ((G.or (ah.run b (o'+i*t.size) t.size)).or H1):=(hF.sub fe).or (cE.sub i')
     have lQ:=yE h (id:=p.id) (o:=.row t m' (ver+1) (xs.set i x.1)) (i:=⟨(ι p.id).base,(ι p.id).cap,(G.or (ah.run b (o'+i*t.size) t.size)).or H1⟩)
      (by rw [ho];exact fun h=>h) (fun o'=>by simp) (by rw [ho];exact .ry _ _ _ _ _ _ _ _ _ (by omega) (by simp) rfl rfl) (fun hm=>by
       right
       refine⟨at_ b o',eC,rfl,?_,?_,?_,?_⟩
       ·show(xs.set i x.1).length≤(ι p.id).cap
        rw [List.length_set,hcap];exact Ix
       ·show ∀j,j<(ι p.id).cap*t.size→_
        rw [hcap];exact hwr
       ·show ∀j,j<(ι p.id).cap*t.size→_
        rw [hcap]
        intro j hj
        show((G.or (ah.run b (o'+i*t.size) t.size)).or H1) b (o'+j)
        by_cases hh:j<i*t.size∨(i+1)*t.size≤j
        ·exact .inr (BT j hj hh)
        ·rw [Nat.add_one_mul] at hh
         exact .inl (.inr ⟨rfl,by omega,by omega⟩)
       ·refine⟨G1.or (G.or G2),Row.BH i hi Zu Iy tt.1 b4 Zv (fun b o x y=>ha b o (hGF b o y) (i' b o (P1 b o x))) Zw (fun b o x y=>ha b o (hGF b o x) (i' b o (P2 b o y))),?_,?_⟩
        ·show ∀j,j<(ι p.id).cap*t.size→_
         rw [hcap]
         rintro j hj (aB | aB | aB)
         ·exact(P3 j hj).1 aB
         ·by_cases hh:j<i*t.size∨(i+1)*t.size≤j
          ·exact ha _ _ (hGF _ _ aB) (i' _ _ (BT j hj hh))
          ·rw [Nat.add_one_mul] at hh
           exact rO _ _ aB ⟨rfl,by show o'+i*t.size≤o'+j;omega,by show o'+j<_;omega⟩
         ·exact(P3 j hj).2 aB
        ·rintro b o (aB | aB | aB)
         ·exact .inr (P1 b o aB)
         ·exact .inl (.inl aB)
         ·exact .inr (P2 b o aB)) Iz
     obtain ⟨eA,i2,nw,mr,nx⟩:=lQ
     have hdl:=yH (dp:=dp) (fun d hm=>(ag d hm).1) nx
     have yI:=rQ ps bI aU x.2 _ eA j q fV H2 hu i2 (eX.move (nw.mono fun _ _ _=>trivial) (fun _ _ h=>h) ps k2) (by rw [hdl.2];exact cg)
      (mr fV (hF.sub gU) (by rintro b o x (y | y);exact px b o y x;exact ha b o (gU b o x) (i' b o y)))
      (mr H2 (cE.sub hJ) (by rintro b o x (y | y);exact ha b o (fe b o y) (hJ b o x);exact k0 b o y x))
      (fun b o x y=>ha b o (gU b o x) (hJ b o y)) (fun d hm=>⟨hdl.1 d hm,by have:=(ag d hm).2;unfold et known ks at *;rw [(nx d.1 (ag d hm).1).1];exact this⟩)
     refine oy.trans i2 nw mr nx yI ?_
     rintro b o ((y | y) | (y | y))
     ·exact .inl (fe b o y)
     ·exact .inr (i' b o y)
     ·exact .inl (gU b o y)
     ·exact .inr (hJ b o y)
    | _=>simp at hu
  | _=>rw [ho] at hu;simp at hu
end
end Go.LM
namespace Go.LM
section
variable{P:Program}{Q:Exit→Act→World→Prop}
variable{g:Bool}{w0:World}{F0 Z0:ah}{n:cD}{s aq:an}{a b_:Act}{w w' b6:World}{ι bf eA:Nat→bG}{Z Z' bL:ah}
variable{E:Env}{o:Oper}{bs : Type}{K:an→Option bs}{r : bs}{id:Nat}
theorem BU:∀ {dp:List (Nat×Nat)},alive s dp=true→∀d,d∈dp→(s.o d.1).live
 | [],_,d,ag=>by simp at ag
 | (i,v) :: dp,h,d,ag=>by
  unfold alive at h
  rcases List.mem_cons.1 ag with rfl | ag
  ·cases ho:s.o i with
   | row=>trivial
   | var=>trivial
   | _=>rw [ho] at h;simp at h
  ·cases ho:s.o i with
   | row t em ver xs =>
    rw [ho] at h
    simp only at h
    cases hb:Nat.beq ver v
    ·rw [hb] at h;simp at h
    ·rw [hb] at h;exact BU h d ag
   | var ver cs =>
    rw [ho] at h
    simp only at h
    cases hb:Nat.beq ver v
    ·rw [hb] at h;simp at h
    ·rw [hb] at h;exact BU h d ag
   | _=>rw [ho] at h;simp at h
theorem aY.append:∀ {x y:List a6} {us vs:List Value},aY w Z s ι x us→aY w Z s ι y vs→aY w Z s ι (x++y) (us++vs)
 | [],_,_,_,h,k=>by simp only [aY] at h;subst h;exact k
 | _ :: _,_,_,_,h,k=>by
  simp only [aY] at h
  obtain ⟨u,aU,rfl,h1,h2⟩:=h
  simp only [List.cons_append,aY]
  exact⟨u,_,rfl,h1,h2.append k⟩
theorem IB:∀ {x:List a6} {us:List Value},od x=true→aY w Z s ι x us→aY w Z s ι (lA x) (f' us)
 | [],_,_,h=>by simp only [aY] at h;subst h;simp only [lA,f',aY]
 | v :: l,_,hn,h=>by
  simp only [aY] at h
  obtain ⟨u,aU,rfl,h1,h2⟩:=h
  have hl:od l=true:=by cases v <;> simp_all [od]
  have ih:=IB hl h2
  cases v with
  | fn f a b =>
   simp only [aQ] at h1
   obtain ⟨xs,ys,rfl,c8,eJ⟩:=h1
   simp only [lA,f']
   exact(c8.append eJ).append ih
  | aD=>simp [od] at hn
  | aV c =>
   simp only [lA]
   have:∀f a b,u≠.func f a b:=by
    rintro f a b rfl
    simp only [aQ] at h1
    cases c with
    | b1=>obtain ⟨_,⟨_,_,_,h⟩,_⟩:=h1;simp at h
    | ag=>obtain ⟨_,_,_,_,h,_⟩:=h1;simp at h
    | str=>obtain ⟨_,h,_⟩:=h1;simp at h
    | raw=>obtain ⟨h,_,_,_,h2⟩:=h1;rw [h2] at h;simp at h
    | _=>simp [cj] at h1
   cases u <;> first | exact ih | exact absurd rfl (this _ _ _)
  | iu cs=>simp only [aQ] at h1;obtain ⟨_,rfl,_⟩:=h1;exact ih
  | ptr p=>simp only [aQ] at h1;obtain ⟨_,_,rfl,_⟩:=h1;exact ih
  | dk=>simp only [aQ] at h1;obtain ⟨_,_,_,_,rfl,_⟩:=h1;exact ih
  | gone=>simp [od] at hn
  | rk=>simp [od] at hn
  | jY=>simp only [aQ] at h1;subst h1;exact ih
  | kQ=>simp only [aQ] at h1;subst h1;exact ih
  | may=>simp only [aQ] at h1;rcases h1 with⟨_,rfl⟩ | ⟨_,_,_,_,_,rfl,_⟩ <;> exact ih
  | opt=>simp only [aQ] at h1;rcases h1.2 with⟨_,rfl⟩ | ⟨_,_,rfl,_⟩ <;> exact ih
  | o9=>simp only [aQ] at h1;obtain ⟨_,rfl,_⟩:=h1;exact ih
mutual
theorem cZ.mu:∀(t:ad) (m:a') {cs:List a8} {vs:List Value} {H:ah},cZ true w Z s ι t m cs vs H→cZ false w Z s ι t m cs vs H
 | .int _,_,_,_,_,hk=>by simp only [cZ] at hk ⊢;exact hk
 | .bool,_,_,_,_,hk=>by simp only [cZ] at hk ⊢;exact hk
 | .str,_,_,_,_,hk=>by simp only [cZ] at hk ⊢;exact hk
 | .raw,_,_,_,_,hk=>by simp only [cZ] at hk ⊢;exact hk
 | .sl t,.R,_,_,_,hk=>by simp only [cZ] at hk
 | .sl t,.S _,_,_,_,hk=>by simp only [cZ] at hk
 | .sl t,.O e,_,_,_,hk=>by
  simp only [cZ] at hk ⊢
  obtain ⟨c,v,h1,h2,hk⟩:=hk
  refine⟨c,v,h1,h2,?_⟩
  cases c with
  | nil=>exact hk
  | ag id sub =>
   cases sub with
   | some=>exact hk
   | none=>obtain ⟨ver,xs,A,k,c,_,h⟩:=hk;exact⟨ver,xs,A,k,c,fun h=>by simp at h,h⟩
  | b1 u dp cr xs=>obtain ⟨p,i,T,ver,ys,b,o,c,h1,h2,_,h⟩:=hk;exact⟨p,i,T,ver,ys,b,o,c,h1,h2,fun h=>by simp at h,h⟩
  | _=>exact hk
 | .st aj,m,_,_,_,hk=>by simp only [cZ] at hk ⊢;exact fE.mu aj m.parts hk
theorem fE.mu:∀(aj:ay) (m:cU) {cs:List a8} {vs:List Value} {H:ah},fE true w Z s ι aj m cs vs H→fE false w Z s ι aj m cs vs H
 | .nil,_,_,_,_,hk=>by simp only [fE] at hk ⊢;exact hk
 | .cons t aj,m,_,_,_,hk=>by
  simp only [fE] at hk ⊢
  obtain ⟨c1,gC,v1,v2,H1,H2,h1,h2,h3,h4,a7⟩:=hk
  exact⟨c1,gC,v1,v2,H1,H2,h1,h2,cZ.mu t m.ag h3,fE.mu aj m.dx h4,a7⟩
end
theorem eX.mu:∀(ps:List bC) {vs:List a6} {us:List Value} {H:ah},eX true w Z s ι ps vs us H→eX false w Z s ι ps vs us H
 | [],_,_,_,_=>trivial
 | .mut t m m' :: ps,_,_,_,⟨p,bI,u,aU,H1,H2,h1,h2,h3,h4,a7⟩ =>
  ⟨p,bI,u,aU,H1,H2,h1,h2,h3.imp (fun⟨a,b,c,d,e,_,h⟩=>⟨a,b,c,d,e,fun h=>by simp at h,h⟩) (fun⟨c8,eJ,a,b,c,d,e,f,g1,g2,_,h⟩=>⟨c8,eJ,a,b,c,d,e,f,g1,g2,fun h=>by simp at h,h⟩),eX.mu ps h4,a7⟩
 | .hC t m :: ps,_,_,_,⟨v,bI,u,aU,cs,H1,H2,h1,h2,h3,ox,h4,a7,bh⟩=>⟨v,bI,u,aU,cs,H1,H2,h1,h2,h3,ox,cZ.mu t m h4,eX.mu ps a7,bh⟩
 | .val _ _ :: ps,_,_,_,⟨v,bI,u,aU,h1,h2,h3⟩=>⟨v,bI,u,aU,h1,h2,eX.mu ps h3⟩
 | .hD _ :: ps,_,_,_,⟨v,bI,u,aU,h1,h2,h3⟩=>⟨v,bI,u,aU,h1,h2,eX.mu ps h3⟩
 | .ref _ :: ps,_,_,_,⟨v,bI,u,aU,h1,h2,h3⟩=>⟨v,bI,u,aU,h1,h2,eX.mu ps h3⟩
 | .fn _ _ :: ps,_,_,_,⟨v,bI,u,aU,h1,h2,h3⟩=>⟨v,bI,u,aU,h1,h2,eX.mu ps h3⟩
theorem ic.mono(hZ:ah.sub Z Z'){ps:List bC}{us:List Value} : ∀(rs:List cX) {x:(cX.outs rs (bC.dZ ps)).D} {dr:List Value} {F F':ah},ah.sub F F'→ic w Z ps us rs x dr F→ic w Z' ps us rs x dr F'
 | [],_,_,_,_,hF,⟨h1,h2⟩=>⟨h1,iq.mono hZ ps hF h2⟩
 | .val t m :: rs,_,_,_,_,hF,⟨vs,eb,G,H,h1,h2,h3,h4,a7,bh⟩=>⟨vs,eb,G,H,h1,ad.al.mono hZ _ _ (fun _ _ h=>h) h2,ic.mono hZ rs (fun _ _ h=>h) h3,h4,fun b o h=>hF b o (a7 b o h),fun b o h=>hF b o (bh b o h)⟩
 | .opt a off t :: rs,_,_,_,_,hF,⟨v,eb,h1,h2,h3⟩=>⟨v,eb,h1,h2,ic.mono hZ rs hF h3⟩
 | .any t :: rs,_,_,_,_,hF,⟨v,eb,h1,h2,h3⟩=>⟨v,eb,h1,h2,ic.mono hZ rs hF h3⟩
 | .pa t :: rs,_,_,_,_,hF,⟨v,eb,h1,h2,h3⟩=>⟨v,eb,h1,h2.imp (fun h=>h) fun⟨y,b,o,vs,k1,k2,k3,ba,bt⟩=>⟨y,b,o,vs,k1,k2,k3,ad.al.mono hZ _ _ (fun _ _ h=>h) ba,fun j hj=>hZ _ _ (bt j hj)⟩,ic.mono hZ rs hF h3⟩
 | .new t m :: rs,_,_,_,_,hF,⟨b,o,vs,eb,G,H,h1,h2,hw,h3,h4,a7,bh,bH,cG⟩=>⟨b,o,vs,eb,G,H,h1,h2,hw,ad.al.mono hZ _ _ (fun _ _ h=>h) h3,ic.mono hZ rs (fun _ _ h=>h) h4,a7,bh,fun b o h=>hF b o (bH b o h),fun b o h=>hF b o (cG b o h)⟩
theorem jm.plus{p:Place}{b o:Nat}(k:Nat)(h:jm s ι p (at_ b o)):jm s ι { p with off:=p.off+k } (at_ b (o+k)):=by
 obtain ⟨_,h⟩:=h
 refine⟨rfl,?_⟩
 show match (s.o p.id).core with | .var _ _=>_ | .row .. => _ | _=>_
 cases hc:(s.o p.id).core with
 | var ver cs =>
  rw [hc] at h
  obtain ⟨h1,a0,h2,h3⟩:=h
  simp only [at_,Addr.mk.injEq,and_true] at h3
  exact⟨h1,a0,h2,by simp only [at_,Addr.mk.injEq,and_true];exact⟨h3.1,by omega⟩⟩
 | row t em ver xs =>
  rw [hc] at h
  obtain ⟨i,h1,h2,a0,h3,h4⟩:=h
  simp only [at_,Addr.mk.injEq,and_true] at h4
  exact⟨i,h1,h2,a0,h3,by simp only [at_,Addr.mk.injEq,and_true];exact⟨h4.1,by omega⟩⟩
 | _=>trivial
theorem aY.get:∀ {x:List a6} {us:List Value} (i:Nat) {v:a6},aY w Z s ι x us→x[i]?=some v→∃u,us[i]?=some u∧aQ w Z s ι v u
 | [],_,i,_,_,h=>by simp at h
 | y :: l,_,0,v,h,hv=>by
  simp only [aY] at h
  obtain ⟨u,aU,rfl,h1,h2⟩:=h
  simp at hv;subst hv
  exact⟨u,rfl,h1⟩
 | y :: l,_,i+1,v,h,hv=>by
  simp only [aY] at h
  obtain ⟨u,aU,rfl,h1,h2⟩:=h
  simp only [List.getElem?_cons_succ] at hv ⊢
  exact h2.get i hv
theorem aY.held{g:Bool}{H:ah}(h:gH g w Z s ι w' Z' aq bf H):∀ {x:List a6} {us:List Value},aY w Z s ι x us→aY w' Z' aq bf x us
 | [],_,hx=>by simp only [aY] at hx ⊢;exact hx
 | y :: l,_,hx=>by
  simp only [aY] at hx ⊢
  obtain ⟨u,aU,h0,h1,h2⟩:=hx
  exact⟨u,aU,h0,h.aA _ _ h1,aY.held h h2⟩
theorem wA{bl:List (Nat×Nat)}{ps:List bC}{vs:List a6}{us:List Value} : ∀(rs:List cX) (x:(cX.outs rs (bC.dZ ps)).D) (dr:List Value) (s:an) (ι : Nat→bG) (j:Nat) (q:List a6×an) (F H:ah),lz vs ps bl rs x s j=some q →
  Inv w0 F0 Z0 n s a w ι Z→eX false w Z s ι ps vs us H→ic w (Z.or (dg ι bl)) ps us rs x dr F→bJ w0 F0 s w ι Z F→bJ w0 F0 s w ι Z H→ah.apart F H→(∀d,d∈bl→(s.o d.1).live∧et s d)→aY w Z s ι vs us →
  ∃ bf,Inv w0 F0 Z0 n q.2 a w bf Z∧(∀x u,aQ w Z s ι x u→aQ w Z q.2 bf x u)∧aY w Z q.2 bf q.1 dr
 | [],x,dr,s,ι,j,q,F,H,hu,h,hk,hr,hF,cE,ha,ag,hv=>by
  simp only [lz] at hu
  obtain ⟨r,hx,hu⟩:=bg hu
  obtain rfl:=aT hu
  obtain ⟨rfl,hr⟩:=hr
  obtain ⟨bf,ea,held,_⟩:=rQ ps vs us x s ι j r F H hx h hk hr hF cE ha ag
  exact⟨bf,ea,held.aA,by simp only [aY]⟩
 | .val t m :: rs,x,dr,s,ι,j,q,F,H,hu,h,hk,hr,hF,cE,ha,ag,hv=>by
  simp only [lz] at hu
  obtain ⟨r,hx,hu⟩:=bg hu
  cases hw:jZ t r.1 with
  | none=>rw [hw] at hu;simp at hu
  | some v =>
   rw [hw] at hu
   simp only at hu
   obtain ⟨p,au,hu⟩:=bg hu
   obtain rfl:=aT hu
   obtain ⟨ws,eb,G1,G2,rfl,bD,cg,px,fe,gU⟩:=hr
   obtain ⟨dz,i1,ja,c1,fF⟩:=ad.oj t m bl x.1 s ι j r ws G1 hx h bD (hF.sub fe) ((hF.sub fe).dg fun d hm=>(ag d hm).1) (fun d hm=>(ag d hm).2)
   have rP:gH false w Z s ι w Z r.2.1 dz (fun _ _=>True):=ja.held _
   have hdl:=yH (dp:=bl) (fun d hm=>(ag d hm).1) ja.keeps
   have IC:aY w Z r.2.1 dz vs us:=aY.move (ja.ej (w:=w) (Z:=Z)) hv
   obtain ⟨eA,i2,py,hK⟩:=wA rs x.2 eb r.2.1 dz r.2.2 p G2 H au i1 (eX.move (rP.mono fun _ _ _=>trivial) (fun _ _ h=>h) ps hk) (by rw [hdl.2];exact cg)
    (fF G2 (hF.sub gU) (fun b o x y=>px b o y x)) (fF H cE (fun b o x y=>ha b o (fe b o y) x)) (fun b o x y=>ha b o (gU b o x) y)
    (fun d hm=>⟨hdl.1 d hm,by have:=(ag d hm).2;unfold et known ks at *;rw [(ja.keeps d.1 (ag d hm).1).1];exact this⟩) IC
   refine⟨eA,i2,fun x u hx=>py x u (rP.aA x u hx),?_⟩
   simp only [aY]
   exact⟨_,eb,rfl,py _ _ (ph hw c1),hK⟩
 | .new t m :: rs,x,dr,s,ι,j,q,F,H,hu,h,hk,hr,hF,cE,ha,ag,hv=>by
  simp only [lz] at hu
  obtain ⟨r,hx,hu⟩:=bg hu
  obtain ⟨s1,hm,hu⟩:=bg hu
  obtain ⟨p,au,hu⟩:=bg hu
  obtain rfl:=aT hu
  obtain ⟨b2,rfl⟩:=qk hm
  obtain ⟨b,o,ws,eb,G1,G2,rfl,b4,hwr,bD,cg,px,rO,fe,gU⟩:=hr
  have hG:ah.sub G1 F:=fun b o x=>fe b o (.inl x)
  have dJ:ah.sub (ah.run b o t.size) F:=fun b o x=>fe b o (.inr x)
  obtain ⟨dz,i1,ja,c1,fF⟩:=ad.oj t m bl x.1 s ι j r ws G1 hx h bD (hF.sub hG) ((hF.sub hG).dg fun d hm=>(ag d hm).1) (fun d hm=>(ag d hm).2)
  have hl:=(ad.al.len t _ bD).1
  have hcl:=c1.len
  have j4:=fF _ (hF.sub dJ) (fun b o x y=>rO b o y x)
  obtain ⟨i2,nw,mr,nx⟩:=Iw i1 (id:=r.2.2) (o:=.var 0 r.1) (i:=⟨some (at_ b o),0,ah.run b o t.size⟩) (by rw [b2];exact fun h=>h) (fun o'=>by simp) (by rw [b2];exact .made _ _ _) (fun hm=>by
   refine⟨at_ b o,ws,rfl,rfl,c1.move hm,b4,fun k hk=>⟨hwr k (by omega),rfl,by simp [at_],by simp [at_];omega⟩⟩) j4
  have held:gH false w Z s ι w Z _ _ (fun _ _=>True):=(ja.held _).trans nw
  have P4:∀id,(s.o id).live→(r.2.1.bQ r.2.2 (.var 0 r.1)).o id=s.o id∧bU dz r.2.2 ⟨some (at_ b o),0,ah.run b o t.size⟩ id = ι id:=fun id cc=>by
   obtain ⟨h1,h2⟩:=ja.keeps id cc
   obtain ⟨h3,h4⟩:=nx id (by rw [h1];exact cc)
   exact⟨h3.trans h1,h4.trans h2⟩
  have hdl:=yH (dp:=bl) (fun d hm=>(ag d hm).1) P4
  have IC:aY w Z _ _ vs us:=aY.held held hv
  have yJ:∀X,bJ w0 F0 s w ι Z X→ah.apart X (G1.or (ah.run b o t.size))→bJ w0 F0 (r.2.1.bQ r.2.2 (.var 0 r.1)) w (bU dz r.2.2 ⟨some (at_ b o),0,ah.run b o t.size⟩) Z X:=fun X hX fG =>
   mr X (fF X hX fun b o x y=>fG b o x (.inl y)) fun b o x y=>fG b o x (.inr y)
  obtain ⟨ID,i3,P5,hK⟩:=wA rs x.2 eb _ _ _ p G2 H au i2 (eX.move (held.mono fun _ _ _=>trivial) (fun _ _ h=>h) ps hk) (by rw [hdl.2];exact cg)
   (yJ G2 (hF.sub gU) (fun b o x y=>px b o y x)) (yJ H cE (fun b o x y=>ha b o (fe b o y) x)) (fun b o x y=>ha b o (gU b o x) y)
   (fun d hm=>⟨hdl.1 d hm,by have:=(ag d hm).2;unfold et known ks at *;rw [(P4 d.1 (ag d hm).1).1];exact this⟩) IC
  refine⟨ID,i3,fun x u hx=>P5 x u (held.aA x u hx),?_⟩
  simp only [aY]
  refine⟨_,eb,rfl,P5 _ _ ?_,hK⟩
  simp only [aQ]
  refine⟨by show bU r.2.1.o r.2.2 _ r.2.2≠_;rw [cw];simp,_,rfl,rfl,?_⟩
  show match (bU r.2.1.o r.2.2 _ r.2.2).core with | .var _ _=>_ | .row .. => _ | _=>_
  rw [cw]
  exact⟨rfl,at_ b o,by rw [cw],by simp [at_]⟩
 | .any t :: rs,x,dr,s,ι,j,q,F,H,hu,h,hk,hr,hF,cE,ha,ag,hv=>by
  simp only [lz] at hu
  obtain ⟨p,au,hu⟩:=bg hu
  obtain rfl:=aT hu
  obtain ⟨v,eb,rfl,Zx,cg⟩:=hr
  obtain ⟨eA,i2,py,hK⟩:=wA rs x eb s ι j p F H au h hk cg hF cE ha ag hv
  refine⟨eA,i2,py,?_⟩
  simp only [aY]
  exact⟨_,eb,rfl,by simp only [aQ];exact Zx,hK⟩
 | .pa t :: rs,x,dr,s,ι,j,q,F,H,hu,h,hk,hr,hF,cE,ha,ag,hv=>by
  simp only [lz] at hu
  obtain ⟨p,au,hu⟩:=bg hu
  obtain rfl:=aT hu
  obtain ⟨v,eb,rfl,ho,cg⟩:=hr
  obtain ⟨eA,i2,py,hK⟩:=wA rs x.2 eb s ι j p F H au h hk cg hF cE ha ag hv
  refine⟨eA,i2,py,?_⟩
  simp only [aY]
  refine⟨v,eb,rfl,py _ _ ?_,hK⟩
  simp only [aQ]
  rcases ho with⟨h1,h2⟩ | ⟨y,b,o,bI,h1,h2,h3,h4,a7⟩
  ·exact .inl ⟨by rw [h1];rfl,h2⟩
  ·right
   rw [h1]
   refine⟨rfl,fun d hm=>(ag d hm).2,b,o,bI,h2,fun _=>?_⟩
   have hc:bK w Z s ι (t.cells bl none y) bI:=ad.qg t bl none (fun d hm=>(ag d hm).2) (fun _=>h4) ⟨_,_,_,h4⟩ .none
   refine⟨hc,h3,fun j hj=>?_⟩
   have hl:=(ad.al.len t _ h4).1
   have dR:=hc.len
   exact a7 j (by rw [show(J t [y] 0)=y from rfl] at hj;omega)
 | .opt lS off t :: rs,x,dr,s,ι,j,q,F,H,hu,h,hk,hr,hF,cE,ha,ag,hv=>by
  simp only [lz] at hu
  obtain ⟨p,au,hu⟩:=bg hu
  cases dV:qb p.2 vs lS off with
  | none=>rw [dV] at hu;simp at hu
  | some id =>
   rw [dV] at hu
   simp only at hu
   cases mv:qc p.2 t id
   ·rw [mv] at hu;cases hu
   rw [mv] at hu
   simp only [cond_true] at hu
   obtain rfl:=aT hu
   obtain ⟨v,eb,rfl,ho,cg⟩:=hr
   obtain ⟨eA,i2,py,hK⟩:=wA rs x.2 eb s ι j p F H au h hk cg hF cE ha ag hv
   refine⟨eA,i2,py,?_⟩
   simp only [aY]
   refine⟨v,eb,rfl,?_,hK⟩
   unfold qb at dV
   cases nq:vs[lS]? with
   | none=>rw [nq] at dV;simp at dV
   | some lB =>
    rw [nq] at dV
    cases lB with
    | ptr pl =>
     simp only at dV
     cases c7:l_ p.2 1 { pl with off:=pl.off+off } with
     | none=>rw [c7] at dV;simp at dV
     | some cs =>
      rw [c7] at dV
      have hcs:cs=[.ag id none]:=by
       split at dV
       ·rename_i h;obtain rfl:=aT dV;exact aT h
       ·simp at dV
      subst hcs
      obtain ⟨u,wB,rR⟩:=hv.get lS nq
      have rR:=py _ _ rR
      simp only [aQ] at rR
      obtain ⟨iX,A,rfl,mw⟩:=rR
      obtain ⟨b,o,sp⟩:=A
      have hsp:=mw.1
      simp only at hsp
      subst hsp
      obtain ⟨rC,eH,ws,hA,hc1,hc2,yD⟩:=yl i2 c7 (jm.plus (b:=b) (o:=o) off mw)
      simp only [at_,Addr.mk.injEq,and_true] at hA
      obtain ⟨rfl,rfl⟩:=hA
      match ws,hc1 with
      | [v0],hc1 =>
       obtain ⟨hk0,A,m,k,rfl,hh⟩:=hc1.1
       simp only [aQ]
       refine⟨hk0,?_⟩
       rcases ho with⟨h1,h2⟩ | ⟨h1,rI,eW,jn,dE,fU,c1,h2,h3,h4,a7⟩
       ·exact .inl ⟨h1,h2⟩
       ·right
        refine⟨h1,_,a7,rfl,?_⟩
        rw [wB] at h2
        simp only [Option.some.injEq,Value.pointer.injEq,at_,Addr.mk.injEq,and_true] at h2
        obtain ⟨rfl,rfl⟩:=h2
        have:=hc2.head
        rw [h3] at this
        simp only [Option.some.injEq,Value.slice.injEq] at this
        obtain ⟨rfl,rfl,rfl⟩:=this
        show match (p.2.o id).core with | .var _ _=>_ | .row .. => _ | _=>_
        unfold qc at mv
        cases bX:p.2.o id with
        | row u em ver xs =>
         rw [bX] at mv
         have:=ad.eq_of_beq _ _ mv
         subst this
         obtain ⟨c8,eJ,iv,iw,ix⟩:=hh u em ver xs (lD bX)
         have c8:fU=xs.length:=c8
         rcases ix with ix | ⟨a0,nk,nr⟩
         ·omega
         ·simp only [ei,Nat.zero_mul,Nat.add_zero,Option.some.injEq,at_,Addr.mk.injEq,and_true] at nr
          refine⟨_,rfl,by omega,a0,nk,?_⟩
          simp only [at_,Addr.mk.injEq,and_true]
          exact⟨nr.1,by omega⟩
        | _=>rw [bX] at mv;cases mv
    | _=>simp at dV
end
end Go.LM
namespace Go.LM
section
variable{P:Program}{Q:Exit→Act→World→Prop}
variable{g:Bool}{w0:World}{F0 Z0:ah}{n:cD}{s aq:an}{a b_:Act}{w w' b6:World}{ι bf eA:Nat→bG}{Z Z' bL:ah}
variable{E:Env}{o:Oper}{bs : Type}{K:an→Option bs}{r : bs}{id:Nat}
def BV:List a6→a6
 | [v]=>v
 | l=>.o9 l
theorem Calls.mono{P:Program}{f:FuncId}{args:Array Value}{w:World}{R iT:Ending→World→Prop}(h:Calls P f args w R)(dJ:∀e w',R e w'→iT e w'):Calls P f args w iT:=by
 intro cs
 obtain ⟨e,w',ny,h1,h2⟩:=h cs
 exact⟨e,w',ny,dJ e w' h1,h2⟩
theorem wo.mono{P:Program}{f:FuncId}{args:Array Value}{w:World}{R iT:Ending→World→Prop}(h:wo P f args w R)(dJ:∀e w',R e w'→iT e w'):wo P f args w iT:=by
 rcases h with⟨h1,h2⟩ | ⟨v,w',h1,h2⟩
 ·exact .inl ⟨h1,Calls.mono h2 dJ⟩
 ·exact .inr ⟨v,w',h1,dJ _ _ h2⟩
def BW(P:Program)(E:Env):Prop:=∀f key e,E.fns f key=some e→hW P f key e
theorem Zy{f:FuncId}{vs:List a6}{us:List Value}{K:a6→an→Option bs}(dQ:BW P E)(h:Inv w0 F0 Z0 n s a w ι Z)(hv:aY w Z s ι vs us)(hk:Hi E id s f vs K=some r) :
  ∃(T:a6→an→Prop),(∀v aq,T v aq→K v aq=some r)∧(∃v aq,T v aq)∧wo P f us.toArray w fun e w'=>∃u,e=.returned u∧∀v aq,T v aq→∃ bf Z',Inv w0 F0 Z0 n aq a w' bf Z'∧aQ w' Z' aq bf v u:=by
 unfold Hi at hk
 cases hf:E.fns f (pc vs) with
 | none=>rw [hf] at hk;simp at hk
 | some e =>
  rw [hf] at hk
  simp only at hk
  cases hm:gb (pc vs) s e.ps (vs++lA vs) [] with
  | none=>rw [hm] at hk;simp at hk
  | some q =>
   obtain ⟨x,s1,bl⟩:=q
   rw [hm] at hk
   simp only at hk
   cases dU:(alive s1 bl&&od vs)
   ·rw [dU] at hk;simp at hk
   rw [dU] at hk
   simp only [Bool.and_eq_true] at dU
   obtain ⟨dU,IE⟩:=dU
   simp only [cond_true] at hk
   obtain ⟨y,aN,hk⟩:=bg hk
   cases hu:lz (vs++lA vs) e.ps bl e.rs y s1 id with
   | none=>rw [hu] at hk;simp at hk
   | some q =>
    obtain ⟨l,s2⟩:=q
    rw [hu] at hk
    have IF:=dQ f _ e hf
    have hvc:=hv.append (IB IE hv)
    obtain ⟨F,H,cq,i1,g1,bD,k1,f1,h1,a1,_,d1,_⟩:=qq e.ps _ _ s Z [] _ hm h hvc (by simp)
    simp only at i1 g1 bD k1 f1 h1 d1
    have cc:=BU dU
    have hcall:=IF.calls w (cq.or (dg ι bl)) F x us y
     (by
      rintro b o (hz | ⟨d,ag,hf⟩)
      ·exact i1.iU b o hz
      ·exact(i1.own d.1 (cc d ag) b o hf).2)
     (fun b o hf=>(f1.own b o hf).2)
     (by
      rintro b o hf (hz | hz)
      ·exact f1.c5 b o hf hz
      ·exact f1.dg cc b o hf hz) bD aN
    refine⟨fun eQ aq=>eQ=BV l∧aq=s2,?_,⟨_,s2,rfl,rfl⟩,hcall.mono ?_⟩
    ·rintro eQ aq ⟨rfl,rfl⟩
     clear hu
     match l,hk with
     | [],hk=>exact hk
     | [_],hk=>exact hk
     | _ :: _ :: _,hk=>exact hk
    ·rintro end_ w' ⟨u,rfl,⟨dr,Z',F',rfl,hx,jr,hz2,hf2,yK,hK⟩⟩
     refine⟨_,rfl,?_⟩
     rintro eQ aq ⟨rfl,rfl⟩
     let S:ah:=fun b o=>Z' b o∧(F b o∨w.heap.size≤b)
     have mx:=i1.By f1 hx
     have P6:∀(X:ah),(∀b o,X b o→(F b o∨w.heap.size≤b)∧b<w'.heap.size)→bJ w0 F0 s1 w' ι cq X:=by
      intro X hX
      have hsz:=i1.ext.size
      refine⟨fun b o hb=>⟨?_,(hX b o hb).2⟩,fun id hl b o hb hi=>?_,fun b o hb hz=>?_⟩
      ·rcases (hX b o hb).1 with hf | hf
       ·exact(f1.own b o hf).1
       ·exact .inr (by omega)
      ·rcases (hX b o hb).1 with hf | hf
       ·exact f1.apart id hl b o hf hi
       ·have:=(i1.own id hl b o hi).2;omega
      ·rcases (hX b o hb).1 with hf | hf
       ·exact f1.c5 b o hf hz
       ·have:=i1.iU b o hz;omega
     have Ia:bJ w0 F0 s1 w' ι cq S:=P6 S (by
      rintro b o ⟨hz,hf⟩
      refine⟨hf,?_⟩
      rcases hz2 b o hz with h1 | h1
      ·have hsz:=hx.size
       rcases h1 with h1 | ⟨d,ag,h1⟩
       ·have:=i1.iU b o h1;omega
       ·have:=(i1.own d.1 (cc d ag) b o h1).2;omega
      ·exact h1.2)
     have eY:=mx.freeze Ia
     have IG:bJ w0 F0 s1 w' ι (cq.or S) F':=(P6 F' hf2).freeze (fun b o hb hs=>yK b o hb hs.1)
     have cE:bJ w0 F0 s1 w' ι (cq.or S) H:=(h1.ext hx).freeze (by
      rintro b o hb ⟨_,hf | hf⟩
      ·exact a1 b o hf hb
      ·have:=(h1.own b o hb).2;omega)
     have P7:ah.apart cq F:=fun b o hz hf=>f1.c5 b o hf hz
     have rM:eI w cq s1 ι w' (cq.or S) s1 ι := by
      refine⟨fun id=>.stay _ _,fun _ _ h=>.inl h,b9.iW hx i1.rB ?_⟩
      rintro b o (hz | ⟨id,hl,_,_,hf⟩) hs
      ·exact P7 b o hz hs
      ·exact f1.apart id hl b o hs hf
     have wz:gH false w cq s1 ι w' (cq.or S) s1 ι H :=
      ⟨fun _ _=>aQ.move rM,fun _ _=>cj.move rM,rM.dF,fun _ _ _ h=>⟨h,rfl⟩,fun h=>by simp at h,b9.iW hx (fun b o hb=>(h1.own b o hb).2) (fun b o hb hf=>a1 b o hf hb),b9.iW hx i1.iU P7,fun b o hw=>hx.p9 hw,fun z b o hw=>hx.kp hw⟩
     have hvs1:aY w' (cq.or S) s1 ι (vs++lA vs) (us++f' us):=aY.move rM (aY.move g1.ej hvc)
     obtain ⟨eA,i2,_,cN⟩:=wA e.rs y dr s1 ι id (l,aq) F' H hu eY (eX.move wz (fun _ _ h=>h) e.ps k1.mu) (ic.mono (by
      intro b o hz
      by_cases hc:(F b o∨w.heap.size≤b)
      ·exact .inl (.inr ⟨hz,hc⟩)
      ·rcases hz2 b o hz with h1 | h1
       ·rcases h1 with h1 | h1
        ·exact .inl (.inl h1)
        ·exact .inr h1
       ·exact absurd h1.1 hc) e.rs (fun _ _ h=>h) hK) IG cE (by
      intro b o hb hh
      rcases (hf2 b o hb).1 with hf | hf
      ·exact a1 b o hf hh
      ·have:=(h1.own b o hh).2;omega) (fun d ag=>⟨cc d ag,d1 d ag⟩) hvs1
     refine⟨eA,_,i2,?_⟩
     show aQ w' _ aq eA (BV l) (ow dr)
     simp only at cN
     clear hk hu
     match l,cN with
     | [],cN=>simp only [aY] at cN;subst cN;simp only [BV,aQ,ow];exact⟨[],rfl,by simp only [aY]⟩
     | [v0],cN =>
      simp only [aY] at cN
      obtain ⟨kz,v8,rfl,h0,rfl⟩:=cN
      exact h0
     | v0 :: v1 :: l,cN =>
      have wC:=cN
      simp only [aY] at cN
      obtain ⟨kz,v8,rfl,h0,lC,us1,rfl,h1,h2⟩:=cN
      simp only [BV,aQ,ow]
      exact⟨_,rfl,wC⟩
theorem P8{m:Nat}{n:Int}{k:Nat}(hx:aM m n=some k):0≤n∧k=n.toNat:=by
 unfold aM at hx
 by_cases hc:0≤n∧n<(m:Int)
 ·rw [if_pos hc] at hx;exact⟨hc.1,(aT hx).symm⟩
 ·rw [if_neg hc] at hx;cases hx
theorem BX{bs : Type}{r : bs} : ∀ {vs:List a6} {us:List Value} {K:List a6→Option bs},rn s vs K=some r→aY w Z s ι vs us→∃bI,K bI=some r∧aY w Z s ι bI us
 | [],us,K,hk,hv=>⟨[],hk,hv⟩
 | v :: l,us,K,hk,hv=>by
  simp only [aY] at hv
  obtain ⟨u,aU,rfl,h1,h2⟩:=hv
  have keep:(rn s l fun l'=>K (v :: l'))=some r→∃bI,K bI=some r∧aY w Z s ι bI (u :: aU):=fun hk=>by
   obtain ⟨l',k1,k2⟩:=BX (K:=fun l'=>K (v :: l')) hk h2
   exact⟨v :: l',k1,by simp only [aY];exact⟨u,aU,rfl,h1,k2⟩⟩
  cases v with
  | opt i n =>
   simp only [rn] at hk
   obtain ⟨k,hx,hk⟩:=bg hk
   obtain ⟨l',k1,k2⟩:=BX (K:=fun l'=>K (.ptr ⟨i,some k,0⟩ :: l')) hk h2
   refine⟨_,k1,?_⟩
   simp only [aY]
   refine⟨u,aU,rfl,?_,k2⟩
   simp only [aQ] at h1 ⊢
   obtain ⟨h0,rfl⟩:=P8 hx
   obtain ⟨iX,⟨h3,_⟩ | ⟨h3,wD,rfl,h4⟩⟩:=h1
   ·omega
   ·exact⟨iX,wD,rfl,h4⟩
  | may b dp cs =>
   simp only [rn] at hk
   cases b
   ·cases hk
   obtain ⟨l',k1,k2⟩:=BX (K:=fun l'=>K (.dk dp cs 0 :: l')) hk h2
   refine⟨_,k1,?_⟩
   simp only [aY]
   refine⟨u,aU,rfl,?_,k2⟩
   simp only [aQ] at h1 ⊢
   rcases h1 with⟨h1,_⟩ | ⟨_,h1⟩
   ·cases h1
   ·exact h1
  | _=>exact keep hk
theorem Zz{f:FuncId}{vs:List a6}{us:List Value}{K:a6→an→Option bs}(dQ:BW P E)(h:Inv w0 F0 Z0 n s a w ι Z)(hv:aY w Z s ι vs us)(hk:Hj E id s f vs K=some r) :
  ∃(T:a6→an→Prop),(∀v aq,T v aq→K v aq=some r)∧(∃v aq,T v aq)∧wo P f us.toArray w fun e w'=>∃u,e=.returned u∧∀v aq,T v aq→∃ bf Z',Inv w0 F0 Z0 n aq a w' bf Z'∧aQ w' Z' aq bf v u:=by
 unfold Hj at hk
 obtain ⟨bI,en,lE⟩:=BX hk hv
 exact Zy dQ h lE en
theorem ZA{c:Call}{bA:Operand}(dQ:BW P E)(h:Inv w0 F0 Z0 n s a w ι Z)(ag:∀k,o.dst=some k→k<n)(ho:o.op=.call c)(hc:c.callee=.value bA)(hk:cT E id o s K=some r) :
  ∃aq,K aq=some r∧o.wp P a w (cY w0 F0 Z0 n aq) Q:=by
 unfold cT at hk
 rw [ho] at hk
 simp only [hc] at hk
 have hvs:=tz h c.args.toList
 have hf:=e7 h bA
 cases BY:bV s bA with
 | fn IH first lx =>
  rw [BY] at hk hf
  simp only at hk
  simp only [aQ] at hf
  obtain ⟨cn,cs,II,kW,hcs⟩:=hf
  have qs:aY w Z s ι (first++c.args.toList.map (bV s)++lx) (cn++c.args.toList.map a.eval++cs):=(kW.append hvs).append hcs
  obtain ⟨T,ZB,⟨v,aq,bZ⟩,wE⟩:=Zz dQ h qs hk
  refine⟨_,ZB v aq bZ,?_⟩
  unfold Oper.wp
  have hrun:(execOp a.eval o).run P w=(callFunc IH (cn++c.args.toList.map a.eval++cs).toArray).run P w:=by
   unfold execOp;rw [ho]
   simp only [run_bind,resolve,hc,II,Deferred.ofValue,run_pure,invoke]
   congr 2
   apply Array.ext'
   simp
  rw [hrun]
  rcases wE with⟨⟨fn,yL,IJ,jb⟩,wE⟩ | ⟨u,w',tJ,gI,yv,hu⟩
  ·have IK:(callFunc IH (cn++c.args.toList.map a.eval++cs).toArray).run P w=.ok (.enter IH (cn++c.args.toList.map a.eval++cs).toArray) w:=by
    simp only [callFunc,run_bind,run_pure,program,Sem.run,yL]
    rw [if_neg (by rw [jb];simp),if_neg (by rw [IJ];simp)]
    simp only [run_pure]
   rw [IK,Oper.upon_enter]
   refine wE.mono ?_
   rintro e w' ⟨u,rfl,hu⟩
   obtain ⟨bf,Z',hinv,cN⟩:=hu v aq bZ
   exact⟨bf,Z',hinv.dst cN ag⟩
  ·rw [tJ,Oper.upon_value]
   cases yv
   obtain ⟨bf,Z',hinv,cN⟩:=hu v aq bZ
   exact⟨bf,Z',hinv.dst cN ag⟩
 | _=>rw [BY] at hk;simp at hk
structure jL(P:Program)(E:Env):Prop where
 ty:gS P E
 eq:Pc P E
 fns:BW P E
 mix:P.follows .mixedOrders=true
theorem ZC(bM:jL P E)(h:Inv w0 F0 Z0 n s a w ι Z)(ag:∀k,o.dst=some k→k<n)(hk:cT E id o s K=some r) :
  ∃aq,K aq=some r∧o.wp P a w (cY w0 F0 Z0 n aq) Q:=by
 have fj:(∃aq,K aq=some r∧Pure P o a w (cY w0 F0 Z0 n aq))→∃aq,K aq=some r∧o.wp P a w (cY w0 F0 Z0 n aq) Q:=fun⟨aq,h1,h2⟩=>⟨aq,h1,h2.wp⟩
 cases ho:o.op with
 | move x=>exact fj (Bp h ag (.inl ho) hk)
 | assign x=>exact fj (Bp h ag (.inr ho) hk)
 | pick c x y=>exact fj (OV h ag ho hk)
 | alloc t=>exact Yr bM.ty h ag ho hk
 | box t x=>exact Ys bM.ty h ag ho hk
 | build t ps=>exact fj (Pw bM.ty h ag ho hk)
 | buildSlice t m ps=>exact YT bM.ty h ag ho hk
 | load t x=>exact Yt bM.ty h ag ho hk
 | store t x y=>exact Yv bM.ty h ag ho hk
 | nilCheck x=>exact fj (OX h ag ho hk)
 | binOp op t x y Bu=>exact fj (Pf bM.ty bM.eq h ag ho hk)
 | unOp op t x=>exact fj (Pb h ag ho hk)
 | convert st gk x=>exact YJ bM.ty h ag ho hk
 | makeFunc f first lx =>
  cases f with
  | func f=>exact fj (O2 h ag ho hk)
  | _=>unfold cT at hk;rw [ho] at hk;simp at hk
 | makeSlice t x y=>exact YF bM.ty h ag ho hk
 | slice t x lo hi gP=>exact fj (O8 bM.ty h ag ho hk)
 | fieldAddr t x f=>exact fj (OZ bM.ty h ag ho hk)
 | field t x f=>exact fj (O0 bM.ty h ag ho hk)
 | indexAddr t x i=>exact fj (O3 bM.ty h ag ho hk)
 | index t x i=>exact fj (O4 bM.ty h ag ho hk)
 | extract x i=>exact fj (O1 h ag ho hk)
 | call c =>
  cases hc:c.callee with
  | builtin b =>
   by_cases hb:b=.append
   ·subst hb;exact Y5 bM.ty h ag ho hc hk
   ·by_cases hb2:b=.clear
    ·subst hb2;exact Zb bM.ty h ag ho hc hk
    ·exact fj (Pq bM.ty h ag ho hc hb hb2 hk)
  | value f=>exact ZA bM.fns h ag ho hc hk
  | invoke x m=>unfold cT at hk;rw [ho] at hk;simp [hc] at hk
 | _=>unfold cT at hk;rw [ho] at hk;simp at hk
end
end Go.LM
namespace Go.LM
mutual
theorem ad.beq_refl:∀t:ad,ad.beq t t=true
 | .int k=>by simp [ad.beq]
 | .bool=>rfl
 | .str=>rfl
 | .raw=>rfl
 | .sl t=>by simp only [ad.beq];exact ad.beq_refl t
 | .st aj=>by simp only [ad.beq];exact ay.beq_refl aj
theorem ay.beq_refl:∀t:ay,ay.beq t t=true
 | .nil=>rfl
 | .cons t aj=>by simp only [ay.beq,ad.beq_refl t,ay.beq_refl aj,cond_true]
end
theorem ZD(a:ad)(x:a.D):eG a a x=some x:=by unfold eG;rw [dif_pos (ad.beq_refl a)]
section
variable{w b6:World}{Z bL:ah}
def P9(w:World)(Z:ah)(t:ad)(z:List t.D)(v:Value)(H1 G1:ah)(R:World→ah→List t.D→Value→ah→Prop):Prop :=
 (ad.sl t).al w Z (.O t.own) z [v] H1∧ah.apart H1 G1∧∀(b6:World) (bL X:ah) (y:List t.D) (u:Value),b9 w b6 G1→(ad.sl t).al b6 bL (.O t.own) y [u] X→ah.apart X G1→R b6 bL y u (X.or G1)
mutual
theorem ad.tK:∀(T:ad) (off:Nat) (t:ad) {x:T.D} {z:List t.D} {us:List Value} {G:ah},T.al w Z T.own x us G→T.getAt off t x=some z →
  ∃v H1 G1,us[off]?=some v∧ah.sub H1 G∧ah.sub G1 G∧P9 w Z t z v H1 G1 (fun b6 bL y u eM=>∀bB,T.setAt off t y x=some bB→T.al b6 bL T.own bB (us.set off u) eM)
 | .int _,_,_,_,_,_,_,_,h=>by simp [ad.getAt] at h
 | .bool,_,_,_,_,_,_,_,h=>by simp [ad.getAt] at h
 | .str,_,_,_,_,_,_,_,h=>by simp [ad.getAt] at h
 | .raw,_,_,_,_,_,_,_,h=>by simp [ad.getAt] at h
 | .sl u,off,t,x,z,us,G,hr,h=>by
  simp only [ad.getAt] at h
  cases hb:Nat.beq off 0
  ·rw [hb] at h;cases h
  rw [hb] at h
  obtain rfl:=Nat.eq_of_beq_eq_true hb
  obtain ⟨e,rfl⟩:=gR h
  subst e
  have iz:=hr
  simp only [ad.own,ad.al] at hr
  obtain ⟨A,c,rfl,_⟩:=hr
  refine⟨_,G,ah.none,rfl,fun _ _ h=>h,fun _ _ h=>h.elim,iz,fun _ _ _ h=>h.elim,fun b6 bL X y kz _ h2 _ bB hs=>?_⟩
  simp only [ad.setAt] at hs
  obtain ⟨e,rfl⟩:=gR (show eG (.sl u) (.sl u) y=some bB from hs)
  exact ad.al.mono (fun _ _ h=>h) _ _ (fun _ _ h=>.inl h) h2
 | .st aj,off,t,x,z,us,G,hr,h=>by
  have ia:aj.flat=false:=by
   cases hf:aj.flat
   ·rfl
   ·exact(ad.wm (.st aj) (by simpa only [ad.flat] using hf) h).elim
  simp only [ad.own,ia,Bool.false_eq_true,if_false,ad.al,a'.parts] at hr
  simp only [ad.getAt] at h
  obtain ⟨v,H1,G1,h1,h2,h3,h4,a7,bh⟩:=ay.tK aj off t hr h
  refine⟨v,H1,G1,h1,h2,h3,h4,a7,fun b6 bL X y kz k1 k2 k3 bB hs=>?_⟩
  simp only [ad.setAt] at hs
  simp only [ad.own,ia,Bool.false_eq_true,if_false,ad.al,a'.parts]
  exact bh b6 bL X y kz k1 k2 k3 bB hs
theorem ay.tK:∀(aj:ay) (off:Nat) (t:ad) {x:aj.D} {z:List t.D} {us:List Value} {G:ah},aj.al w Z aj.own x us G→aj.getAt off t x=some z →
  ∃v H1 G1,us[off]?=some v∧ah.sub H1 G∧ah.sub G1 G∧P9 w Z t z v H1 G1 (fun b6 bL y u eM=>∀bB,aj.setAt off t y x=some bB→aj.al b6 bL aj.own bB (us.set off u) eM)
 | .nil,_,_,_,_,_,_,_,h=>by simp [ay.getAt] at h
 | .cons T aj,off,t,x,z,us,G,hr,h=>by
  simp only [ay.own,ay.al,cU.ag,cU.dx] at hr
  obtain ⟨lC,ib,nt,nu,rfl,bD,cg,hap,ha,hb⟩:=hr
  have hl:=(ad.al.len T _ bD).1
  simp only [ay.getAt] at h
  cases cz:Nat.blt off T.size
  ·rw [cz] at h
   have Ii:T.size≤off:=by
    rcases Nat.lt_or_ge off T.size with h1 | h1
    ·have:Nat.blt off T.size=true:=Nat.ble_eq_true_of_le h1
     rw [this] at cz;cases cz
    ·exact h1
   obtain ⟨v,H1,G1,h1,h2,h3,h4,a7,bh⟩:=ay.tK aj (off-T.size) t cg h
   refine⟨v,H1,nt.or G1,?_,fun b o x=>hb b o (h2 b o x),?_,h4,?_,fun b6 bL X y kz k1 k2 k3 bB hs=>?_⟩
   ·rw [List.getElem?_append_right (by omega),hl];exact h1
   ·rintro b o (y | y)
    ·exact ha b o y
    ·exact hb b o (h3 b o y)
   ·rintro b o y (q | q)
    ·exact hap b o q (h2 b o y)
    ·exact a7 b o y q
   ·simp only [ay.setAt,cz,cond_false] at hs
    obtain ⟨jK,hz,hs⟩:=bg hs
    obtain rfl:=aT hs
    simp only [ay.own,ay.al,cU.ag,cU.dx]
    refine⟨lC,ib.set (off-T.size) kz,nt,X.or G1,by rw [List.set_append_right _ _ (by omega),hl],qo T (k1.mono fun _ _ h=>.inl h) bD,bh b6 bL X y kz (k1.mono fun _ _ h=>.inr h) k2 (fun b o p q=>k3 b o p (.inr q)) jK hz,?_,fun _ _ h=>.inr (.inl h),?_⟩
    ·rintro b o p (q | q)
     ·exact k3 b o q (.inl p)
     ·exact hap b o p (h3 b o q)
    ·rintro b o (q | q)
     ·exact .inl q
     ·exact .inr (.inr q)
  ·rw [cz] at h
   have Ii:off<T.size:=Nat.le_of_ble_eq_true cz
   obtain ⟨v,H1,G1,h1,h2,h3,h4,a7,bh⟩:=ad.tK T off t bD h
   refine⟨v,H1,G1.or nu,?_,fun b o x=>ha b o (h2 b o x),?_,h4,?_,fun b6 bL X y kz k1 k2 k3 bB hs=>?_⟩
   ·rw [List.getElem?_append_left (by omega)];exact h1
   ·rintro b o (y | y)
    ·exact ha b o (h3 b o y)
    ·exact hb b o y
   ·rintro b o y (q | q)
    ·exact a7 b o y q
    ·exact hap b o (h2 b o y) q
   ·simp only [ay.setAt,cz,cond_true] at hs
    obtain ⟨jK,hz,hs⟩:=bg hs
    obtain rfl:=aT hs
    simp only [ay.own,ay.al,cU.ag,cU.dx]
    refine⟨lC.set off kz,ib,X.or G1,nu,by rw [List.set_append_left _ _ (by omega)],bh b6 bL X y kz (k1.mono fun _ _ h=>.inl h) k2 (fun b o p q=>k3 b o p (.inl q)) jK hz,PN aj (k1.mono fun _ _ h=>.inr h) cg,?_,?_,fun _ _ h=>.inr (.inr h)⟩
    ·rintro b o (p | p) q
     ·exact k3 b o p (.inr q)
     ·exact hap b o (h3 b o p) q
    ·rintro b o (q | q)
     ·exact .inl q
     ·exact .inr (.inl q)
end
theorem m7.tK{T:ad}{ys:List T.D}{a:Addr}{c:Nat}{F:ah}{i off:Nat}{t:ad}{z:List t.D}(h:m7 w (T.al w Z T.own) T.size ys a c F)(hi:i<ys.length)(aB:T.getAt off t (J T ys i)=some z) :
  ∃v H1,w.cell? (at_ a.block (a.off+i*T.size+off))=some v∧(ad.sl t).al w Z (.O t.own) z [v] H1∧ah.sub H1 F∧ah.diff F H1 a.block (a.off+i*T.size+off)∧fR w T.size a.block (a.off+i*T.size+off) ∧
   ∀(b6:World) (bL X:ah) (y:List t.D) (bB:T.D) (u:Value),b9 w b6 (fun b o=>ah.diff F H1 b o∧¬(b=a.block∧o=a.off+i*T.size+off))→b6.cell? (at_ a.block (a.off+i*T.size+off))=some u →
    fR b6 T.size a.block (a.off+i*T.size+off)→(ad.sl t).al b6 bL (.O t.own) y [u] X→ah.apart X (ah.diff F H1)→T.setAt off t y (J T ys i)=some bB →
    m7 b6 (T.al b6 bL T.own) T.size (ys.set i bB) a c (X.or (ah.diff F H1)):=by
 rw [c6 hi] at aB ⊢
 obtain ⟨G,g1,g2,g3⟩:=h.row
 obtain ⟨nt,i_,nu,vs,bD,Ij,hvl,b4,cg,a1,a2,a3,s1,s2,s3⟩:=g1.BG i hi
 obtain ⟨v,H1,G1,hv,k1,k2,k3,ba,bt⟩:=ad.tK T off t Ij aB
 have yx:ah.sub H1 G:=fun b o x=>s2 b o (k1 b o x)
 have hle:ys.length*T.size≤c*T.size:=Nat.mul_le_mul_right _ h.cap
 have gE:(i+1)*T.size≤ys.length*T.size:=Nat.mul_le_mul_right _ hi
 rw [Nat.add_one_mul] at gE
 have fx:off<T.size:=by
  rcases Nat.lt_or_ge off T.size with h1 | h1
  ·exact h1
  ·rw [List.getElem?_eq_none (by omega)] at hv;cases hv
 have tB:∀ {A:ah},ah.sub A G→ah.apart A H1→ah.sub A (ah.diff F H1):=fun hA au b o x=>⟨g3 b o (hA b o x),fun y=>au b o x y⟩
 have tC:ah.sub nt (ah.diff F H1):=tB s1 fun b o x y=>a1 b o x (k1 b o y)
 have tD:ah.sub nu (ah.diff F H1):=tB s3 fun b o x y=>a3 b o (k1 b o y) x
 have d1:ah.sub G1 (ah.diff F H1):=tB (fun b o x=>s2 b o (k2 b o x)) fun b o x y=>ba b o y x
 have pq:∀j,j<c*T.size→ah.diff F H1 a.block (a.off+j):=fun j hj=>⟨h.inF j hj,fun y=>g2 j hj (yx _ _ y)⟩
 have hspot:i*T.size+off<c*T.size:=by omega
 have bS:∀ {A:ah},ah.sub A G→∀b o,A b o→¬(b=a.block∧o=a.off+i*T.size+off):=by
  rintro A hA b o x ⟨rfl,rfl⟩
  have:=g2 (i*T.size+off) hspot
  rw [← Nat.add_assoc] at this
  exact this (hA _ _ x)
 refine⟨v,H1,b4 off v hv,k3,fun b o x=>g3 b o (yx b o x),by have:=pq _ hspot;rwa [← Nat.add_assoc] at this,by have:=h.wr _ hspot;rwa [← Nat.add_assoc] at this,fun b6 bL X y bB u hs hu hwr hr hap Ik=>?_⟩
 have ZE:b9 w b6 nt:=fun b o x=>hs b o ⟨tC b o x,bS s1 b o x⟩
 have jM:b9 w b6 nu:=fun b o x=>hs b o ⟨tD b o x,bS s3 b o x⟩
 have ZF:b9 w b6 G1:=fun b o x=>hs b o ⟨d1 b o x,bS (fun b o x=>s2 b o (k2 b o x)) b o x⟩
 have hcell:∀j,j<c*T.size→j≠i*T.size+off→b6.cell? (at_ a.block (a.off+j))=w.cell? (at_ a.block (a.off+j)):=fun j hj hne=>(hs _ _ ⟨pq j hj,fun h=>hne (by omega)⟩).1
 have hw2:∀j,j<c*T.size→fR b6 T.size a.block (a.off+j):=by
  intro j hj
  by_cases hne:j=i*T.size+off
  ·subst hne;rwa [Nat.add_assoc] at hwr
  ·exact hs.kp ⟨pq j hj,fun h=>hne (by omega)⟩ (h.wr j hj)
 have fa:=bt b6 bL X y u ZF hr (fun b o p q=>hap b o p (d1 b o q)) bB Ik
 refine⟨h.spot,by simpa using h.cap,hw2,fun j hj=>.inr (pq j hj),nt.or ((X.or G1).or nu),?_,?_,?_⟩
 ·refine Row.BH i hi (bD.imp (fun y us dm hG hr=>qo T (ZE.mono fun b o p=>hG b o p) hr) fun j hj=>hcell j ?_ ?_) fa (by simpa using hvl) ?_ (cg.imp (fun y us dm hG hr=>qo T (jM.mono fun b o p=>hG b o p) hr) fun j hj=>?_) ?_ a2 ?_
  ·simp only [List.length_take] at hj
   have:min i ys.length*T.size≤ys.length*T.size:=Nat.mul_le_mul_right _ (Nat.min_le_right _ _)
   omega
  ·simp only [List.length_take] at hj
   have:min i ys.length*T.size≤i*T.size:=Nat.mul_le_mul_right _ (Nat.min_le_left _ _)
   omega
  ·intro k q hk
   by_cases P_:k=off
   ·subst P_
    rw [List.getElem?_set_self (by omega)] at hk
    rw [← aT hk];exact hu
   ·rw [List.getElem?_set_ne (by omega)] at hk
    have n_:k<vs.length:=by
     rcases Nat.lt_or_ge k vs.length with h1 | h1
     ·exact h1
     ·rw [List.getElem?_eq_none h1] at hk;cases hk
    have:=hcell (i*T.size+k) (by omega) (by omega)
    rw [← Nat.add_assoc] at this
    rw [this];exact b4 k q hk
  ·simp only [List.length_drop] at hj
   have e1:(ys.length-(i+1))*T.size=ys.length*T.size-(i*T.size+T.size):=by rw [Nat.sub_mul,Nat.add_one_mul]
   rw [e1] at hj
   have:=hcell ((i+1)*T.size+j) (by rw [Nat.add_one_mul];omega) (by rw [Nat.add_one_mul];omega)
   rwa [← Nat.add_assoc] at this
  ·rintro b o p (q | q)
   ·exact hap b o q (tC b o p)
   ·exact a1 b o p (k2 b o q)
  ·rintro b o (p | p) q
   ·exact hap b o p (tD b o q)
   ·exact a3 b o (k2 b o p) q
 ·rintro j hj (p | (p | p) | p)
  ·exact g2 j hj (s1 _ _ p)
  ·exact hap _ _ p (pq j hj)
  ·exact g2 j hj (s2 _ _ (k2 _ _ p))
  ·exact g2 j hj (s3 _ _ p)
 ·rintro b o (p | (p | p) | p)
  ·exact .inr (tC b o p)
  ·exact .inl p
  ·exact .inr (d1 b o p)
  ·exact .inr (tD b o p)
end
section
variable{P:Program}{Q:Exit→Act→World→Prop}
variable{w0:World}{F0 Z0:ah}{n:cD}{s aq:an}{a b_:Act}{w w':World}{ι bf:Nat→bG}{Z Z':ah}
variable{E:Env}{bs : Type}{r : bs}
theorem IL(a:Act){d:Nat}(v:Value)(ag:d<a.tmps.size):(a.put (some d) v).eval (.tmp d)=v:=by
 show(a.tmps.setIfInBounds d v).getD d undef=v
 rw [Hz _ _ _ _ ag,if_pos rfl]
theorem yM(a:Act){d k:Nat}(v:Value)(ag:d<a.tmps.size)(hk:d≠k):(a.put (some d) v).eval (.tmp k)=a.eval (.tmp k):=by
 show(a.tmps.setIfInBounds d v).getD k undef=a.tmps.getD k undef
 rw [Hz _ _ _ _ ag,if_neg hk]
theorem P'(a:Act)(d:Nat)(v:Value):(a.put (some d) v).tmps.size=a.tmps.size:=by
 show(a.tmps.setIfInBounds d v).size=_
 simp
theorem Qa{u t:ad}{dp:List (Nat×Nat)}{p:Place}{xs:List u.D}{v:Value}{jN:List t.D}{s0:an}(h:Inv w0 F0 Z0 n s a w ι Z)(hc:cj w Z s ι (.b1 u dp (some p) xs) v)
  (hl:th t t.own s dp (some p)=some (jN,s0)) :
  ∃(i:Nat) (T:ad) (ver:Nat) (ys:List T.D) (cQ dL:Nat) (H1:ah),p.fa=some i∧s.o p.id=.row T T.own ver ys∧s0=s.bQ p.id (.ch (.row T T.own ver ys))∧i<ys.length∧(ι p.id).base=some (at_ cQ dL) ∧
   Inv w0 F0 Z0 n s0 a w ι Z∧fy s ι Z s0 Z∧bJ w0 F0 s0 w ι Z H1∧bJ w0 F0 s0 w ι Z (ah.diff (ι p.id).F H1)∧(ad.sl t).al w Z (.O t.own) jN [v] H1∧ah.sub H1 (ι p.id).F ∧
   ah.diff (ι p.id).F H1 cQ (dL+i*T.size+p.off)∧fR w T.size cQ (dL+i*T.size+p.off) ∧
   ∀(b6:World) (bL X:ah) (y:List t.D) (bB:T.D) (q:Value),b9 w b6 (fun b o=>ah.diff (ι p.id).F H1 b o∧¬(b=cQ∧o=dL+i*T.size+p.off))→b6.cell? (at_ cQ (dL+i*T.size+p.off))=some q →
    fR b6 T.size cQ (dL+i*T.size+p.off)→(ad.sl t).al b6 bL (.O t.own) y [q] X→ah.apart X (ah.diff (ι p.id).F H1)→T.setAt p.off t y (J T ys i)=some bB →
    m7 b6 (T.al b6 bL T.own) T.size (ys.set i bB) (at_ cQ dL) (ι p.id).cap (X.or (ah.diff (ι p.id).F H1)):=by
 simp only [th] at hl
 cases e8:p.fa with
 | none=>rw [e8] at hl;simp at hl
 | some i =>
  rw [e8] at hl
  cases ho:s.o p.id with
  | row T em ver ys =>
   rw [ho] at hl
   simp only at hl
   cases hb:(alive s dp&&a'.beq em T.own&&a'.beq t.own t.own)
   ·rw [hb] at hl;simp at hl
   rw [hb] at hl
   simp only [cond_true] at hl
   simp only [Bool.and_eq_true] at hb
   obtain rfl:=a'.eq_of_beq _ _ hb.1.2
   obtain ⟨x,hx,hl⟩:=bg hl
   simp only [Option.some.injEq,Prod.mk.injEq] at hl
   obtain ⟨rfl,rfl⟩:=hl
   obtain ⟨_,_,_,kY⟩:=hc
   obtain ⟨_,kY⟩:=kY _ rfl
   obtain ⟨jn,dE,⟨_,fD⟩,hcell,hin⟩:=kY hb.1.1
   simp only [ho,cm.core] at fD
   obtain ⟨ea,hii,kZ,a0,eC,nk⟩:=fD
   rw [e8] at hii
   obtain rfl:=aT hii
   have cc:(s.o p.id).live:=by rw [ho];trivial
   have aB:fy s ι Z (s.bQ p.id (.ch (.row T T.own ver ys))) Z:=by have:=yy (s:=s) (ι := ι) (Z:=Z) cc;rw [ho] at this;exact this
   have fi:bJ w0 F0 (s.bQ p.id (.ch (.row T T.own ver ys))) w ι Z (ι p.id).F:=by have:=h.yz cc;rw [ho] at this;exact this
   have c2:=h.fS p.id
   rw [ho] at c2
   rcases c2 with⟨hx0,_⟩ | ⟨a1,hb1,hr⟩
   ·rw [hx0] at kZ;simp at kZ
   rw [eC] at hb1
   obtain rfl:=aT hb1
   obtain ⟨ab,ao,sp⟩:=a0
   have hsp:=hr.spot
   simp only at hsp
   subst hsp
   obtain ⟨eQ,H1,dS,eK,oo,ZG,ZH,pg⟩:=hr.tK kZ hx
   rw [← nk] at dS
   have Io:eQ=v:=by rw [hcell] at dS;exact(aT dS).symm
   subst Io
   exact⟨i,T,ver,ys,ab,ao,H1,rfl,rfl,rfl,kZ,eC,h.mn aB,aB,fi.sub oo,fi.sub fun _ _ h=>h.1,eK,oo,ZG,ZH,pg⟩
  | _=>rw [ho] at hl;simp at hl
theorem ZI{v:a6}{K:Place→Option bs}(hk:Hn s v K=some r):∃jH,K jH=some r∧∀ {w':World} {Z':ah} {aq:an} {bf:Nat→bG} {x:Value},aQ w' Z' aq bf v x→∃A,x=.pointer (some A)∧jm aq bf jH A:=by
 unfold Hn at hk
 cases v <;> simp only at hk <;> try (cases hk;done)
 ·exact⟨_,hk,fun hv=>by simp only [aQ] at hv;exact hv.2⟩
 ·obtain ⟨k,h1,hk⟩:=bg hk
  obtain ⟨h2,rfl⟩:=P8 h1
  refine⟨_,hk,fun hv=>?_⟩
  simp only [aQ] at hv
  rcases hv.2 with⟨h3,_⟩ | ⟨_,h3⟩
  ·omega
  ·exact h3
theorem ZJ{dE:Oper}{T:ad}{k1 d0 i ver cQ dL:Nat}{p jH:Place}{ys:List T.D}{hv:Value}{s1:an}(my:dE.op=.nilCheck (.tmp k1))(iv:k1≠d0)(jc:d0<n.n)(tL:jH.id=p.id)(BZ:jH.fa=some i)(rS:Inv w0 F0 Z0 n s1 a w' ι Z)
  (IM:∀ {w':World} {Z':ah} {aq:an} {bf:Nat→bG} {x:Value},aQ w' Z' aq bf (s1.t k1) x→∃A,x=.pointer (some A)∧jm aq bf jH A)
  (pz:s1.o p.id=.ch (.row T T.own ver ys)) (eC:(ι p.id).base=some (at_ cQ dL)):(execOp (a.put (some d0) hv).eval dE).run P w'=.ok (.value (.pointer (some (at_ cQ (dL+i*T.size+jH.off))))) w':=by
 obtain ⟨alg,ZK,hsp,mw⟩:=IM (rS.tmps k1)
 rw [tL,pz] at mw
 simp only [cm.core] at mw
 obtain ⟨ea,hii,_,a0,gi,IN⟩:=mw
 rw [hii] at BZ
 obtain rfl:=aT BZ
 rw [eC] at gi
 obtain rfl:=aT gi
 subst IN
 have:(a.put (some d0) hv).eval (.tmp k1)=.pointer (some (at_ cQ (dL+ea*T.size+jH.off))):=by rw [yM _ _ (by rw [rS.size];exact jc) (Ne.symm iv)];exact ZK
 unfold execOp;rw [my];simp only [this];rfl
theorem Qb{dE eH eW:Oper}{aj:ay}{t T u:ad}{d0 d1 d2 m8 m9 oe k i ver cQ dL:Nat}{p:Place}{po:Nat}{ys:List T.D}{y:List t.D}{hv:Value}{G pA:ah}{s1 B0:an}{A:Option Addr}{wF ZL:Nat}{K:an→Option bs}(bM:jL P E)
  (j3:eH.op=.fieldAddr m8 (.tmp d1) oe) (qt:eW.op=.store m9 (.tmp d2) (.tmp d0)) (gh:dE.dst=some d1) (iC:eH.dst=some d2) (pr:eW.dst=none)
  (iw:d0≠d1) (ix:d0≠d2) (jc:d0<n.n) (mz:d1<n.n) (mA:d2<n.n) (tM:E.ty m8=some (.st aj)) (tN:E.ty m9=some (.sl t)) (fx:aj.off oe=some (k,u)) (hz:u.size≠0)
  (j7:po+k=p.off) (e8:p.fa=some i) (kZ:i<ys.length) (rS:Inv w0 F0 Z0 n s1 a w' ι Z)
  (IP:(execOp (a.put (some d0) hv).eval dE).run P w'=.ok (.value (.pointer (some (at_ cQ (dL+i*T.size+po))))) w')
  (pz:s1.o p.id=.ch (.row T T.own ver ys)) (eC:(ι p.id).base=some (at_ cQ dL)) (pB:hv=.slice A ZL wF) (cN:(ad.sl t).al w' Z (.O t.own) y [hv] G)
  (pC:bJ w0 F0 s1 w' ι Z G) (lT:bJ w0 F0 s1 w' ι Z pA) (wG:ah.apart G pA) (wH:pA cQ (dL+i*T.size+p.off)) (B1:fR w' T.size cQ (dL+i*T.size+p.off))
  (wI:∀(b6:World) (bL X:ah) (y:List t.D) (bB:T.D) (q:Value),b9 w' b6 (fun b o=>pA b o∧¬(b=cQ∧o=dL+i*T.size+p.off))→b6.cell? (at_ cQ (dL+i*T.size+p.off))=some q→fR b6 T.size cQ (dL+i*T.size+p.off) →
   (ad.sl t).al b6 bL (.O t.own) y [q] X→ah.apart X pA→T.setAt p.off t y (J T ys i)=some bB→m7 b6 (T.al b6 bL T.own) T.size (ys.set i bB) (at_ cQ dL) (ι p.id).cap (X.or pA))
  (hbk:vL t y (((s1.set d0 .aD).set d1 .aD).set d2 .aD) (some p)=some B0) (hk:K B0=some r) :
  dE.wp P (a.put (some d0) hv) w' (fun a w=>eH.wp P a w (fun a w=>eW.wp P a w (fun a w=>∃aq,K aq=some r∧cY w0 F0 Z0 n aq a w) Q) Q) Q:=by
 have hcl:hv.cells = #[hv]:=by rw [pB];rfl
 have oz:ee hv=true:=by rw [pB];rfl
 have hsz:=rS.size
 have ZM:Inv w0 F0 Z0 n (s1.set d0 .aD) (a.put (some d0) hv) w' ι Z:=rS.set (by simp only [aQ]) jc
 have B2:(a.put (some d0) hv).tmps.size=n.n:=by rw [P'];exact hsz
 unfold Oper.wp
 rw [IP,Oper.upon_value,gh]
 obtain ⟨a2,yN⟩:∃a2,a2=(a.put (some d0) hv).put (some d1) (.pointer (some (at_ cQ (dL+i*T.size+po)))):=⟨_,rfl⟩
 rw [← yN]
 have Qc:a2.tmps.size=n.n:=by rw [yN,P'];exact B2
 have k4:a2.eval (.tmp d1)=.pointer (some (at_ cQ (dL+i*T.size+po))):=by rw [yN];exact IL _ _ (by rw [B2];exact mz)
 have ZN:a2.eval (.tmp d0)=hv:=by rw [yN,yM _ _ (by rw [B2];exact mz) (Ne.symm iw)];exact IL _ _ (by rw [hsz];exact jc)
 obtain ⟨pos,eZ⟩:∃pos,pos=dL+i*T.size+p.off:=⟨_,rfl⟩
 rw [← eZ] at wH B1 wI
 have ZO:(execOp a2.eval eH).run P w'=.ok (.value (.pointer (some (at_ cQ pos)))) w':=by
  obtain ⟨cn,hu,kW⟩:=HU (bM.ty.ty m8 _ tM)
  obtain ⟨alh,h1,h2,h3⟩:=ay.Bq kW fx
  rw [Array.getElem?_toList] at h1
  unfold execOp;rw [j3]
  refine fW ?_
  simp only [Instr.fieldAt,run_bind,run_underlying hu,h1,Instr.sureAddr,k4,run_pure,OY h3 hz,h2,Nat.zero_add]
  rw [eZ,← j7,Nat.add_assoc]
 rw [ZO,Oper.upon_value,iC]
 obtain ⟨a3,B3⟩:∃a3,a3=a2.put (some d2) (.pointer (some (at_ cQ pos))):=⟨_,rfl⟩
 rw [← B3]
 have tO:a3.eval (.tmp d2)=.pointer (some (at_ cQ pos)):=by rw [B3];exact IL _ _ (by rw [Qc];exact mA)
 have ZP:a3.eval (.tmp d0)=hv:=by rw [B3,yM _ _ (by rw [Qc];exact mA) (Ne.symm ix)];exact ZN
 have B4:Inv w0 F0 Z0 n (((s1.set d0 .aD).set d1 .aD).set d2 .aD) a3 w' ι Z:=by
  rw [B3,yN]
  exact(ZM.set (by simp only [aQ]) mz).set (by simp only [aQ]) mA
 have Qd:(execOp a3.eval eW).run P w'=.ok .skip (setCells w' cQ pos [hv]):=by
  unfold execOp;rw [qt]
  have:=HR (P:=P) (w:=w') (bM.ty.ty m9 _ tN) (b:=cQ) (o:=pos) (v:=hv) (by rw [hcl];rfl) (by rw [hcl];intro u hu;simp at hu;rw [hu];exact oz) (fun j hj=>by
   rw [hcl] at hj
   have:j=0:=by simp at hj;omega
   subst this;exact B1.1)
  rw [hcl] at this
  simp only [Instr.storeAt,Instr.sureAddr,tO,ZP,run_bind,run_pure,this]
 have IQ:bJ w0 F0 (((s1.set d0 .aD).set d1 .aD).set d2 .aD) w' ι Z pA:=⟨lT.own,lT.apart,lT.c5⟩
 have pC:bJ w0 F0 (((s1.set d0 .aD).set d1 .aD).set d2 .aD) w' ι Z G:=⟨pC.own,pC.apart,pC.c5⟩
 obtain ⟨fY,hw3⟩:∃fY,fY=setCells w' cQ pos [hv]:=⟨_,rfl⟩
 rw [← hw3] at Qd
 have hx3:Ext w' fY (ah.run cQ pos 1):=by
  rw [hw3]
  exact n9 cQ [hv] w' pos fun j hj=>by
   have:j=0:=by simp at hj;omega
   subst this;exact⟨rfl,by omega,by omega⟩
 have Qe:ah.sub (ah.run cQ pos 1) pA:=by
  rintro b o ⟨rfl,k2,k3⟩
  rw [show o=pos by omega];exact wH
 have IS:Inv w0 F0 Z0 n (((s1.set d0 .aD).set d1 .aD).set d2 .aD) a3 fY ι Z:=B4.By (IQ.sub Qe) hx3
 have ZQ:fY.cell? (at_ cQ pos)=some hv:=by
  rw [hw3,vU cQ [hv] w' pos (fun j hj=>by
   have:j=0:=by simp at hj;omega
   subst this;exact B1.1.1),if_pos ⟨rfl,by omega,by simp⟩]
  simp
 have ZR:b9 w' fY G:=b9.iW hx3 (fun b o aB=>(pC.own b o aB).2) fun b o aB hr=>wG b o aB (Qe b o hr)
 have ZS:(ad.sl t).al fY Z (.O t.own) y [hv] G:=qo (.sl t) ZR cN
 have yO:b9 w' fY (fun b o=>pA b o∧¬(b=cQ∧o=pos)):=by
  refine b9.iW hx3 (fun b o hb=>(IQ.own b o hb.1).2) ?_
  rintro b o ⟨_,hne⟩ ⟨rfl,k2,k3⟩
  exact hne ⟨rfl,by omega⟩
 have IT:(((s1.set d0 .aD).set d1 .aD).set d2 .aD).o p.id=.ch (.row T T.own ver ys):=pz
 simp only [vL,e8] at hbk
 rw [IT] at hbk
 simp only at hbk
 obtain ⟨z,ZT,hbk⟩:=bg hbk
 obtain rfl:=aT hbk
 obtain ⟨Qf,Qg,_⟩:=yE IS (id:=p.id) (o:=.row T T.own (ver+1) (ys.set i z)) (i:=⟨(ι p.id).base,(ι p.id).cap,G.or pA⟩) (by rw [IT];exact fun h=>h) (fun o'=>by simp) (by rw [IT];exact .ry _ _ _ _ _ _ _ _ _ (by omega) (by simp) rfl rfl)
  (fun hm=>.inr ⟨at_ cQ dL,eC,wI fY Z G y z hv yO ZQ (hx3.kp B1) ZS wG ZT⟩) ((pC.ext hx3).or (IQ.ext hx3))
 refine Oper.wp_mono (fun a w hs=>⟨_,hk,?_⟩) (wp_skip Qd Qg (fun k hk=>by rw [pr] at hk;cases hk))
 rw [pr] at hs
 exact hs
def wJ(s:an)(ι : Nat→bG)(X:ah):ah:=fun b o=>X b o∨∃id,(s.o id).live∧(ι id).F b o
theorem Inv.here(h:Inv w0 F0 Z0 n s a w ι Z)(X:ah):Inv w (wJ s ι X) Z n s a w ι Z :=
 ⟨Ext.refl _ _,fun _ _ hz=>.inl hz,fun _ _ h=>h,h.iU,h.fS,fun id hl b o hf=>⟨.inl (.inr ⟨id,hl,hf⟩),(h.own id hl b o hf).2⟩,h.apart,h.c5,h.tmps,h.size,h.ghost,h.seen,h.defers⟩
theorem B5(h:Inv w0 F0 Z0 n s a w ι Z){X:ah}(hX:bJ w0 F0 s w ι Z X){b o:Nat}(hf:wJ s ι X b o∨w.heap.size≤b):F0 b o∨w0.heap.size≤b:=by
 have hsz:=h.ext.size
 rcases hf with(hf | ⟨id,hl,hf⟩) | hf
 ·exact(hX.own b o hf).1
 ·exact(h.own id hl b o hf).1
 ·exact .inr (by omega)
theorem Inv.ZU(h:Inv w0 F0 Z0 n s a w ι Z){X:ah}(hX:bJ w0 F0 s w ι Z X)(h':Inv w (wJ s ι X) Z n aq b_ w' bf Z'):Inv w0 F0 Z0 n aq b_ w' bf Z':=by
 refine⟨h.ext.trans' h'.ext fun i o hf=>B5 h hX (.inl hf),fun b o hz=>?_,fun b o hz=>h'.rv b o (h.rv b o hz),h'.iU,h'.fS,fun id hl b o hf=>⟨B5 h hX (h'.own id hl b o hf).1,(h'.own id hl b o hf).2⟩,h'.apart,h'.c5,h'.tmps,h'.size,h'.ghost,h'.seen,h'.defers⟩
 rcases h'.dF b o hz with h1 | h1
 ·exact h.dF b o h1
 ·exact .inr (B5 h hX h1)
theorem ZV{o dE eH eW:Oper}{c:Call}{aj:ay}{t u ul:ad}{d0 d1 d2 m8 m9 oe k i id:Nat}{p:Place}{po:Nat}{dp:List (Nat×Nat)}{IU:List ul.D}{vb:a6}{cb:a8}{M:an→Bool}{K:an→Option bs}(bM:jL P E)(h:Inv w0 F0 Z0 n s a w ι Z)
  (ho:o.op=.call c) (hc:c.callee=.builtin .append) (lM:c.args.toList.map (bV s)=[.aV (.b1 ul dp (some p) IU),vb]) (gF:vN E c.argTypes.toList=some t) (tA:oneCell t vb=some cb) (tP:o.dst=some d0)
  (j3:eH.op=.fieldAddr m8 (.tmp d1) oe) (qt:eW.op=.store m9 (.tmp d2) (.tmp d0)) (gh:dE.dst=some d1) (iC:eH.dst=some d2) (pr:eW.dst=none)
  (iw:d0≠d1) (ix:d0≠d2) (jc:d0<n.n) (mz:d1<n.n) (mA:d2<n.n) (tM:E.ty m8=some (.st aj)) (tN:E.ty m9=some (.sl t)) (fx:aj.off oe=some (k,u)) (hz:u.size≠0)
  (j7:po+k=p.off) (yP:p.fa=some i)
  (IP:∀ {T:ad} {ver cQ dL:Nat} {ys:List T.D} {s1:an} {dz:Nat→bG} {cq:ah} {nz:World} {hv:Value},Inv w0 F0 Z0 n s1 a nz dz cq→s1.t=s.t→s1.o p.id=.ch (.row T T.own ver ys)→s.o p.id=.row T T.own ver ys→(dz p.id).base=some (at_ cQ dL) →
   (execOp (a.put (some d0) hv).eval dE).run P nz=.ok (.value (.pointer (some (at_ cQ (dL+i*T.size+po))))) nz)
  (hk:Hr id t p dp s cb d0 d1 d2 M K=some r) :
  o.wp P a w (fun a w=>(∃og,M og=true∧cY w0 F0 Z0 n og a w)∧dE.wp P a w (fun a w=>eH.wp P a w (fun a w=>eW.wp P a w (fun a w=>∃aq,K aq=some r∧cY w0 F0 Z0 n aq a w) Q) Q) Q) Q:=by
 have hvs:=tz h c.args.toList
 have Qh:(c.args.map a.eval).toList=c.args.toList.map a.eval:=by simp
 rw [lM] at hvs
 simp only [aY] at hvs
 obtain ⟨PK,_,he,nq,Y6,_,rfl,Ic,rfl⟩:=hvs
 simp only [aQ] at nq
 obtain ⟨hI,h5,rest,e,rN,hu,ca,j5⟩:=PJ bM.ty gF
 have hb1:=Ib tA Ic
 unfold Hr at hk
 cases qn:added s t cb with
 | none=>rw [qn] at hk;cases hk
 | some q =>
 obtain ⟨ku,ys,s1⟩:=q
 rw [qn] at hk
 simp only at hk
 cases mh:a'.beq ku t.own
 ·rw [mh] at hk;cases hk
 rw [mh] at hk
 simp only [cond_true] at hk
 obtain rfl:=a'.eq_of_beq _ _ mh
 obtain ⟨⟨jN,s2⟩,iB,hk⟩:=bg hk
 obtain ⟨s3,ni,hk⟩:=bg hk
 obtain ⟨hroom,hk⟩:=rH hk
 cases j8:M (s3.set d0 .aD)
 ·rw [j8] at hk;cases hk
 rw [j8] at hk
 simp only [cond_true] at hk
 obtain ⟨B0,hbk,IV⟩:=bg hk
 obtain ⟨b2,rfl⟩:=qk ni
 simp only at b2 hbk hroom
 obtain ⟨vs,gT,hlen,ns,hels,h1,hs1,ou⟩:=PB (P:=P) qn h hb1
 have hc1:cj w Z s1 ι (.b1 ul dp (some p) IU) PK:=cj.move hs1.ej nq
 obtain ⟨ea,T,ver,yQ,cQ,dL,H1,e8,dV,ml,kZ,eC,i0,B6,tQ,lT,IW,Qi,wH,IX,wI⟩:=Qa h1 hc1 iB
 rw [e8] at yP
 obtain rfl:=aT yP
 have B7:=ou.tE B6
 have Qj:(s1.o p.id).live:=by rw [dV];trivial
 have lN:ah.apart H1 gT:=fun b o x y=>ou.apart p.id Qj b o y (Qi b o x)
 have Qk:=tQ.or B7
 have ZW:bJ w (wJ s2 ι (H1.or gT)) s2 w ι Z H1:=⟨fun b o x=>⟨.inl (.inl (.inl x)),(tQ.own b o x).2⟩,tQ.apart,tQ.c5⟩
 have ZX:bJ w (wJ s2 ι (H1.or gT)) s2 w ι Z gT:=⟨fun b o x=>⟨.inl (.inl (.inr x)),(B7.own b o x).2⟩,B7.apart,B7.c5⟩
 obtain ⟨eQ,w',mB,hrun,hinv,hcell⟩:=PD (P:=P) (id:=id) (ty:=o.type) (ats:=c.argTypes) (args:=c.args.map a.eval) (by rw [← Array.getElem?_toList,rN];rfl) (by rw [← Array.getElem?_toList,rN];rfl)
  (by rw [← Array.getElem?_toList,Qh,he];rfl) (by rw [← Array.getElem?_toList,Qh,he];rfl) hu ca j5 (Nat.le_of_ble_eq_true hroom) (i0.here _) b2 IW hels ZW ZX lN hlen ns
 have yw:taken (s2.bQ id (.row t t.own 0 (jN++ys))) t (.ag id none)=some (t.own,jN++ys,(s2.bQ id (.row t t.own 0 (jN++ys))).bQ id .dead):=by
  simp only [taken]
  rw [show(s2.bQ id (.row t t.own 0 (jN++ys))).o id=.row t t.own 0 (jN++ys) from cw _ _ _]
  simp only [kR]
  rw [ZD];rfl
 obtain ⟨G,Ql,i4,ali,wK,alj⟩:=PC yw hinv hcell
 have ZY:(s2.bQ id (.row t t.own 0 (jN++ys))).bQ id .dead=s2.bQ id .dead:=by
  show { s2 with o:=bU (bU s2.o id _) id cm.dead } = { s2 with o:=bU s2.o id cm.dead }
  congr 1
  funext j
  by_cases hj:j=id
  ·subst hj;rw [cw,cw]
  ·rw [rl hj,rl hj,rl hj]
 rw [ZY] at i4 wK
 have Qm:p.id≠id:=by
  intro e0
  rw [ml] at b2
  rw [show(s1.bQ p.id (.ch (.row T T.own ver yQ))).o id=.ch (.row T T.own ver yQ) from by rw [e0];exact cw _ _ _] at b2
  cases b2
 have Qn : bU ι id mB p.id = ι p.id:=rl Qm
 have i5:=i0.ZU Qk i4
 have hcl:∀j,((s2.bQ id .dead).o j).live→j≠id∧(s2.o j).live:=by
  intro j hj
  by_cases lU:j=id
  ·subst lU
   rw [show(s2.bQ j .dead).o j=.dead from cw _ _ _] at hj
   exact hj.elim
  ·rw [show(s2.bQ id .dead).o j=s2.o j from rl lU] at hj
   exact⟨lU,hj⟩
 have IY:=hinv.ext
 have hap:∀b o,ah.diff (ι p.id).F H1 b o→wJ s2 ι (H1.or gT) b o→False:=by
  rintro b o ag ((hf | hf) | ⟨j,hj,hf⟩)
  ·exact ag.2 hf
  ·exact ou.apart p.id Qj b o hf ag.1
  ·exact lT.apart j hj b o ag hf
 have pC:bJ w0 F0 (s2.bQ id .dead) w' (bU ι id mB) Z G:=⟨fun b o x=>⟨B5 i0 Qk (wK.own b o x).1,(wK.own b o x).2⟩,wK.apart,wK.c5⟩
 have ZZ:bJ w0 F0 (s2.bQ id .dead) w' (bU ι id mB) Z (ah.diff (ι p.id).F H1):=by
  refine⟨(lT.ext IY).own,fun j hj b o x y=>?_,lT.c5⟩
  obtain ⟨yR,kA⟩:=hcl j hj
  rw [rl yR] at y
  exact lT.apart j kA b o x y
 have wG:ah.apart G (ah.diff (ι p.id).F H1):=by
  intro b o aB ag
  rcases (wK.own b o aB).1 with hf | hf
  ·exact hap b o ag hf
  ·have:=(lT.own b o ag).2;omega
 have yO:b9 w w' (ah.diff (ι p.id).F H1):=b9.iW IY (fun b o hb=>(lT.own b o hb).2) hap
 have yS:=Ql
 simp only [ad.al] at yS
 obtain ⟨A,wF,pB,_⟩:=yS
 have pB:eQ=.slice A (jN++ys).length wF:=by simpa using pB
 have Z1:(execOp a.eval o).run P w=.ok (.value eQ) w':=by
  unfold execOp;rw [ho]
  simp only [run_bind,resolve,hc,run_pure,invoke]
  unfold builtin
  exact fW hrun
 have ht:(s2.bQ id .dead).t=s.t:=by
  show s2.t=s.t
  rw [ml]
  exact hs1.t
 unfold Oper.wp
 rw [Z1,Oper.upon_value,tP]
 have Z2:s2.o p.id=.ch (.row T T.own ver yQ):=by rw [ml];exact cw _ _ _
 have Qo:(s2.bQ id .dead).o p.id=.ch (.row T T.own ver yQ):=by rw [show(s2.bQ id .dead).o p.id=s2.o p.id from rl Qm];exact Z2
 have Qp:(bU ι id mB p.id).base=some (at_ cQ dL):=by rw [Qn];exact eC
 have B8:s.o p.id=.row T T.own ver yQ:=by
  rcases hs1.o p.id with h2 | ⟨_,h2⟩
  ·rw [← h2];exact dV
  ·rw [h2] at dV;cases dV
 refine⟨⟨_,j8,bU ι id mB,Z,i5.set (by simp only [aQ]) jc⟩,?_⟩
 exact Qb bM j3 qt gh iC pr iw ix jc mz mA tM tN fx hz j7 e8 kZ i5 (IP i5 ht Qo B8 Qp) Qo Qp pB Ql pC ZZ wG wH (IY.kp IX)
  (by rw [Qn];exact fun b6 bL X y bB q hs=>wI b6 bL X y bB q ((yO.mono fun _ _ h=>h.1).trans hs)) hbk IV
set_option maxHeartbeats 1000000 in
theorem Z3{o:Oper}{l:List Oper}{K:an→Option bs}(bM:jL P E)(hn:E.n=n)(h:Inv w0 F0 Z0 n s a w ι Z)(hk:Ho E s o l K=some r) :
  ∃dE eH eW l',l=dE :: eH :: eW :: l'∧o.guard=none∧dE.guard=none∧eH.guard=none∧eW.guard=none ∧
   o.wp P a w (fun a w=>dE.wp P a w (fun a w=>eH.wp P a w (fun a w=>eW.wp P a w (fun a w=>∃aq,K aq=some r∧cY w0 F0 Z0 n aq a w) Q) Q) Q) Q:=by
 unfold Ho at hk
 split at hk
 case h_2=>cases hk
 rename_i dE eH eW l'
 refine⟨dE,eH,eW,l',rfl,?_⟩
 split at hk
 case h_2=>cases hk
 rename_i c k1 m8 e1 oe m9 e2 e0 ho my j3 qt
 split at hk
 case h_2=>cases hk
 rename_i bA d0 d1 d2 hc tP gh iC
 cases hb:vR E o dE eH eW k1 e1 e2 e0 d0 d1 d2
 ·rw [hb] at hk;cases hk
 rw [hb] at hk
 simp only [cond_true] at hk
 unfold vR at hb
 simp only [Bool.and_eq_true,Bool.not_eq_true',Option.isNone_iff_eq_none] at hb
 obtain ⟨B9,c8,eJ,iv,iw,ix,g0,g1,g2,g3,pr,jc,mz,mA⟩:=hb
 obtain rfl:=Nat.eq_of_beq_eq_true B9
 obtain rfl:=Nat.eq_of_beq_eq_true c8
 obtain rfl:=Nat.eq_of_beq_eq_true eJ
 have iv:k1≠d0:=Nat.ne_of_beq_eq_false iv
 have iw:d0≠d1:=Nat.ne_of_beq_eq_false iw
 have ix:d0≠d2:=Nat.ne_of_beq_eq_false ix
 have jc:d0<n.n:=by rw [← hn];exact Nat.le_of_ble_eq_true jc
 have mz:d1<n.n:=by rw [← hn];exact Nat.le_of_ble_eq_true mz
 have mA:d2<n.n:=by rw [← hn];exact Nat.le_of_ble_eq_true mA
 refine⟨g0,g1,g2,g3,?_⟩
 split at hk
 case h_2=>cases hk
 rename_i g aj t BY tM tN
 split at hk
 case h_2=>cases hk
 rename_i e k u p Qq fx kY
 obtain ⟨jH,hk,IM⟩:=ZI hk
 cases fD:(!(Nat.beq u.size 0)&&(Nat.beq jH.id p.id&&Nat.beq (jH.off+k) p.off))
 ·rw [fD] at hk;cases hk
 rw [fD] at hk
 simp only [cond_true] at hk
 simp only [Bool.and_eq_true,Bool.not_eq_true'] at fD
 obtain ⟨hz,tL,j7⟩:=fD
 have hz:u.size≠0:=Nat.ne_of_beq_eq_false hz
 have tL:jH.id=p.id:=Nat.eq_of_beq_eq_true tL
 have j7:jH.off+k=p.off:=Nat.eq_of_beq_eq_true j7
 split at hk
 case h_2=>cases hk
 rename_i Z4 Z5 BZ yP
 cases qu:Nat.beq Z4 Z5
 ·rw [qu] at hk;cases hk
 rw [qu] at hk
 simp only [cond_true] at hk
 have hvs:=tz h c.args.toList
 have hf:=e7 h bA
 rw [BY] at hf
 simp only [aQ] at hf
 obtain ⟨cn,cs,II,kW,hcs⟩:=hf
 simp only [aY] at kW hcs
 subst kW hcs
 cases IZ:c.args.toList.map (bV s) with
 | nil=>rw [IZ] at kY;cases kY
 | cons v0 bI =>
  rw [IZ] at kY hk hvs
  cases v0 with
  | aV O7 =>
   cases O7 with
   | b1 dx dp cr xs =>
    simp only [vP] at kY
    subst kY
    simp only [aY] at hvs
    obtain ⟨kz,aU,hus,pw,Qr⟩:=hvs
    simp only [aQ] at pw
    rw [IZ] at Qq
    obtain ⟨ps,rs,f⟩:=e
    cases hm:vQ (pc (a6.aV (a8.b1 dx dp (some p) xs) :: bI)) s t ps (a6.aV (a8.b1 dx dp (some p) xs) :: bI++lA (a6.aV (a8.b1 dx dp (some p) xs) :: bI)) with
    | none=>rw [hm] at hk;cases hk
    | some X =>
     obtain ⟨x,s1,bl⟩:=X
     rw [hm] at hk
     simp only at hk
     cases dU:(alive s1 bl&&od (a6.aV (a8.b1 dx dp (some p) xs) :: bI))
     ·rw [dU] at hk;cases hk
     rw [dU] at hk
     simp only [cond_true] at hk
     simp only [Bool.and_eq_true] at dU
     obtain ⟨dU,IE⟩:=dU
     obtain ⟨bm,ep,hk⟩:=bg hk
     obtain ⟨y,aN,hk⟩:=bg hk
     obtain ⟨B0,hbk,IV⟩:=bg hk
     have IF:=bM.fns g _ _ Qq
     cases ps with
     | nil=>simp [vQ] at hm
     | cons sp ps =>
      cases sp with
      | val T m =>
       cases T with
       | sl di =>
        simp only [List.cons_append,vQ] at hm
        cases B_:(a'.beq m (.O di.own)&&(ad.beq t di&&Hm ps))
        ·rw [B_] at hm;cases hm
        rw [B_] at hm
        simp only [cond_true] at hm
        simp only [Bool.and_eq_true] at B_
        obtain ⟨rM,wa,alk⟩:=B_
        obtain rfl:=a'.eq_of_beq _ _ rM
        obtain rfl:=ad.eq_of_beq _ _ wa
        obtain ⟨⟨jN,s0⟩,iB,hm⟩:=bg hm
        obtain ⟨q,hq,hm⟩:=bg hm
        obtain ⟨c8,alm,nc⟩:=q
        simp only [Option.some.injEq,Prod.mk.injEq] at hm
        obtain ⟨rfl,rfl,rfl⟩:=hm
        obtain ⟨i,T,ver,ys,cQ,dL,H1,e8,dV,hs0,kZ,eC,i0,B6,tQ,lT,IW,Qi,wH,IX,wI⟩:=Qa h pw iB
        have B8:s0.o p.id=.ch (.row T T.own ver ys):=by rw [hs0];exact cw _ _ _
        have Z6:aY w Z s ι (lA (a6.aV (a8.b1 dx dp (some p) xs) :: bI)) (f' (kz :: aU)):=IB IE (by simp only [aY];exact⟨kz,aU,rfl,by simpa only [aQ] using pw,Qr⟩)
        have aln:∃A m' c',kz=.slice A m' c':=pw.2.1
        obtain ⟨mx,eY,cq,i1,wL,Qs,_,Qt,_,_,_,Z7,src⟩:=qq ps _ _ s0 Z [] _ hq i0 (aY.move B6.ej (Qr.append Z6)) (by simp)
        simp only at i1 wL Qs Qt Z7 src
        have Z8:=tQ.tE wL
        have I0:=lT.tE wL
        have cc:=BU dU
        have tT:bJ w0 F0 s1 w ι cq (H1.or mx):=Z8.or Qt
        have I1:∀ {X:ah},bJ w0 F0 s0 w ι Z X→∀b o,X b o→mx b o→False:=by
         intro X hX b o hx hj
         obtain ⟨id,hl,hf⟩:=src b o (.inl hj)
         exact hX.apart id hl b o hx hf
        have hA:gw w (cq.or (dg ι bl)) (pc (a6.aV (a8.b1 dx dp (some p) xs) :: bI)) (.val (.sl t) (.O t.own) :: ps) (jN,c8) (c.args.toList.map a.eval++f' (c.args.toList.map a.eval)) (H1.or mx):=by
         rw [hus]
         exact⟨[kz],aU++f' (kz :: aU),H1,mx,rfl,ad.al.mono (fun b o hz=>.inl (wL.dF b o hz)) _ _ (fun _ _ h=>h) IW,Qs,fun b o x y=>I1 tQ b o x y,fun _ _ h=>.inl h,fun _ _ h=>.inr h⟩
        obtain ⟨rfl,rfl⟩:∃e:rs=[.val (.sl t) (.O t.own)],y=(e ▸ bm:(cX.outs [.val (.sl t) (.O t.own)] (bC.dZ (.val (.sl t) (.O t.own) :: ps))).D).1:=by
         cases rs with
         | nil=>simp [yh] at aN
         | cons BM rs =>
          cases BM with
          | val ib Z9 =>
           cases rs with
           | cons=>simp [yh] at aN
           | nil =>
            simp only [yh] at aN
            cases mh:a'.beq Z9 (.O t.own)
            ·rw [mh] at aN;cases aN
            rw [mh] at aN
            obtain rfl:=a'.eq_of_beq _ _ mh
            obtain ⟨e,rfl⟩:=Bd aN
            subst e
            exact⟨rfl,rfl⟩
          | _=>simp [yh] at aN
        have hcall:=IF.calls w (cq.or (dg ι bl)) (H1.or mx) (jN,c8) (c.args.toList.map a.eval) bm
         (by
          rintro b o (hz | ⟨d,ag,hf⟩)
          ·exact i1.iU b o hz
          ·exact(i1.own d.1 (cc d ag) b o hf).2)
         (fun b o hf=>(tT.own b o hf).2)
         (by
          rintro b o hf (hz | hz)
          ·exact tT.c5 b o hf hz
          ·exact tT.dg cc b o hf hz) hA ep
        suffices key:∀(eQ:Value) (w':World),Ends w (cq.or (dg ι bl)) (H1.or mx) ⟨.val (.sl t) (.O t.own) :: ps,[.val (.sl t) (.O t.own)],f⟩ (c.args.toList.map a.eval) bm eQ w' →
          dE.wp P (a.put o.dst eQ) w' (fun a w=>eH.wp P a w (fun a w=>eW.wp P a w (fun a w=>∃aq,K aq=some r∧cY w0 F0 Z0 n aq a w) Q) Q) Q by
         unfold Oper.wp
         have hrun:(execOp a.eval o).run P w=(callFunc g (c.args.toList.map a.eval).toArray).run P w:=by
          unfold execOp;rw [ho]
          simp only [run_bind,resolve,hc,II,Deferred.ofValue,run_pure,invoke]
          congr 2
          apply Array.ext'
          simp
         rw [hrun]
         rcases hcall with⟨⟨fn,yL,IJ,jb⟩,hcall⟩ | ⟨alo,w',tJ,gI,yv,hu⟩
         ·have IK:(callFunc g (c.args.toList.map a.eval).toArray).run P w=.ok (.enter g (c.args.toList.map a.eval).toArray) w:=by
           simp only [callFunc,run_bind,run_pure,program,Sem.run,yL]
           rw [if_neg (by rw [jb];simp),if_neg (by rw [IJ];simp)]
           simp only [run_pure]
          rw [IK,Oper.upon_enter]
          refine hcall.mono ?_
          rintro alp w' ⟨v9,rfl,hu⟩
          exact key v9 w' hu
         ·rw [tJ,Oper.upon_value]
          cases yv
          exact key _ w' hu
        rintro eQ w' ⟨⟨dr,Z',F',rfl,hx,jr,hz2,hf2,yK,hK⟩⟩
        simp only [ic] at hK
        obtain ⟨vs1,eb,G,Z_,rfl,cN,⟨rfl,_⟩,_,hGF,_⟩:=hK
        have yS:=cN
        simp only [ad.al] at yS
        obtain ⟨A,wF,rfl,_⟩:=yS
        obtain ⟨hv,pB⟩:∃hv,hv=Value.slice A bm.1.length wF:=⟨_,rfl⟩
        rw [← pB] at cN
        rw [show ow [dH (.sl t) [Value.slice A bm.1.length wF]]=hv from pB.symm]
        have rS:Inv w0 F0 Z0 n s1 a w' ι cq:=i1.By tT hx
        rw [tP]
        have B':s1.t=s.t:=wL.t.trans B6.t
        have pz:s1.o p.id=.ch (.row T T.own ver ys):=by
         rcases wL.o p.id with h1 | ⟨h1,_⟩
         ·rw [h1,B8]
         ·rw [B8] at h1;exact h1.elim
        rw [e8] at yP
        obtain rfl:=aT yP
        obtain rfl:=Nat.eq_of_beq_eq_true qu
        have fe:ah.sub G F':=hGF
        have wG:ah.apart G (ah.diff (ι p.id).F H1):=by
         intro b o aB ag
         rcases (hf2 b o (fe b o aB)).1 with(hf | hf) | hf
         ·exact ag.2 hf
         ·exact I1 lT b o ag hf
         ·have:=(I0.own b o ag).2;omega
        have pC:bJ w0 F0 s1 w' ι cq G:=by
         have alq:=i1.ext.size
         refine⟨fun b o aB=>⟨?_,(hf2 b o (fe b o aB)).2⟩,fun id hl b o aB hi=>?_,fun b o aB hz=>?_⟩
         ·rcases (hf2 b o (fe b o aB)).1 with hf | hf
          ·exact(tT.own b o hf).1
          ·exact .inr (by omega)
         ·rcases (hf2 b o (fe b o aB)).1 with hf | hf
          ·exact tT.apart id hl b o hf hi
          ·have:=(i1.own id hl b o hi).2;omega
         ·rcases (hf2 b o (fe b o aB)).1 with hf | hf
          ·exact tT.c5 b o hf hz
          ·have:=i1.iU b o hz;omega
        have yO:b9 w w' (ah.diff (ι p.id).F H1):=b9.iW hx (fun b o hb=>(I0.own b o hb).2) (by
         rintro b o ag (hf | hf)
         ·exact ag.2 hf
         ·exact I1 lT b o ag hf)
        exact Qb bM j3 qt gh iC pr iw ix jc mz mA tM tN fx hz j7 e8 kZ rS (ZJ my iv jc tL BZ rS (by rw [B'];exact IM) pz eC) pz eC pB (qo (.sl t) (b9.refl _ _) cN) pC (I0.ext hx) wG wH (hx.kp IX)
         (fun b6 bL X y bB q hs=>wI b6 bL X y bB q ((yO.mono fun _ _ h=>h.1).trans hs)) hbk IV
       | _=>simp [vQ] at hm
      | _=>simp [vQ] at hm
   | _=>simp [vP] at kY
  | _=>simp [vP] at kY
theorem aaa{dE:Oper}{T:ad}{vS k1 k2 d0 i m ver cQ dL:Nat}{p:Place}{sub:Option (Nat×Nat)}{ys:List T.D}{q:Int}{hv:Value}{s1:an}(bZ:gS P E)(gF:E.ty vS=some (.sl T))(my:dE.op=.indexAddr vS (.tmp k1) (.tmp k2))(iv:k1≠d0)(I2:k2≠d0)(jc:d0<n.n)
  (hx:s1.t k1=.aV (.ag p.id sub)) (hq:kt (s1.t k2)=some q) (hm:aM (ly sub ys) q=some m) (hi:ei sub+m=i) (h:Inv w0 F0 Z0 n s1 a w ι Z)
  (pz:s1.o p.id=.ch (.row T T.own ver ys)) (eC:(ι p.id).base=some (at_ cQ dL)):(execOp (a.put (some d0) hv).eval dE).run P w=.ok (.value (.pointer (some (at_ cQ (dL+i*T.size+0))))) w:=by
 obtain ⟨e,hu,jo⟩:=lK (bZ.ty vS _ gF)
 have h1:=h.tmps k1
 have h2:=h.tmps k2
 rw [hx] at h1
 simp only [aQ] at h1
 obtain ⟨_,A,len,c,iY,hh⟩:=h1
 obtain ⟨g1,g2,g3,g4,g5⟩:=hh T T.own ver ys (by rw [pz];rfl)
 obtain ⟨cP,v_⟩:=rG hq h2
 have hl:ly sub ys=len:=by
  cases sub with
  | none=>simp [ly,g1]
  | some p=>obtain ⟨lo,l⟩:=p;simp [ly,g1]
 rw [hl] at hm
 obtain ⟨h2,h3,rfl,h4⟩:=ym hm
 rcases g5 with g5 | ⟨a0,gi,rfl⟩
 ·omega
 rw [eC] at gi
 obtain rfl:=aT gi
 unfold execOp;rw [my]
 refine fW ?_
 rw [yM _ _ (by rw [h.size];exact jc) (Ne.symm iv),yM _ _ (by rw [h.size];exact jc) (Ne.symm I2)]
 have e1:a.eval (.tmp k1)=a.tmps.getD k1 undef:=rfl
 have e2:a.eval (.tmp k2)=a.tmps.getD k2 undef:=rfl
 rw [e1,e2,iY,v_]
 have:=HY (P:=P) (w:=w) (A:=at_ cQ (dL+ei sub*T.size)) (b:=cQ) (o:=dL+ei sub*T.size) (c:=c) (k:=cP) hu jo h2 h3
 rw [← hi,Nat.add_zero,Nat.add_mul,← Nat.add_assoc]
 exact this
theorem aab{o dE eH eW:Oper}{id:Nat}{M:an→Bool}{K:an→Option bs}(bM:jL P E)(hn:E.n=n)(h:Inv w0 F0 Z0 n s a w ι Z)(hk:Hs E id s o dE eH eW M K=some r) :
  o.guard=none∧dE.guard=none∧eH.guard=none∧eW.guard=none ∧
   o.wp P a w (fun a w=>(∃og,M og=true∧cY w0 F0 Z0 n og a w)∧dE.wp P a w (fun a w=>eH.wp P a w (fun a w=>eW.wp P a w (fun a w=>∃aq,K aq=some r∧cY w0 F0 Z0 n aq a w) Q) Q) Q) Q:=by
 unfold Hs at hk
 split at hk
 case h_2=>cases hk
 rename_i c vS k1 k2 m8 e1 oe m9 e2 e0 ho my j3 qt
 split at hk
 case h_2=>cases hk
 rename_i d0 d1 d2 hc tP gh iC
 cases hb:(vR E o dE eH eW k1 e1 e2 e0 d0 d1 d2 && !(Nat.beq k2 d0))
 ·rw [hb] at hk;cases hk
 rw [hb] at hk
 simp only [cond_true] at hk
 unfold vR at hb
 simp only [Bool.and_eq_true,Bool.not_eq_true',Option.isNone_iff_eq_none] at hb
 obtain ⟨⟨B9,c8,eJ,iv,iw,ix,g0,g1,g2,g3,pr,jc,mz,mA⟩,I2⟩:=hb
 obtain rfl:=Nat.eq_of_beq_eq_true B9
 obtain rfl:=Nat.eq_of_beq_eq_true c8
 obtain rfl:=Nat.eq_of_beq_eq_true eJ
 have jc:d0<n.n:=by rw [← hn];exact Nat.le_of_ble_eq_true jc
 have mz:d1<n.n:=by rw [← hn];exact Nat.le_of_ble_eq_true mz
 have mA:d2<n.n:=by rw [← hn];exact Nat.le_of_ble_eq_true mA
 refine⟨g0,g1,g2,g3,?_⟩
 split at hk
 case h_2=>cases hk
 rename_i lC aj t hI ul dp p IU vb aac tM tN gF lM
 split at hk
 case h_2=>cases hk
 rename_i k u cb i sub q v em ver xs j fx tA hx1 om dV e8
 cases fD:(ad.beq hI t&&(ad.beq lC v&&(!(Nat.beq u.size 0)&&(Nat.beq i p.id&&Nat.beq k p.off))))
 ·rw [fD] at hk;cases hk
 rw [fD] at hk
 simp only [cond_true] at hk
 simp only [Bool.and_eq_true,Bool.not_eq_true'] at fD
 obtain ⟨ht,wB,hz,tL,j7⟩:=fD
 obtain rfl:=ad.eq_of_beq _ _ ht
 obtain rfl:=ad.eq_of_beq _ _ wB
 obtain rfl:=Nat.eq_of_beq_eq_true tL
 obtain ⟨m,hm,hk⟩:=bg hk
 cases qu:Nat.beq (ei sub+m) j
 ·rw [qu] at hk;cases hk
 rw [qu] at hk
 simp only [cond_true] at hk
 have qu:=Nat.eq_of_beq_eq_true qu
 refine ZV (po:=0) bM h ho hc lM gF tA tP j3 qt gh iC pr (Nat.ne_of_beq_eq_false iw) (Nat.ne_of_beq_eq_false ix) jc mz mA tM tN fx (Nat.ne_of_beq_eq_false hz) (by rw [Nat.zero_add];exact Nat.eq_of_beq_eq_true j7) e8 ?_ hk
 intro T nj cQ dL ys s1 dz cq nz hv h1 B' pz Qu hb1
 rw [dV] at Qu
 obtain ⟨rfl,_,_,h4⟩:=cm.row.inj Qu
 have h4:=eq_of_heq h4
 subst h4
 exact aaa bM.ty aac my (Nat.ne_of_beq_eq_false iv) (Nat.ne_of_beq_eq_false I2) jc (by rw [B'];exact hx1) (by rw [B'];exact om) hm qu h1 pz hb1
end
end Go.LM
