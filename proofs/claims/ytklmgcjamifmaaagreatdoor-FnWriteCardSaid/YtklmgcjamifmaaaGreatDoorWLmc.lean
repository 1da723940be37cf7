/- Calls are what the interpreter says. Conditions: each theorem's own hypotheses. -/
import Derived.Test.YtklmgcjamifmaaaGreatDoorWLmb
set_option linter.unusedVariables false
set_option linter.unusedSimpArgs false
namespace Go.LM
def gf:List Value→List Value
 | []=>[]
 | .func _ a b :: l=>a.toList++b.toList++gf l
 | _ :: l=>gf l
def gB(w:World)(Z:ah)(key:Nat):(ps:List bA)→(bA.ins ps).D→List Value→ah→Prop
 | [],_,us,_=>us=[]
 | .fn mc pc :: ps,x,us,F=>∃a b aS,us=.func (.func key) a b :: aS∧(a.size=mc∧b.size=pc)∧gB w Z key ps x aS F
 | .val t m :: ps,x,us,F=>∃vs aS G H,us=dK t vs :: aS∧t.al w Z m x.1 vs G∧gB w Z key ps x.2 aS H∧ah.apart G H∧ah.sub G F∧ah.sub H F
 | .hR t :: ps,x,us,F=>∃vs aS G H,us=dK t vs :: aS∧t.al w Z .R x.1 vs G∧gB w Z key ps x.2 aS H∧ah.apart G H∧ah.sub G F∧ah.sub H F
 | .hQ t m :: ps,x,us,F=>∃vs aS G H,us=dK t vs :: aS∧t.al w Z m x.1 vs G∧gB w Z key ps x.2 aS H∧ah.apart G H∧ah.sub G F∧ah.sub H F
 | .ref t :: ps,x,us,F=>∃b o vs aS,us=.pointer (some (at_ b o)) :: aS∧b3 w b o vs∧t.al w Z .R x.1 vs ah.none∧(∀j,j<t.size→Z b (o+j))∧gB w Z key ps x.2 aS F
 | .mut t m _ :: ps,x,us,F=>∃b o vs aS G H,us=.pointer (some (at_ b o)) :: aS∧b3 w b o vs∧(∀j,j<t.size→fk w b (o+j))∧t.al w Z m x.1 vs G∧gB w Z key ps x.2 aS H ∧
   ah.apart (G.or (ah.run b o t.size)) H∧ah.apart G (ah.run b o t.size)∧ah.sub (G.or (ah.run b o t.size)) F∧ah.sub H F
def iB(w:World)(Z:ah):(ps:List bA)→List Value→(bA.d' ps).D→ah→Prop
 | [],_,_,_=>True
 | .mut t _ m' :: ps,us,x,F=>∃b o vs aS G H,us=.pointer (some (at_ b o)) :: aS∧b3 w b o vs∧t.al w Z m' x.1 vs G∧iB w Z ps aS x.2 H ∧
   ah.apart (G.or (ah.run b o t.size)) H∧ah.apart G (ah.run b o t.size)∧ah.sub (G.or (ah.run b o t.size)) F∧ah.sub H F
 | .hQ t m :: ps,us,x,F=>∃vs aS G H,us=dK t vs :: aS∧t.al w Z m x.1 vs G∧iB w Z ps aS x.2 H∧ah.apart G H∧ah.sub G F∧ah.sub H F
 | .val _ _ :: ps,us,x,F=>∃u aS,us=u :: aS∧iB w Z ps aS x F
 | .hR _ :: ps,us,x,F=>∃u aS,us=u :: aS∧iB w Z ps aS x F
 | .ref _ :: ps,us,x,F=>∃u aS,us=u :: aS∧iB w Z ps aS x F
 | .fn _ _ :: ps,us,x,F=>∃u aS,us=u :: aS∧iB w Z ps aS x F
def Il(w:World)(us:List Value)(a off size:Nat)(x:Int)(v:Value):Prop :=
 (x<0∧v=.pointer none)∨(0≤x∧∃b o jc dH n c,us[a]?=some (.pointer (some (at_ b o)))∧w.cell? (at_ b (o+off))=some (.slice (some (at_ jc dH)) n c)∧x.toNat<n∧v=.pointer (some (at_ jc (dH+x.toNat*size))))
def iw(w:World)(Z:ah)(ps:List bA)(us:List Value):(rs:List cW)→(cW.outs rs (bA.d' ps)).D→List Value→ah→Prop
 | [],x,dr,F=>dr=[]∧iB w Z ps us x F
 | .val t m :: rs,x,dr,F=>∃vs ec G H,dr=dK t vs :: ec∧t.al w Z m x.1 vs G∧iw w Z ps us rs x.2 ec H∧ah.apart G H∧ah.sub G F∧ah.sub H F
 | .opt a off t :: rs,x,dr,F=>∃v ec,dr=v :: ec∧Il w us a off t.size x.1 v∧iw w Z ps us rs x.2 ec F
 | .any t :: rs,x,dr,F=>∃v ec,dr=v :: ec∧(v.cells.toList.length=t.size∧∀u∈v.cells.toList,ee u=true)∧iw w Z ps us rs x ec F
 | .pd t :: rs,x,dr,F=>∃v ec,dr=v :: ec∧((x.1=[]∧v=.pointer none)∨∃y b o vs,x.1=[y]∧v=.pointer (some (at_ b o))∧b3 w b o vs∧t.al w Z .R y vs ah.none∧∀j,j<t.size→Z b (o+j))∧iw w Z ps us rs x.2 ec F
 | .new t m :: rs,x,dr,F=>∃b o vs ec G H,dr=.pointer (some (at_ b o)) :: ec∧b3 w b o vs∧(∀j,j<t.size→fk w b (o+j))∧t.al w Z m x.1 vs G∧iw w Z ps us rs x.2 ec H ∧
   ah.apart (G.or (ah.run b o t.size)) H∧ah.apart G (ah.run b o t.size)∧ah.sub (G.or (ah.run b o t.size)) F∧ah.sub H F
def ou:List Value→Value
 | [v]=>v
 | l=>.tuple l.toArray
structure Ends(w:World)(Z F:ah)(e:Entry)(us:List Value)(r:(cW.outs e.rs (bA.d' e.ps)).D)(v:Value)(w':World):Prop where
 out:∃dr Z' F',v=ou dr∧Ext w w' F∧ah.sub Z Z'∧(∀b o,Z' b o→Z b o∨((F b o∨w.heap.size≤b)∧b<w'.heap.size))∧(∀b o,F' b o→(F b o∨w.heap.size≤b)∧b<w'.heap.size) ∧
  ah.apart F' Z'∧iw w' Z' e.ps (us++gf us) e.rs r dr F'
structure Sound(P:Program)(f:FuncId)(key:Nat)(e:Entry):Prop where
 fn:∃fn,P.funcs[f]?=some fn∧fn.body.isNone=false∧(fn.name == "runtime.NumGoroutine")=false
 calls:∀(w:World) (Z F:ah) (x:(bA.ins e.ps).D) (us:List Value) (r:(cW.outs e.rs (bA.d' e.ps)).D),
  (∀b o,Z b o→b<w.heap.size)→(∀b o,F b o→b<w.heap.size)→ah.apart F Z→gB w Z key e.ps x (us++gf us) F→e.f x=some r →
  Calls P f us.toArray w fun end_ w'=>∃v,end_=.returned v∧Ends w Z F e us r v w'
def wy(P:Program)(f:FuncId)(us:Array Value)(w:World)(R:Ending→World→Prop):Prop :=
 ((∃fn,P.funcs[f]?=some fn∧fn.body.isNone=false∧(fn.name == "runtime.NumGoroutine")=false)∧Calls P f us w R)∨∃v w',(callFunc f us).run P w=.ok (.value v) w'∧R (.returned v) w'
structure ij(P:Program)(f:FuncId)(key:Nat)(e:Entry):Prop where
 calls:∀(w:World) (Z F:ah) (x:(bA.ins e.ps).D) (us:List Value) (r:(cW.outs e.rs (bA.d' e.ps)).D),
  (∀b o,Z b o→b<w.heap.size)→(∀b o,F b o→b<w.heap.size)→ah.apart F Z→gB w Z key e.ps x (us++gf us) F→e.f x=some r →
  wy P f us.toArray w fun end_ w'=>∃v,end_=.returned v∧Ends w Z F e us r v w'
theorem Sound.x{P:Program}{f:FuncId}{key:Nat}{e:Entry}(h:Sound P f key e):ij P f key e :=
 ⟨fun w Z F x us r h1 h2 h3 h4 a8=>.inl ⟨h.fn,h.calls w Z F x us r h1 h2 h3 h4 a8⟩⟩
instance {P:Program} {f:FuncId} {key:Nat} {e:Entry} : Coe (Sound P f key e) (ij P f key e):=⟨Sound.x⟩
section
variable{P:Program}{Q:Exit→Act→World→Prop}
variable{w0:World}{F0 Z0:ah}{n:cC}{s ar:aq}{a b7:Act}{w w':World}{ι bb:Nat→bH}{Z Z':ah}
theorem gB.mono{key:Nat}(hZ:ah.sub Z Z'):∀(ps:List bA) {x:(bA.ins ps).D} {us:List Value} {F F':ah},ah.sub F F'→gB w Z key ps x us F→gB w Z' key ps x us F'
 | [],_,_,_,_,_,h=>h
 | .fn _ _ :: ps,_,_,_,_,hF,h=>by
  obtain ⟨a,b,aS,h1,h0,h2⟩:=h
  exact⟨a,b,aS,h1,h0,gB.mono hZ ps hF h2⟩
 | .val t m :: ps,_,_,_,_,hF,h=>by
  obtain ⟨vs,aS,G,H,h1,h2,h3,h4,a8,bl⟩:=h
  exact⟨vs,aS,G,H,h1,ad.al.mono hZ _ _ (fun _ _ h=>h) h2,gB.mono hZ ps (fun _ _ h=>h) h3,h4,fun b o h=>hF b o (a8 b o h),fun b o h=>hF b o (bl b o h)⟩
 | .hR t :: ps,_,_,_,_,hF,h=>by
  obtain ⟨vs,aS,G,H,h1,h2,h3,h4,a8,bl⟩:=h
  exact⟨vs,aS,G,H,h1,ad.al.mono hZ _ _ (fun _ _ h=>h) h2,gB.mono hZ ps (fun _ _ h=>h) h3,h4,fun b o h=>hF b o (a8 b o h),fun b o h=>hF b o (bl b o h)⟩
 | .hQ t m :: ps,_,_,_,_,hF,h=>by
  obtain ⟨vs,aS,G,H,h1,h2,h3,h4,a8,bl⟩:=h
  exact⟨vs,aS,G,H,h1,ad.al.mono hZ _ _ (fun _ _ h=>h) h2,gB.mono hZ ps (fun _ _ h=>h) h3,h4,fun b o h=>hF b o (a8 b o h),fun b o h=>hF b o (bl b o h)⟩
 | .ref t :: ps,_,_,_,_,hF,h=>by
  obtain ⟨b,o,vs,aS,h1,h2,h3,h4,a8⟩:=h
  exact⟨b,o,vs,aS,h1,h2,ad.al.mono hZ _ _ (fun _ _ h=>h) h3,fun j hj=>hZ _ _ (h4 j hj),gB.mono hZ ps hF a8⟩
 | .mut t m m' :: ps,_,_,_,_,hF,h=>by
  obtain ⟨b,o,vs,aS,G,H,h1,h2,h3,h4,a8,bl,bK,cV,jK⟩:=h
  exact⟨b,o,vs,aS,G,H,h1,h2,h3,ad.al.mono hZ _ _ (fun _ _ h=>h) h4,gB.mono hZ ps (fun _ _ h=>h) a8,bl,bK,fun b o h=>hF b o (cV b o h),fun b o h=>hF b o (jK b o h)⟩
structure fB(s:aq)(ι : Nat→bH)(Z:ah)(ar:aq)(Z':ah):Prop where
 o:∀id,ar.o id=s.o id∨((s.o id).live∧(ar.o id=.dead∨ar.o id=.cf (s.o id)))
 t:ar.t=s.t
 g:ar.g=s.g
 dI:ah.sub Z Z'
 pg:∀b o,Z' b o→Z b o∨∃id,(s.o id).live∧¬(ar.o id).live∧(ι id).F b o
theorem fb.mw(h:fb s ι Z ar Z'):fB s ι Z ar Z' :=
 ⟨fun id=>(h.o id).imp (fun h=>h) fun h=>⟨h.1,.inl h.2⟩,h.t,h.g,h.dI,fun b o hz=>(h.pg b o hz).imp (fun h=>h) fun⟨id,h1,h2,h3⟩=>⟨id,h1,by rw [h2];exact Zo,h3⟩⟩
where Zo:¬cn.live .dead:=fun h=>h
theorem fB.refl:fB s ι Z s Z:=fb.mw .refl
theorem fB.live(h:fB s ι Z ar Z'){id:Nat}(hl:(ar.o id).live):(s.o id).live∧ar.o id=s.o id:=by
 rcases h.o id with h1 | ⟨_,h1 | h1⟩
 ·exact⟨h1 ▸ hl,h1⟩
 ·rw [h1] at hl;exact hl.elim
 ·rw [h1] at hl;exact hl.elim
theorem fB.trans{s2:aq}{bN:ah}(h:fB s ι Z ar Z')(k:fB ar ι Z' s2 bN):fB s ι Z s2 bN:=by
 refine⟨fun id=>?_,k.t.trans h.t,k.g.trans h.g,fun b o hz=>k.dI b o (h.dI b o hz),fun b o hz=>?_⟩
 ·rcases k.o id with h1 | ⟨h0,h1⟩
  ·rw [h1];exact h.o id
  ·obtain ⟨h2,h3⟩:=h.live h0
   rw [h3] at h1
   exact .inr ⟨h2,h1⟩
 ·rcases k.pg b o hz with h1 | ⟨id,h1,h2,h3⟩
  ·rcases h.pg b o h1 with h1 | ⟨id,h1,h2,h3⟩
   ·exact .inl h1
   ·exact .inr ⟨id,h1,fun hl=>h2 (k.live hl).1,h3⟩
  ·exact .inr ⟨id,(h.live h1).1,h2,h3⟩
theorem fB.ei(h:fB s ι Z ar Z'):eI w Z s ι w Z' ar ι := by
 refine⟨fun id=>?_,h.dI,b4.refl _ _⟩
 rcases h.o id with h1 | ⟨h0,h1 | h1⟩
 ·rw [h1];exact .stay _ _
 ·rw [h1];exact .dead _ _ _
 ·rw [h1];exact .fl _ _ h0
theorem bL.tJ{F:ah}(hf:bL w0 F0 s w ι Z F)(h:fB s ι Z ar Z'):bL w0 F0 ar w ι Z' F:=by
 refine⟨hf.own,fun id hl=>hf.apart id (h.live hl).1,fun b o h1 h2=>?_⟩
 rcases h.pg b o h2 with h3 | ⟨id,h3,_,h4⟩
 ·exact hf.c2 b o h1 h3
 ·exact hf.apart id h3 b o h1 h4
theorem yA{id:Nat}(hl:(s.o id).live):fB s ι Z (s.bR id (.cf (s.o id))) Z:=by
 refine⟨fun j=>?_,rfl,rfl,fun _ _ h=>h,fun _ _ h=>.inl h⟩
 by_cases hj:id=j
 ·subst hj;exact .inr ⟨hl,.inr (cB _ _ _)⟩
 ·exact .inl (cR hj)
theorem Inv.mw(h:Inv w0 F0 Z0 n s a w ι Z)(aA:fB s ι Z ar Z'):Inv w0 F0 Z0 n ar a w ι Z':=by
 have hm:eI w Z s ι w Z' ar ι := aA.ei
 refine h.next hm (Ext.refl _ ah.none) (fun _ _ h=>h.elim) ?_ ?_ ?_ (fun k=>by rw [aA.t];exact(h.tmps k).move hm) h.size h.defers aA.g
 ·intro b o hz
  rcases aA.pg b o hz with h1 | ⟨id,h1,_,h3⟩
  ·exact .inl h1
  ·exact .inr (h.own id h1 b o h3)
 ·intro id hl hne;exact absurd ⟨(aA.live hl).2,rfl⟩ hne
 ·intro id hl b o h1 h2
  obtain ⟨dW,_⟩:=aA.live hl
  rcases aA.pg b o h2 with h3 | ⟨j,h3,h4,a8⟩
  ·exact h.c2 id dW b o h1 h3
  ·have hne:id≠j:=fun e=>h4 (e ▸ hl)
   exact h.apart id j dW h3 hne b o h1 a8
theorem Inv.yB(h:Inv w0 F0 Z0 n s a w ι Z){id:Nat}(hl:(s.o id).live):bL w0 F0 (s.bR id (.cf (s.o id))) w ι Z (ι id).F:=by
 refine⟨h.own id hl,fun j hj=>?_,h.c2 id hl⟩
 have hj':(bU s.o id (cn.cf (s.o id)) j).live:=hj
 by_cases hne:id=j
 ·subst hne;rw [cB] at hj';exact hj'.elim
 ·rw [cR hne] at hj'
  exact h.apart id j hl hj' hne
def wz(g:Bool)(w:World)(Z:ah)(s:aq)(ι : Nat→bH)(t:ad)(p:Place)(u:Value)(H:ah):Prop :=
 ∃ver old b o vs,(g=true→¬(s.o p.id).live)∧(∀eC,s.o p.id=.cf eC→eC=.var ver old∧(ι p.id).base=some (at_ b o))∧p.e_=none∧u=.pointer (some (at_ b (o+p.off)))∧p.off+t.size≤old.length∧bM w Z s ι old vs ∧
  (∀j,j<old.length→fk w b (o+j))∧(∀j,j<old.length→(j<p.off∨p.off+t.size≤j)→H b (o+j)) ∧
  (∀(j:Nat) (v:Value),vs[j]?=some v→(j<p.off∨p.off+t.size≤j)→w.cell? (at_ b (o+j))=some v)
def wA(g:Bool)(w:World)(Z:ah)(s:aq)(ι : Nat→bH)(t:ad)(m:ba)(p:Place)(u:Value)(H:ah):Prop :=
 ∃ver xs i b o c G1 G2,(g=true→¬(s.o p.id).live)∧(∀eC,s.o p.id=.cf eC→eC=.row t m ver xs∧(ι p.id).base=some (at_ b o)∧(ι p.id).cap=c)∧p.e_=some i∧i<xs.length∧u=.pointer (some (at_ b (o+i*t.size)))∧xs.length≤c ∧
  (∀j,j<c*t.size→fS w t.size b (o+j))∧(∀j,j<c*t.size→(j<i*t.size∨(i+1)*t.size≤j)→H b (o+j)) ∧
  Row w (t.al w Z m) t.size (xs.take i) b o G1∧Row w (t.al w Z m) t.size (xs.drop (i+1)) b (o +(i+1)*t.size) G2∧ah.apart G1 G2∧ah.sub G1 H∧ah.sub G2 H ∧
  (∀j,j<c*t.size→¬G1 b (o+j)∧¬G2 b (o+j))
def Zp(g:Bool)(s:aq)(ι : Nat→bH)(t:ad)(e:ba)(ct:Option Place)(v:Value)(H:ah)(w:World):Prop :=
 ∃(p:Place) (i:Nat) (T:ad) (ver:Nat) (ys:List T.D) (b o c:Nat),ct=some p∧p.e_=some i∧(g=true→¬(s.o p.id).live)∧(∀eC,s.o p.id=.cf eC→eC=.row T T.own ver ys∧(ι p.id).base=some (at_ b o)∧(ι p.id).cap=c)∧i<ys.length∧e=t.own ∧
  ∀(b5:World) (bN X:ah) (y:List t.D) (bF:T.D),b4 w b5 H→(ad.sl t).al b5 bN (.O t.own) y [v] X→ah.apart X H→T.setAt p.off t y (J T ys i)=some bF→m9 b5 (T.al b5 bN T.own) T.size (ys.set i bF) (at_ b o) c (X.or H)
mutual
def cY(g:Bool)(w:World)(Z:ah)(s:aq)(ι : Nat→bH):(t:ad)→ba→List a_→List Value→ah→Prop
 | .sl t,.O e,cs,vs,H=>∃c v,cs=[c]∧vs=[v]∧match c with
  | .nil _=>v=.slice none 0 0
  | .ag id none=>∃ver xs A k c,(g=true→¬(s.o id).live)∧(∀eC,s.o id=.cf eC→eC=.row t e ver xs∧(ι id).cap=c∧Hw (ι id) t.size none xs.length A xs.length k)∧v=.slice A xs.length k ∧
    ((xs=[]∧c=0)∨∃b o,(∀eC,s.o id=.cf eC→(ι id).base=some (at_ b o))∧xs.length≤c∧k≤c∧(k=0∨A=some (at_ b o))∧(∀j,j<c*t.size→fS w t.size b (o+j))∧(∀j,k*t.size≤j→j<c*t.size→H b (o+j)))
  | .b1 _ _ ct _=>Zp g s ι t e ct v H w
  | _=>False
 | .sl _,_,_,_,_=>False
 | .st aj,m,cs,vs,H=>fI g w Z s ι aj m.parts cs vs H
 | _,_,cs,vs,_=>cs.length=1∧vs.length=1
def fI(g:Bool)(w:World)(Z:ah)(s:aq)(ι : Nat→bH):(aj:ax)→cU→List a_→List Value→ah→Prop
 | .nil,_,cs,vs,_=>cs=[]∧vs=[]
 | .cons t aj,m,cs,vs,H=>∃c1 gJ v1 v2 H1 H2,cs=c1++gJ∧vs=v1++v2∧cY g w Z s ι t m.ag c1 v1 H1∧fI g w Z s ι aj m.dv gJ v2 H2∧ah.apart H1 H2∧ah.sub H1 H∧ah.sub H2 H
end
def eW(g:Bool)(w:World)(Z:ah)(s:aq)(ι : Nat→bH):(ps:List bA)→List a7→List Value→ah→Prop
 | [],_,_,_=>True
 | .mut t m m' :: ps,vs,us,H=>∃p bJ u aS H1 H2,vs=.ptr p :: bJ∧us=u :: aS∧(wz g w Z s ι t p u H1∨(m'=m∧m=t.own∧wA g w Z s ι t m p u H1))∧eW g w Z s ι ps bJ aS H2∧ah.apart H1 H2∧ah.sub H1 H∧ah.sub H2 H
 | .hQ t m :: ps,vs,us,H=>∃v bJ u aS cs H1 H2,vs=v :: bJ∧us=u :: aS∧iX t v=some cs∧m=t.own∧cY g w Z s ι t m cs u.cells.toList H1∧eW g w Z s ι ps bJ aS H2∧ah.apart H1 H2∧ah.sub H1 H∧ah.sub H2 H
 | _ :: ps,vs,us,H=>∃v bJ u aS,vs=v :: bJ∧us=u :: aS∧eW g w Z s ι ps bJ aS H
end
end Go.LM
namespace Go.LM
section
variable{P:Program}{Q:Exit→Act→World→Prop}
variable{g:Bool}{w0:World}{F0 Z0:ah}{n:cC}{s ar:aq}{a b7:Act}{w w':World}{ι bb:Nat→bH}{Z Z':ah}
structure gN(g:Bool)(w:World)(Z:ah)(s:aq)(ι : Nat→bH)(w':World)(Z':ah)(ar:aq)(bb:Nat→bH)(H:ah):Prop where
 az:∀x v,aP w Z s ι x v→aP w' Z' ar bb x v
 cell:∀c v,cj w Z s ι c v→cj w' Z' ar bb c v
 dI:ah.sub Z Z'
 cf:∀id o',(g=true→¬(s.o id).live)→ar.o id=.cf o'→s.o id=.cf o' ∧ bb id = ι id
 nl:g=true→∀id,¬(s.o id).live→¬(ar.o id).live
 same:b4 w w' H
 BJ:b4 w w' Z
 wr:∀b o,fk w b o→fk w' b o
 yC:∀z b o,fS w z b o→fS w' z b o
theorem gN.mono{H fW:ah}(h:gN g w Z s ι w' Z' ar bb H)(hs:ah.sub fW H):gN g w Z s ι w' Z' ar bb fW:=⟨h.az,h.cell,h.dI,h.cf,h.nl,h.same.mono hs,h.BJ,h.wr,h.yC⟩
theorem wz.move{t:ad}{p:Place}{u:Value}{H fW:ah}(h:gN g w Z s ι w' Z' ar bb H)(cD:ah.sub H fW)(hk:wz g w Z s ι t p u H):wz g w' Z' ar bb t p u fW:=by
 obtain ⟨ver,old,b,o,vs,h0,h1,h2,h4,a8,bl,bK,cV,jK⟩:=hk
 have hl:=bl.len
 refine⟨ver,old,b,o,vs,fun aA=>h.nl aA _ (h0 aA),fun eC bZ=>?_,h2,h4,a8,bM.mono h.cell bl,fun j hj=>h.wr _ _ (bK j hj),fun j hj hh=>cD _ _ (cV j hj hh),fun j v hv hh=>?_⟩
 ·obtain ⟨dN,ek⟩:=h.cf _ _ h0 bZ
  rw [ek];exact h1 eC dN
 have hj:j<old.length:=by
  rcases Nat.lt_or_ge j vs.length with h | h
  ·omega
  ·rw [List.getElem?_eq_none h] at hv;simp at hv
 rw [(h.same _ _ (cV j hj hh)).1]
 exact jK j v hv hh
theorem wA.move{t:ad}{m:ba}{p:Place}{u:Value}{H fW:ah}(h:gN g w Z s ι w' Z' ar bb H)(cD:ah.sub H fW)(hk:wA g w Z s ι t m p u H):wA g w' Z' ar bb t m p u fW:=by
 obtain ⟨ver,xs,i,b,o,c,G1,G2,h0,h1,h2,h3,a8,bl,bK,cV,jK,j_,yD,lP,wB,wC⟩:=hk
 have cM:∀(G:ah),ah.sub G H→∀y us dj,ah.sub dj G→t.al w Z m y us dj→t.al w' Z' m y us dj:=fun G hG y us dj HK hr =>
  ad.al.mono h.dI _ _ (fun _ _ h=>h) (ad.al.same h.BJ _ _ (h.same.mono fun b o aA=>hG b o (HK b o aA)) hr)
 have hcap:(i+1)*t.size≤c*t.size:=Nat.mul_le_mul_right _ (by omega)
 have hcell:∀j,j<c*t.size→(j<i*t.size∨(i+1)*t.size≤j)→w'.cell? (at_ b (o+j))=w.cell? (at_ b (o+j)):=fun j hj hh=>(h.same _ _ (cV j hj hh)).1
 refine⟨ver,xs,i,b,o,c,G1,G2,fun aA=>h.nl aA _ (h0 aA),fun eC bZ=>?_,h2,h3,a8,bl,fun j hj=>h.yC _ _ _ (bK j hj),fun j hj hh=>cD _ _ (cV j hj hh),?_,?_,yD,fun b o aA=>cD b o (lP b o aA),fun b o aA=>cD b o (wB b o aA),wC⟩
 ·obtain ⟨dN,ek⟩:=h.cf _ _ h0 bZ
  rw [ek];exact h1 eC dN
 ·refine jK.imp (cM G1 lP) fun j hj=>hcell j ?_ (.inl ?_)
  all_goals
   have:(xs.take i).length=i:=by simp;omega
   rw [this] at hj
   rw [Nat.add_one_mul] at hcap
   omega
 ·refine j_.imp (cM G2 wB) fun j hj=>?_
  have hle:xs.length*t.size≤c*t.size:=Nat.mul_le_mul_right _ bl
  have e1:(xs.drop (i+1)).length=xs.length-(i+1):=by simp
  rw [e1,Nat.sub_mul] at hj
  have:=hcell ((i+1)*t.size+j) (by omega) (.inr (by omega))
  rwa [← Nat.add_assoc] at this
mutual
theorem cY.move{H fW:ah}(h:gN g w Z s ι w' Z' ar bb H)(cD:ah.sub H fW):∀(t:ad) (m:ba) {cs:List a_} {vs:List Value},cY g w Z s ι t m cs vs H→cY g w' Z' ar bb t m cs vs fW
 | .int _,_,_,_,hk=>by simp only [cY] at hk ⊢;exact hk
 | .bool,_,_,_,hk=>by simp only [cY] at hk ⊢;exact hk
 | .str,_,_,_,hk=>by simp only [cY] at hk ⊢;exact hk
 | .raw,_,_,_,hk=>by simp only [cY] at hk ⊢;exact hk
 | .sl t,.R,_,_,hk=>by simp only [cY] at hk
 | .sl t,.S _,_,_,hk=>by simp only [cY] at hk
 | .sl t,.O e,_,_,hk=>by
  simp only [cY] at hk ⊢
  obtain ⟨c,v,h1,h2,hk⟩:=hk
  refine⟨c,v,h1,h2,?_⟩
  cases c with
  | nil=>exact hk
  | ag id sub =>
   cases sub with
   | some=>exact hk
   | none =>
    obtain ⟨ver,xs,A,k,c,mr,k1,k2,bg⟩:=hk
    refine⟨ver,xs,A,k,c,fun aA=>h.nl aA _ (mr aA),fun eC bZ=>?_,k2,?_⟩
    ·obtain ⟨dN,ek⟩:=h.cf _ _ mr bZ
     rw [ek];exact k1 eC dN
    rcases bg with bg | ⟨b,o,c7,eJ,iD,iE,iF,py⟩
    ·exact .inl bg
    ·right
     refine⟨b,o,fun eC bZ=>?_,eJ,iD,iE,fun j hj=>h.yC _ _ _ (iF j hj),fun j h1 h2=>cD _ _ (py j h1 h2)⟩
     obtain ⟨dN,ek⟩:=h.cf _ _ mr bZ
     rw [ek];exact c7 eC dN
  | b1 u dp ct xs =>
   obtain ⟨p,i,T,ver,ys,b,o,c,au,hi,mr,k1,k2,k3,bg⟩:=hk
   refine⟨p,i,T,ver,ys,b,o,c,au,hi,fun aA=>h.nl aA _ (mr aA),fun eC bZ=>?_,k2,k3,fun b5 bN X y bF c7 eJ iD iE=>?_⟩
   ·obtain ⟨dN,ek⟩:=h.cf _ _ mr bZ
    rw [ek];exact k1 eC dN
   ·have:=bg b5 bN X y bF (h.same.trans (c7.mono cD)) eJ (fun b o x y=>iD b o x (cD b o y)) iE
    obtain ⟨G,g1,g2,g3⟩:=this.row
    exact⟨this.spot,this.cap,this.wr,fun j hj=>(this.inF j hj).imp (fun h=>h) (cD _ _),G,g1,g2,fun b o x=>(g3 b o x).imp (fun h=>h) (cD b o)⟩
  | _=>exact hk
 | .st aj,m,_,_,hk=>by simp only [cY] at hk ⊢;exact fI.move h cD aj m.parts hk
theorem fI.move{H fW:ah}(h:gN g w Z s ι w' Z' ar bb H)(cD:ah.sub H fW):∀(aj:ax) (m:cU) {cs:List a_} {vs:List Value},fI g w Z s ι aj m cs vs H→fI g w' Z' ar bb aj m cs vs fW
 | .nil,_,_,_,hk=>by simp only [fI] at hk ⊢;exact hk
 | .cons t aj,m,_,_,hk=>by
  simp only [fI] at hk ⊢
  obtain ⟨c1,gJ,v1,v2,H1,H2,h1,h2,h3,h4,a8,bl,bK⟩:=hk
  exact⟨c1,gJ,v1,v2,H1,H2,h1,h2,cY.move (h.mono bl) (fun _ _ h=>h) t m.ag h3,fI.move (h.mono bK) (fun _ _ h=>h) aj m.dv h4,a8,fun b o x=>cD b o (bl b o x),fun b o x=>cD b o (bK b o x)⟩
end
theorem eW.move{H fW:ah}(h:gN g w Z s ι w' Z' ar bb H)(cD:ah.sub H fW):∀(ps:List bA) {vs:List a7} {us:List Value},eW g w Z s ι ps vs us H→eW g w' Z' ar bb ps vs us fW
 | [],_,_,_=>trivial
 | .mut t m m' :: ps,_,_,⟨p,bJ,u,aS,H1,H2,h1,h2,h3,h4,a8,bl,bK⟩=>⟨p,bJ,u,aS,H1,H2,h1,h2,h3.imp (wz.move (h.mono bl) (fun _ _ h=>h)) (fun hk=>⟨hk.1,hk.2.1,wA.move (h.mono bl) (fun _ _ h=>h) hk.2.2⟩),eW.move (h.mono bK) (fun _ _ h=>h) ps h4,a8,fun b o x=>cD b o (bl b o x),fun b o x=>cD b o (bK b o x)⟩
 | .hQ t m :: ps,_,_,⟨v,bJ,u,aS,cs,H1,H2,h1,h2,h3,ov,h4,a8,bl,bK,cV⟩=>⟨v,bJ,u,aS,cs,H1,H2,h1,h2,h3,ov,cY.move (h.mono bK) (fun _ _ h=>h) t m h4,eW.move (h.mono cV) (fun _ _ h=>h) ps a8,bl,fun b o x=>cD b o (bK b o x),fun b o x=>cD b o (cV b o x)⟩
 | .val _ _ :: ps,_,_,⟨v,bJ,u,aS,h1,h2,h3⟩=>⟨v,bJ,u,aS,h1,h2,eW.move h cD ps h3⟩
 | .hR _ :: ps,_,_,⟨v,bJ,u,aS,h1,h2,h3⟩=>⟨v,bJ,u,aS,h1,h2,eW.move h cD ps h3⟩
 | .ref _ :: ps,_,_,⟨v,bJ,u,aS,h1,h2,h3⟩=>⟨v,bJ,u,aS,h1,h2,eW.move h cD ps h3⟩
 | .fn _ _ :: ps,_,_,⟨v,bJ,u,aS,h1,h2,h3⟩=>⟨v,bJ,u,aS,h1,h2,eW.move h cD ps h3⟩
theorem fB.held(h:fB s ι Z ar Z')(H:ah):gN true w Z s ι w Z' ar ι H:=by
 refine⟨fun _ _=>aP.move h.ei,fun _ _=>cj.move h.ei,h.dI,fun id o' hn ho=>⟨?_,rfl⟩,fun _ id hn hl=>hn (h.live hl).1,b4.refl _ _,b4.refl _ _,fun _ _ h=>h,fun _ _ _ h=>h⟩
 rcases h.o id with h1 | ⟨h0,_⟩
 ·rw [← h1,ho]
 ·exact absurd h0 (hn rfl)
def Im(w0:World)(F0 Z0:ah)(n:cC)(s:aq)(a:Act)(w:World)(ι : Nat→bH)(Z:ah)(R:List Value→ah→Prop)(BK:aq→List a_→List Value→ah→Prop)(cs:List a_)(vs:List Value)(cs':List a_)(ar:aq):Prop :=
 ∃c1 us bJ F H,cs=c1++cs'∧vs=us++bJ∧Inv w0 F0 Z0 n ar a w ι Z∧fB s ι Z ar Z∧bM w Z ar ι cs' bJ∧bL w0 F0 ar w ι Z F∧bL w0 F0 ar w ι Z H∧ah.apart F H ∧
  R us F∧BK ar c1 us H∧∀b o,F b o∨H b o→∃id,(s.o id).live∧(ι id).F b o
theorem BL{R:List Value→ah→Prop}{BK:aq→List a_→List Value→ah→Prop}{c:a_}{v:Value}{cs':List a_}{bJ:List Value}(h:Inv w0 F0 Z0 n s a w ι Z)(hc:bM w Z s ι cs' bJ)
  (dM:R [v] ah.none) (Io:BK s [c] [v] ah.none):Im w0 F0 Z0 n s a w ι Z R BK (c :: cs') (v :: bJ) cs' s :=
 ⟨[c],[v],bJ,ah.none,ah.none,rfl,rfl,h,.refl,hc,.none,.none,fun _ _ h=>h.elim,dM,Io,fun _ _ h=>h.elim (fun h=>h.elim) fun h=>h.elim⟩
mutual
theorem ad.yE:∀(t:ad) (m:ba) (cs:List a_) (s:aq) (r:t.D×List a_×aq) (vs:List Value),t.fl m cs s=some r→Inv w0 F0 Z0 n s a w ι Z→bM w Z s ι cs vs →
  Im w0 F0 Z0 n s a w ι Z (fun us F=>t.al w Z m r.1 us F) (fun s c us H=>cY true w Z s ι t m c us H) cs vs r.2.1 r.2.2
 | .int k,m,cs,s,r,vs,hi,h,hc=>by
  match cs,vs,hc with
  | [],_,_=>simp [ad.fl] at hi
  | _ :: _,[],hc=>exact hc.elim
  | c :: cs,v :: vs,hc =>
   cases c <;> simp only [ad.fl] at hi <;> try (simp at hi;done)
   rename_i k' x
   cases hb:Nat.beq (dq k) (dq k')
   ·rw [hb] at hi;simp at hi
   rw [hb] at hi
   obtain rfl:=aU hi
   have:=Bt hb
   subst this
   have hv:v=.int k x:=hc.1
   exact BL h hc.2 (by simp only [ad.al];rw [hv]) (by simp only [cY];exact⟨rfl,rfl⟩)
 | .bool,m,cs,s,r,vs,hi,h,hc=>by
  match cs,vs,hc with
  | [],_,_=>simp [ad.fl] at hi
  | _ :: _,[],hc=>exact hc.elim
  | c :: cs,v :: vs,hc =>
   cases c <;> simp only [ad.fl] at hi <;> try (simp at hi;done)
   obtain rfl:=aU hi
   have hv:=hc.1
   simp only [cj] at hv
   exact BL h hc.2 (by simp only [ad.al];rw [hv]) (by simp only [cY];exact⟨rfl,rfl⟩)
 | .str,m,cs,s,r,vs,hi,h,hc=>by
  match cs,vs,hc with
  | [],_,_=>simp [ad.fl] at hi
  | _ :: _,[],hc=>exact hc.elim
  | c :: cs,v :: vs,hc =>
   cases c <;> simp only [ad.fl] at hi <;> try (simp at hi;done)
   obtain rfl:=aU hi
   have hv:=hc.1
   obtain ⟨kA,hv,hx⟩:=hv
   exact BL h hc.2 (by simp only [ad.al];exact⟨kA,by rw [hv],hx⟩) (by simp only [cY];exact⟨rfl,rfl⟩)
 | .raw,m,cs,s,r,vs,hi,h,hc=>by cases cs <;> cases m <;> simp [ad.fl] at hi
 | .sl t,m,cs,s,r,vs,hi,h,hc=>by
  match cs,vs,hc with
  | [],_,_=>cases m <;> simp [ad.fl] at hi
  | _ :: _,[],hc=>exact hc.elim
  | c :: cs,v :: vs,hc =>
   cases m with
   | R=>simp [ad.fl] at hi
   | S=>simp [ad.fl] at hi
   | O e =>
    cases c with
    | nil u =>
     simp only [ad.fl] at hi
     obtain ⟨x,hx,hi⟩:=bf hi
     obtain ⟨e1,rfl⟩:=g_ hx
     subst e1
     obtain rfl:=aU hi
     have hv:v=.slice none 0 0:=hc.1
     refine BL h hc.2 ?_ ?_
     ·simp only [ad.al];exact⟨none,0,by rw [hv];rfl,.inl (by simp)⟩
     ·simp only [cY];exact⟨_,_,rfl,rfl,hv⟩
    | ag id sub =>
     cases sub with
     | some=>simp [ad.fl] at hi
     | none =>
      simp only [ad.fl] at hi
      cases ho:s.o id with
      | row u em ver xs =>
       rw [ho] at hi
       simp only at hi
       cases hb:ba.beq em e
       ·rw [hb] at hi;simp at hi
       rw [hb] at hi
       simp only [cond_true] at hi
       have:=ba.eq_of_beq _ _ hb
       subst this
       obtain ⟨x,hx,hi⟩:=bf hi
       obtain ⟨e1,rfl⟩:=g_ hx
       subst e1
       obtain rfl:=aU hi
       have b9:(s.o id).live:=by rw [ho];trivial
       have aA:fB s ι Z (s.bR id (.cf (.row u em ver xs))) Z:=by have:=yA (s:=s) (ι := ι) (Z:=Z) b9;rw [ho] at this;exact this
       have fg:bL w0 F0 (s.bR id (.cf (.row u em ver xs))) w ι Z (ι id).F:=by have:=h.yB b9;rw [ho] at this;exact this
       have cZ:=h.fT id
       rw [ho] at cZ
       obtain ⟨_,A,m',k,hv,hh⟩:=hc.1
       have hh:=hh u em ver xs (lD ho)
       have nq:=v_ cZ hh
       have pz:m'=xs.length:=hh.OV
       subst pz
       have mx:(s.bR id (.cf (.row u em ver xs))).o id=.cf (.row u em ver xs):=cB _ _ _
       simp only [ad.al,kT] at nq
       obtain ⟨pt,k',lE,nq⟩:=nq
       simp only [List.cons.injEq,Value.slice.injEq,and_true,true_and] at lE
       obtain ⟨rfl,rfl⟩:=lE
       rcases cZ with⟨hx0,Zq⟩ | ⟨⟨b,o,sp⟩,eD,hr⟩
       ·refine⟨[.ag id none],[v],vs,ah.none,ah.none,rfl,rfl,h.mw aA,aA,hc.2.move aA.ei,.none,.none,fun _ _ h=>h.elim,?_,?_,fun _ _ h=>h.elim (fun h=>h.elim) fun h=>h.elim⟩
        ·simp only [ad.al]
         have hk0:k=0:=by have:=hh.cap;omega
         exact⟨A,k,by rw [hv],.inl ⟨hx0,hk0⟩⟩
        ·simp only [cY]
         exact⟨_,_,rfl,rfl,ver,xs,A,k,_,fun _=>by rw [mx];exact fun h=>h,fun eC bZ=>by rw [mx] at bZ;exact⟨(cn.cf.inj bZ).symm,rfl,hh⟩,hv,.inl ⟨hx0,Zq⟩⟩
       ·have hsp:=hr.spot
        simp only at hsp
        subst hsp
        have Zr:k*u.size≤(ι id).cap*u.size:=Nat.mul_le_mul_right _ (by have:=hh.cap;simp only [eh] at this;omega)
        let T:ah:=ah.run b (o+k*u.size) ((ι id).cap*u.size-k*u.size)
        refine⟨[.ag id none],[v],vs,ah.diff (ι id).F T,fun b o=>(ι id).F b o∧T b o,rfl,rfl,h.mw aA,aA,hc.2.move aA.ei,fg.sub fun _ _ h=>h.1,fg.sub fun _ _ h=>h.1,fun b o h1 h2=>h1.2 h2.2,?_,?_,?_⟩
        ·simp only [ad.al]
         refine⟨A,k,by rw [hv],?_⟩
         rcases nq with nq | ⟨⟨b',o',sp⟩,hA,iH⟩
         ·exact .inl nq
         ·rcases hh.at_ with hk0 | ⟨a1,ns,tK⟩
          ·exact .inl ⟨List.eq_nil_of_length_eq_zero (by have:=hh.le;omega),hk0⟩
          ·right
           rw [eD] at ns
           obtain rfl:=aU ns
           rw [hA] at tK
           simp only [eh,Nat.zero_mul,Nat.add_zero,Option.some.injEq,at_,Addr.mk.injEq] at tK
           obtain ⟨rfl,rfl,rfl⟩:=tK
           obtain ⟨G,g1,g2,g3⟩:=hr.row
           refine⟨_,hA,rfl,iH.cap,iH.wr,fun j hj=>⟨iH.inF j hj,?_⟩,G,g1,fun j hj=>g2 j (by omega),fun b o aA=>⟨g3 b o aA,?_⟩⟩
           ·rintro ⟨_,h1,_⟩;simp only at h1;omega
           ·rintro ⟨rfl,h1,h2⟩
            have:=g2 (o-o') (by omega)
            simp only at this
            rw [show o' +(o-o')=o by omega] at this
            exact this aA
        ·simp only [cY]
         refine⟨_,_,rfl,rfl,ver,xs,A,k,(ι id).cap,fun _=>by rw [mx];exact fun h=>h,fun eC bZ=>by rw [mx] at bZ;exact⟨(cn.cf.inj bZ).symm,rfl,hh⟩,hv,.inr ⟨b,o,fun _ _=>eD,hr.cap,by have:=hh.cap;simp only [eh] at this;omega,?_,hr.wr,fun j h1 h2=>⟨hr.inF j h2,rfl,by omega,by omega⟩⟩⟩
         rcases hh.at_ with h0 | ⟨a1,ns,tK⟩
         ·exact .inl h0
         ·rw [eD] at ns
          obtain rfl:=aU ns
          right;rw [tK];simp [eh,at_]
        ·rintro b o (hf | hf)
         ·exact⟨id,b9,hf.1⟩
         ·exact⟨id,b9,hf.1⟩
      | _=>rw [ho] at hi;simp at hi
    | b1 u dp ct xs =>
     simp only [ad.fl] at hi
     obtain ⟨BM,iJ,hi⟩:=bf hi
     obtain rfl:=aU hi
     cases ct with
     | none=>simp [tm] at iJ
     | some p =>
      simp only [tm] at iJ
      cases e6:p.e_ with
      | none=>rw [e6] at iJ;simp at iJ
      | some i =>
       rw [e6] at iJ
       cases ho:s.o p.id with
       | row T em ver ys =>
        rw [ho] at iJ
        simp only at iJ
        cases hb:(alive s dp&&ba.beq em T.own&&ba.beq e t.own)
        ·rw [hb] at iJ;simp at iJ
        rw [hb] at iJ
        simp only [cond_true] at iJ
        simp only [Bool.and_eq_true] at hb
        obtain rfl:=ba.eq_of_beq _ _ hb.1.2
        obtain rfl:=ba.eq_of_beq _ _ hb.2
        obtain ⟨x,hx,iJ⟩:=bf iJ
        obtain rfl:=aU iJ
        obtain ⟨_,_,_,k5⟩:=hc.1
        obtain ⟨_,k5⟩:=k5 _ rfl
        obtain ⟨cO,dP,⟨_,fH⟩,hcell,hin⟩:=k5 hb.1.1
        simp only [ho,cn.core] at fH
        obtain ⟨cz,hii,k6,a0,eD,nm⟩:=fH
        rw [e6] at hii
        obtain rfl:=aU hii
        have b9:(s.o p.id).live:=by rw [ho];trivial
        have aA:fB s ι Z (s.bR p.id (.cf (.row T T.own ver ys))) Z:=by have:=yA (s:=s) (ι := ι) (Z:=Z) b9;rw [ho] at this;exact this
        have fg:bL w0 F0 (s.bR p.id (.cf (.row T T.own ver ys))) w ι Z (ι p.id).F:=by have:=h.yB b9;rw [ho] at this;exact this
        have cZ:=h.fT p.id
        rw [ho] at cZ
        rcases cZ with⟨hx0,_⟩ | ⟨a1,hb1,hr⟩
        ·rw [hx0] at k6;simp at k6
        rw [eD] at hb1
        obtain rfl:=aU hb1
        obtain ⟨ab,ao,sp⟩:=a0
        have hsp:=hr.spot
        simp only at hsp
        subst hsp
        obtain ⟨eQ,H1,dN,ek,mm,pn⟩:=hr.lens k6 hx
        rw [← nm] at dN
        have Ip:eQ=v:=by rw [hcell] at dN;exact(aU dN).symm
        subst Ip
        have mx:(s.bR p.id (.cf (.row T T.own ver ys))).o p.id=.cf (.row T T.own ver ys):=cB _ _ _
        refine⟨[.b1 u dp (some p) xs],[eQ],vs,H1,ah.diff (ι p.id).F H1,rfl,rfl,h.mw aA,aA,hc.2.move aA.ei,fg.sub mm,fg.sub fun _ _ h=>h.1,fun b o h1 h2=>h2.2 h1,ek,?_,?_⟩
        ·simp only [cY]
         exact⟨_,_,rfl,rfl,p,i,T,ver,ys,ab,ao,(ι p.id).cap,rfl,e6,fun _=>by rw [mx];exact fun h=>h,fun eC bZ=>by rw [mx] at bZ;exact⟨(cn.cf.inj bZ).symm,eD,rfl⟩,k6,rfl,pn⟩
        ·rintro b o (hf | hf)
         ·exact⟨p.id,b9,mm b o hf⟩
         ·exact⟨p.id,b9,hf.1⟩
       | _=>rw [ho] at iJ;simp at iJ
    | _=>simp [ad.fl] at hi
 | .st aj,m,cs,s,r,vs,hi,h,hc=>by
  simp only [ad.fl] at hi
  have:=ax.yE aj m.parts cs s r vs hi h hc
  simpa only [ad.al,cY] using this
theorem ax.yE:∀(aj:ax) (m:cU) (cs:List a_) (s:aq) (r:aj.D×List a_×aq) (vs:List Value),aj.fl m cs s=some r→Inv w0 F0 Z0 n s a w ι Z→bM w Z s ι cs vs →
  Im w0 F0 Z0 n s a w ι Z (fun us F=>aj.al w Z m r.1 us F) (fun s c us H=>fI true w Z s ι aj m c us H) cs vs r.2.1 r.2.2
 | .nil,m,cs,s,r,vs,hi,h,hc=>by
  simp only [ax.fl] at hi
  obtain rfl:=aU hi
  exact⟨[],[],vs,ah.none,ah.none,rfl,rfl,h,.refl,hc,.none,.none,fun _ _ h=>h.elim,by simp only [ax.al],by simp [fI],fun _ _ h=>h.elim (fun h=>h.elim) fun h=>h.elim⟩
 | .cons t aj,m,cs,s,r,vs,hi,h,hc=>by
  simp only [ax.fl] at hi
  obtain ⟨bz,h1,hi⟩:=bf hi
  obtain ⟨cc,h2,hi⟩:=bf hi
  obtain rfl:=aU hi
  obtain ⟨c1,us1,vs1,F1,H1,e1,e2,i1,g1,c7,f1,yF,a1,ej,k1,dN⟩:=ad.yE t m.ag cs s bz vs h1 h hc
  obtain ⟨gJ,us2,vs2,dO,H2,d1,d2,i2,g2,eJ,f2,Zs,a2,fm,k2,ek⟩:=ax.yE aj m.dv bz.2.1 bz.2.2 cc vs1 h2 i1 c7
  have hap:∀ {X:ah},bL w0 F0 bz.2.2 w ι Z X→∀b o,X b o→(dO b o∨H2 b o)→False:=by
   intro X hX b o hx hh
   obtain ⟨id,hl,hf⟩:=ek b o hh
   exact hX.apart id hl b o hx hf
  refine⟨c1++gJ,us1++us2,vs2,F1.or dO,H1.or H2,by rw [e1,d1,List.append_assoc],by rw [e2,d2,List.append_assoc],i2,g1.trans g2,eJ,(f1.tJ g2).or f2,(yF.tJ g2).or Zs,?_,?_,?_,?_⟩
  ·rintro b o (hf | hf) (hh | hh)
   ·exact a1 b o hf hh
   ·exact hap f1 b o hf (.inr hh)
   ·exact hap yF b o hh (.inl hf)
   ·exact a2 b o hf hh
  ·simp only [ax.al]
   exact⟨us1,us2,F1,dO,rfl,ej,fm,fun b o h1 h2=>hap f1 b o h1 (.inl h2),fun _ _ h=>.inl h,fun _ _ h=>.inr h⟩
  ·simp only [fI]
   exact⟨c1,gJ,us1,us2,H1,H2,rfl,rfl,cY.move (g2.held H1) (fun _ _ h=>h) t m.ag k1,k2,fun b o h1 h2=>hap yF b o h1 (.inr h2),fun _ _ h=>.inl h,fun _ _ h=>.inr h⟩
  ·rintro b o ((hf | hf) | (hf | hf))
   ·exact dN b o (.inl hf)
   ·obtain ⟨id,hl,qw⟩:=ek b o (.inl hf);exact⟨id,(g1.live hl).1,qw⟩
   ·exact dN b o (.inr hf)
   ·obtain ⟨id,hl,qw⟩:=ek b o (.inr hf);exact⟨id,(g1.live hl).1,qw⟩
end
end
end Go.LM
namespace Go.LM
section
variable{P:Program}{Q:Exit→Act→World→Prop}
variable{w0:World}{F0 Z0:ah}{n:cC}{s ar:aq}{a b7:Act}{w w':World}{ι bb:Nat→bH}{Z Z':ah}
theorem BN{t:ad}{x:a7}{v:Value}(hf:n' t x=true)(hv:aP w Z s ι x v):v=dK t v.cells.toList:=by
 cases t <;> cases x <;> simp only [n'] at hf <;> try (simp at hf;done)
 all_goals simp only [aP] at hv
 all_goals first
  | (rw [HP hv.ee];rfl)
  | (subst hv;rfl)
  | (obtain ⟨vs,rfl,_⟩:=hv;simp [dK,Value.cells])
theorem P6(h:Inv w0 F0 Z0 n s a w ι Z){k:Nat}{p:Place}{cs:List a_}{A:Addr}(hr:me s k p=some cs)(au:ju s ι p A) :
  ∃b o vs,A=at_ b o∧bM w Z s ι cs vs∧b3 w b o vs∧vs.length=k∧(s.o p.id).live∧∀j,j<k→(ι p.id).F b (o+j):=by
 obtain ⟨b,o,vs,rfl,h1,h2,h3⟩:=yn h hr au
 refine⟨b,o,vs,rfl,h1,h2,h3,?_⟩
 obtain ⟨hs,au⟩:=au
 unfold me at hr
 cases ho:s.o p.id with
 | var ver old =>
  rw [ho] at hr au
  obtain ⟨he,a0,hb,hA⟩:=au
  rw [he] at hr
  obtain ⟨hle,rfl⟩:=pj hr
  have cZ:=h.fT p.id
  rw [ho] at cZ
  obtain ⟨v',bJ,dJ,hsp,hc,ck,hF⟩:=cZ
  rw [hb] at dJ
  obtain rfl:=aU dJ
  simp only [at_,Addr.mk.injEq,and_true] at hA
  obtain ⟨rfl,rfl⟩:=hA
  refine⟨trivial,fun j hj=>?_⟩
  have:=(hF (p.off+j) (by omega)).2
  rwa [← Nat.add_assoc] at this
 | row t em ver xs =>
  rw [ho] at hr au
  obtain ⟨i,he,hi,a0,hb,hA⟩:=au
  rw [he] at hr
  obtain ⟨hle,rfl⟩:=pj hr
  have cZ:=h.fT p.id
  rw [ho] at cZ
  obtain ⟨v',bJ,dJ,hsp,hc,ck,hl⟩:=O0 h ho hi
  rcases cZ with⟨rfl,_⟩ | ⟨a1,hb1,hrow⟩
  ·simp at hi
  rw [hb] at hb1
  obtain rfl:=aU hb1
  simp only [at_,Addr.mk.injEq,and_true] at hA
  obtain ⟨rfl,rfl⟩:=hA
  refine⟨trivial,fun j hj=>?_⟩
  have hcl:=hc.len
  have HI:(i+1)*t.size≤(ι p.id).cap*t.size:=Nat.mul_le_mul_right _ (by have:=hrow.cap;omega)
  rw [Nat.add_one_mul] at HI
  have:=hrow.inF (i*t.size+p.off+j) (by omega)
  rwa [show a0.off +(i*t.size+p.off+j)=a0.off+i*t.size+p.off+j by omega] at this
 | none=>rw [ho] at hr;simp at hr
 | dead=>rw [ho] at hr;simp at hr
 | cf=>rw [ho] at hr;simp at hr
def BO(w0:World)(F0 Z0:ah)(n:cC)(s:aq)(a:Act)(w:World)(ι : Nat→bH)(Z:ah)(key:Nat)(bn:List (Nat×Nat))(ps:List bA)(vs:List a7)(us:List Value)(q:(bA.ins ps).D×aq×List (Nat×Nat)):Prop :=
 ∃F H cq,Inv w0 F0 Z0 n q.2.1 a w ι cq∧fB s ι Z q.2.1 cq∧gB w (cq.or (df ι q.2.2)) key ps q.1 us F∧eW true w cq q.2.1 ι ps vs us H∧bL w0 F0 q.2.1 w ι cq F∧bL w0 F0 q.2.1 w ι cq H∧ah.apart F H ∧
  (∃nb,q.2.2=nb++bn)∧(∀d,d∈q.2.2→ew q.2.1 d)∧∀b o,F b o∨H b o→∃id,(s.o id).live∧(ι id).F b o
theorem Iq(h:fB s ι Z ar Z'){d:Nat×Nat}(ag:ew s d):ew ar d:=(h.ei (w:=default)).turns.dep ag
theorem wD{key:Nat}{sp:bA}{ps:List bA}{v:a7}{vs:List a7}{u:Value}{us:List Value}{bn Ir nb:List (Nat×Nat)}{s1:aq}{cq F1 H1:ah}{q:(bA.ins ps).D×aq×List (Nat×Nat)}{x:(bA.ins (sp :: ps)).D}
  (g1:fB s ι Z s1 cq) (f1:bL w0 F0 s1 w ι cq F1) (h1:bL w0 F0 s1 w ι cq H1) (a1:ah.apart F1 H1) (src:∀b o,F1 b o∨H1 b o→∃id,(s.o id).live∧(ι id).F b o) (my:Ir=nb++bn)
  (hr:BO w0 F0 Z0 n s1 a w ι cq key Ir ps vs us q)
  (hA:∀(bN dO:ah),ah.sub (cq.or (df ι Ir)) bN→gB w bN key ps q.1 us dO→ah.apart F1 dO→gB w bN key (sp :: ps) x (u :: us) (F1.or dO))
  (Io:∀(s2:aq) (bN H2:ah),fB s1 ι cq s2 bN→eW true w bN s2 ι ps vs us H2→ah.apart H1 H2→eW true w bN s2 ι (sp :: ps) (v :: vs) (u :: us) (H1.or H2)) :
  BO w0 F0 Z0 n s a w ι Z key bn (sp :: ps) (v :: vs) (u :: us) (x,q.2):=by
 obtain ⟨dO,H2,bN,i2,g2,cc,k2,f2,h2,a2,⟨HG,mh⟩,d2,s2⟩:=hr
 have hap:∀ {X:ah},bL w0 F0 s1 w ι cq X→∀b o,X b o→(dO b o∨H2 b o)→False:=by
  intro X hX b o hx hh
  obtain ⟨id,hl,hf⟩:=s2 b o hh
  exact hX.apart id hl b o hx hf
 refine⟨F1.or dO,H1.or H2,bN,i2,g1.trans g2,hA _ _ ?_ cc (fun b o h1 h2=>hap f1 b o h1 (.inl h2)),Io _ _ _ g2 k2 (fun b o x y=>hap h1 b o x (.inr y)),(f1.tJ g2).or f2,(h1.tJ g2).or h2,?_,⟨HG++nb,by show q.2.2=_;rw [mh,my,List.append_assoc]⟩,d2,?_⟩
 ·rintro b o (hz | hz)
  ·exact .inl (g2.dI b o hz)
  ·show bN b o∨df ι q.2.2 b o
   rw [mh];exact .inr (HC _ _ _ b o hz)
 ·rintro b o (hf | hf) (hh | hh)
  ·exact a1 b o hf hh
  ·exact hap f1 b o hf (.inr hh)
  ·exact hap h1 b o hh (.inl hf)
  ·exact a2 b o hf hh
 ·rintro b o ((hf | hf) | (hf | hf))
  ·exact src b o (.inl hf)
  ·obtain ⟨id,hl,qw⟩:=s2 b o (.inl hf);exact⟨id,(g1.live hl).1,qw⟩
  ·exact src b o (.inr hf)
  ·obtain ⟨id,hl,qw⟩:=s2 b o (.inr hf);exact⟨id,(g1.live hl).1,qw⟩
theorem Is{sp:bA}{ps:List bA}{v:a7}{vs:List a7}{u:Value}{us:List Value}{H fW:ah}(hsp:(∃t m,sp=.val t m)∨(∃t,sp=.ref t)∨(∃a b,sp=.fn a b)∨∃t,sp=.hR t)(cD:ah.sub H fW)
  (h:eW true w Z s ι ps vs us H) (hz:gN true w Z s ι w Z s ι H):eW true w Z s ι (sp :: ps) (v :: vs) (u :: us) fW:=by
 have:=eW.move hz cD ps h
 rcases hsp with⟨t,m,rfl⟩ | ⟨t,rfl⟩ | ⟨a,b,rfl⟩ | ⟨t,rfl⟩ <;> exact⟨v,vs,u,us,rfl,rfl,this⟩
theorem It:∀ {x:List a7} {us:List Value},aX w Z s ι x us→us.length=x.length
 | [],_,h=>by simp only [aX] at h;rw [h];rfl
 | _ :: _,_,h=>by
  simp only [aX] at h
  obtain ⟨u,aS,rfl,_,h2⟩:=h
  simp [It h2]
theorem qx{key:Nat} : ∀(ps:List bA) (vs:List a7) (us:List Value) (s:aq) (Z:ah) (bn:List (Nat×Nat)) (q:(bA.ins ps).D×aq×List (Nat×Nat)),gh key s ps vs bn=some q→Inv w0 F0 Z0 n s a w ι Z →
  aX w Z s ι vs us→(∀d,d∈bn→ew s d)→BO w0 F0 Z0 n s a w ι Z key bn ps vs us q
 | [],vs,us,s,Z,bn,q,hm,h,hv,hb=>by
  cases vs with
  | cons=>simp [gh] at hm
  | nil =>
   simp only [gh,Option.some.injEq] at hm
   subst hm
   simp only [aX] at hv
   exact⟨ah.none,ah.none,Z,h,.refl,hv,trivial,.none,.none,fun _ _ h=>h.elim,⟨[],rfl⟩,hb,fun _ _ h=>h.elim (fun h=>h.elim) fun h=>h.elim⟩
 | .fn mc pc :: ps,vs,us,s,Z,bn,q,hm,h,hv,hb=>by
  cases vs with
  | nil=>simp [gh] at hm
  | cons v vs =>
   cases v <;> simp only [gh] at hm <;> try (simp at hm;done)
   rename_i g Zt Ie
   cases aA:(Nat.beq g key&&Nat.beq Zt.length mc&&Nat.beq Ie.length pc)
   ·rw [aA] at hm;cases hm
   rw [aA] at hm
   simp only [Bool.and_eq_true] at aA
   obtain ⟨⟨aA,P7⟩,BP⟩:=aA
   have aA:=Nat.eq_of_beq_eq_true aA
   have P7:=Nat.eq_of_beq_eq_true P7
   have BP:=Nat.eq_of_beq_eq_true BP
   subst aA
   simp only [aX,aP] at hv
   obtain ⟨u,aS,rfl,⟨x,y,hx,ow,PF⟩,fa⟩:=hv
   have ak':=It ow
   have ala:=It PF
   obtain ⟨F,H,cq,i1,g1,bz,k1,f1,h1,a1,fV,d1,s1⟩:=qx ps vs aS s Z bn q hm h fa hb
   exact⟨F,H,cq,i1,g1,⟨_,_,aS,by rw [hx],⟨by simp;omega,by simp;omega⟩,bz⟩,⟨_,_,_,_,rfl,rfl,k1⟩,f1,h1,a1,fV,d1,s1⟩
 | .val t m :: ps,vs,us,s,Z,bn,q,hm,h,hv,hb=>by
  cases vs with
  | nil=>simp [gh] at hm
  | cons v vs =>
   simp only [gh] at hm
   cases hf:n' t v
   ·rw [hf] at hm;simp at hm
   rw [hf] at hm
   simp only [cond_true] at hm
   cases hcs:iX t v with
   | none=>rw [hcs] at hm;simp at hm
   | some cs =>
    rw [hcs] at hm
    simp only at hm
    obtain ⟨r,hr,hm⟩:=bf hm
    cases en:r.2.1 with
    | cons=>rw [en] at hm;simp at hm
    | nil =>
     rw [en] at hm
     simp only at hm
     obtain ⟨p,au,hm⟩:=bf hm
     obtain rfl:=aU hm
     simp only [aX] at hv
     obtain ⟨u,aS,rfl,hu,fa⟩:=hv
     obtain ⟨us1,vs1,F1,cq,e1,i1,s1,c1,f1,bz,⟨nb,fV⟩,_,d1,g1⟩:=ad.lF t true m cs s bn r _ Z hr h (rN hcs hu) hb
     rw [en] at c1
     have hvs1:vs1=[]:=by cases vs1 with | nil=>rfl | cons=>exact c1.elim
     subst hvs1
     rw [List.append_nil] at e1
     have hw:=BN hf hu
     rw [e1] at hw
     have nw:=qx ps vs aS r.2.2.1 cq r.2.2.2 p au i1 (aX.move s1.ei fa) d1
     refine wD s1.mw f1 .none (fun _ _ _ h=>h) (fun b o hf=>hf.elim (g1 b o) fun h=>h.elim) fV nw ?_ ?_
     ·intro bN dO hZ hA hap
      exact⟨us1,aS,F1,dO,by rw [← hw],ad.al.mono hZ _ _ (fun _ _ h=>h) bz,hA,hap,fun _ _ h=>.inl h,fun _ _ h=>.inr h⟩
     ·intro s2 bN H2 aA hk k7
      exact Is (.inl ⟨_,_,rfl⟩) (fun _ _ h=>.inr h) hk (fB.refl.held H2)
 | .hR t :: ps,vs,us,s,Z,bn,q,hm,h,hv,hb=>by
  cases vs with
  | nil=>simp [gh] at hm
  | cons v vs =>
   simp only [gh] at hm
   cases hf:n' t v
   ·rw [hf] at hm;simp at hm
   rw [hf] at hm
   simp only [cond_true] at hm
   cases hcs:iX t v with
   | none=>rw [hcs] at hm;simp at hm
   | some cs =>
    rw [hcs] at hm
    simp only at hm
    obtain ⟨r,hr,hm⟩:=bf hm
    cases en:r.2.1 with
    | cons=>rw [en] at hm;simp at hm
    | nil =>
     rw [en] at hm
     simp only at hm
     obtain ⟨p,au,hm⟩:=bf hm
     obtain rfl:=aU hm
     simp only [aX] at hv
     obtain ⟨u,aS,rfl,hu,fa⟩:=hv
     obtain ⟨us1,vs1,F1,cq,e1,i1,s1,c1,f1,bz,⟨nb,fV⟩,_,d1,g1⟩:=ad.lF t false .R cs s bn r _ Z hr h (rN hcs hu) hb
     rw [en] at c1
     have hvs1:vs1=[]:=by cases vs1 with | nil=>rfl | cons=>exact c1.elim
     subst hvs1
     rw [List.append_nil] at e1
     have hw:=BN hf hu
     rw [e1] at hw
     have nw:=qx ps vs aS r.2.2.1 cq r.2.2.2 p au i1 (aX.move s1.ei fa) d1
     refine wD s1.mw f1 .none (fun _ _ _ h=>h) (fun b o hf=>hf.elim (g1 b o) fun h=>h.elim) fV nw ?_ ?_
     ·intro bN dO hZ hA hap
      exact⟨us1,aS,F1,dO,by rw [← hw],ad.al.mono hZ _ _ (fun _ _ h=>h) bz,hA,hap,fun _ _ h=>.inl h,fun _ _ h=>.inr h⟩
     ·intro s2 bN H2 aA hk k7
      exact Is (.inr (.inr (.inr ⟨_,rfl⟩))) (fun _ _ h=>.inr h) hk (fB.refl.held H2)
 | .hQ t m :: ps,vs,us,s,Z,bn,q,hm,h,hv,hb=>by
  cases vs with
  | nil=>simp [gh] at hm
  | cons v vs =>
   simp only [gh] at hm
   cases hf:(n' t v&&ba.beq m t.own)
   ·rw [hf] at hm;simp at hm
   rw [hf] at hm
   simp only [cond_true] at hm
   simp only [Bool.and_eq_true] at hf
   obtain ⟨hf,ov⟩:=hf
   have ov:=ba.eq_of_beq _ _ ov
   cases hcs:iX t v with
   | none=>rw [hcs] at hm;simp at hm
   | some cs =>
    rw [hcs] at hm
    simp only at hm
    obtain ⟨r,hr,hm⟩:=bf hm
    cases en:r.2.1 with
    | cons=>rw [en] at hm;simp at hm
    | nil =>
     rw [en] at hm
     simp only at hm
     obtain ⟨p,au,hm⟩:=bf hm
     obtain rfl:=aU hm
     simp only [aX] at hv
     obtain ⟨u,aS,rfl,hu,fa⟩:=hv
     obtain ⟨c1,us1,vs1,F1,H1,e0,e1,i1,g1,c7,f1,yF,a1,bz,k1,dN⟩:=ad.yE t m cs s r _ hr h (rN hcs hu)
     rw [en] at c7 e0
     have hvs1:vs1=[]:=by cases vs1 with | nil=>rfl | cons=>exact c7.elim
     subst hvs1
     rw [List.append_nil] at e1 e0
     subst e0
     have hw:=BN hf hu
     have nw:=qx ps vs aS r.2.2 Z bn p au i1 (aX.move g1.ei fa) (fun d ag=>Iq g1 (hb d ag))
     refine wD (nb:=[]) g1 f1 yF a1 dN rfl nw ?_ ?_
     ·intro bN dO hZ hA hap
      exact⟨us1,aS,F1,dO,by rw [← e1,← hw],ad.al.mono (fun b o hz=>hZ b o (.inl hz)) _ _ (fun _ _ h=>h) bz,hA,hap,fun _ _ h=>.inl h,fun _ _ h=>.inr h⟩
     ·intro s2 bN H2 aA hk k7
      refine⟨v,vs,u,aS,cs,H1,H2,rfl,rfl,hcs,ov,?_,hk,k7,fun _ _ h=>.inl h,fun _ _ h=>.inr h⟩
      rw [e1]
      exact cY.move (aA.held H1) (fun _ _ h=>h) t m k1
 | .ref t :: ps,vs,us,s,Z,bn,q,hm,h,hv,hb=>by
  cases vs with
  | nil=>simp [gh] at hm
  | cons v vs =>
   simp only [aX] at hv
   obtain ⟨u,aS,rfl,hu,fa⟩:=hv
   have go:∀(cs:List a_) (nf:List (Nat×Nat)) (b o:Nat) (ws:List Value),bM w Z s ι cs ws→b3 w b o ws→ws.length=t.size→u=.pointer (some (at_ b o))→(∃nb,nf=nb++bn)→(∀d,d∈nf→ew s d) →
     (∀j,j<t.size→Z.or (df ι nf) b (o+j)) →
     ((t.imp true .R cs s nf).bind fun r=>match r.2.1 with | []=>(gh key r.2.2.1 ps vs r.2.2.2).bind fun q=>some ((r.1,q.1),q.2) | _=>none)=some q→BO w0 F0 Z0 n s a w ι Z key bn (.ref t :: ps) (v :: vs) (u :: aS) q:=by
    intro cs nf b o ws pr ck tz iu ⟨Zu,Zv⟩ Zw hin hm
    obtain ⟨r,hr,hm⟩:=bf hm
    cases en:r.2.1 with
    | cons=>rw [en] at hm;simp at hm
    | nil =>
     rw [en] at hm
     simp only at hm
     obtain ⟨p,au,hm⟩:=bf hm
     obtain rfl:=aU hm
     obtain ⟨us1,vs1,F1,cq,e1,i1,s1,c1,f1,bz,⟨nb,fV⟩,_,d1,g1⟩:=ad.lF t true .R cs s nf r _ Z hr h pr Zw
     rw [en] at c1
     have hvs1:vs1=[]:=by cases vs1 with | nil=>rfl | cons=>exact c1.elim
     subst hvs1
     rw [List.append_nil] at e1
     subst e1
     have nw:=qx ps vs aS r.2.2.1 cq r.2.2.2 p au i1 (aX.move s1.ei fa) d1
     refine wD (nb:=nb++Zu) s1.mw .none .none (fun _ _ h=>h.elim) (fun b o hf=>hf.elim (fun h=>h.elim) fun h=>h.elim) (by rw [fV,Zv,List.append_assoc]) nw ?_ ?_
     ·intro bN dO hZ hA hap
      refine⟨b,o,ws,aS,by rw [iu],ck,ad.al.mono hZ _ _ (fun _ _ h=>h) (rE bz),fun j hj=>hZ _ _ ?_,gB.mono (fun _ _ h=>h) ps (fun _ _ h=>.inr h) hA⟩
      rcases hin j hj with hz | hz
      ·exact .inl (s1.dI _ _ hz)
      ·rw [fV];exact .inr (HC _ _ _ _ _ hz)
     ·intro s2 bN H2 aA hk k7
      exact Is (.inr (.inl ⟨_,rfl⟩)) (fun _ _ h=>.inr h) hk (fB.refl.held H2)
   cases v <;> simp only [gh] at hm <;> try (simp at hm;done)
   ·rename_i p
    cases hr:me s t.size p with
    | none=>rw [hr] at hm;simp at hm
    | some cs =>
     rw [hr] at hm
     simp only [aP] at hu
     obtain ⟨hk,A,hu,au⟩:=hu
     obtain ⟨b,o,ws,rfl,h1,h2,h3,h4,a8⟩:=P6 h hr au
     refine go cs ((p.id,kv s p.id) :: bn) b o ws h1 h2 h3 hu ⟨[_],rfl⟩ ?_ (fun j hj=>.inr ⟨_,List.mem_cons_self,a8 j hj⟩) hm
     intro d ag
     rcases List.mem_cons.1 ag with rfl | ag
     ·exact⟨hk,.inr (Nat.le_refl _)⟩
     ·exact hb d ag
   ·rename_i dp cs off
    cases ht:takeN off t.size cs with
    | none=>rw [ht] at hm;simp at hm
    | some ds =>
     rw [ht] at hm
     simp only at hm
     cases dX:alive s dp
     ·rw [dX] at hm;simp at hm
     rw [dX] at hm
     simp only [cond_true] at hm
     obtain ⟨hle,rfl⟩:=pj ht
     simp only [aP] at hu
     obtain ⟨ag,b,o,ws,hu,hx⟩:=hu
     obtain ⟨h1,h2,h3⟩:=hx dX
     have hl:=h1.len
     refine go _ (dp++bn) b (o+off) ((ws.drop off).take t.size) ((h1.drop off).take _) (h2.part off _) (by simp;omega) hu ⟨dp,rfl⟩ ?_ ?_ hm
     ·intro d im
      rcases List.mem_append.1 im with h | h
      ·exact ag d h
      ·exact hb d h
     ·intro j hj
      have:=h3 (off+j) (by omega)
      rw [← Nat.add_assoc] at this
      rcases this with hz | ⟨d,ag,hf⟩
      ·exact .inl hz
      ·exact .inr ⟨d,List.mem_append.2 (.inl ag),hf⟩
 | .mut t m m' :: ps,vs,us,s,Z,bn,q,hm,h,hv,hb=>by
  cases vs with
  | nil=>simp [gh] at hm
  | cons v vs =>
   simp only [aX] at hv
   obtain ⟨u,aS,rfl,hu,fa⟩:=hv
   cases v <;> simp only [gh] at hm <;> try (simp at hm;done)
   rename_i p
   simp only [aP] at hu
   obtain ⟨hk,A,hu,au⟩:=hu
   obtain ⟨alb,au⟩:=au
   cases ho:s.o p.id with
   | none=>rw [ho] at hm;simp at hm
   | dead=>rw [ho] at hm;simp at hm
   | cf=>rw [ho] at hm;simp at hm
   | var ver old =>
    rw [ho] at hm au
    obtain ⟨he,a0,eD,hA⟩:=au
    rw [he] at hm
    simp only at hm
    cases ht:takeN p.off t.size old with
    | none=>rw [ht] at hm;simp at hm
    | some cs =>
     rw [ht] at hm
     simp only at hm
     obtain ⟨hle,rfl⟩:=pj ht
     obtain ⟨r,hr,hm⟩:=bf hm
     cases en:r.2.1 with
     | cons=>rw [en] at hm;simp at hm
     | nil =>
      rw [en] at hm
      simp only at hm
      obtain ⟨Iu,hq,hm⟩:=bf hm
      obtain rfl:=aU hm
      have b9:(s.o p.id).live:=by rw [ho];trivial
      have aA:fB s ι Z (s.bR p.id (.cf (.var ver old))) Z:=by have:=yA (s:=s) (ι := ι) (Z:=Z) b9;rw [ho] at this;exact this
      have fg:bL w0 F0 (s.bR p.id (.cf (.var ver old))) w ι Z (ι p.id).F:=by have:=h.yB b9;rw [ho] at this;exact this
      have cZ:=h.fT p.id
      rw [ho] at cZ
      obtain ⟨⟨b,o,sp⟩,ws,dJ,hsp,hc,ck,hF⟩:=cZ
      simp only at hsp
      subst hsp
      rw [eD] at dJ
      obtain rfl:=aU dJ
      have hl:=hc.len
      have mx:(s.bR p.id (.cf (.var ver old))).o p.id=.cf (.var ver old):=cB _ _ _
      have P8:=hc.move aA.ei
      obtain ⟨us1,vs1,F1,cq,e1,i1,s1,c1,f1,bz,⟨nb,fV⟩,_,d1,g1⟩:=ad.lF t true m _ _ bn r _ Z hr (h.mw aA) ((P8.drop p.off).take t.size) (fun d ag=>Iq aA (hb d ag))
      rw [en] at c1
      have hvs1:vs1=[]:=by cases vs1 with | nil=>rfl | cons=>exact c1.elim
      subst hvs1
      rw [List.append_nil] at e1
      have nw:=qx ps vs aS r.2.2.1 cq r.2.2.2 Iu hq i1 (aX.move s1.ei (aX.move aA.ei fa)) d1
      have yl:=aA.trans s1.mw
      have hrun:ah.sub (ah.run b (o+p.off) t.size) (ι p.id).F:=by
       rintro b' o' ⟨rfl,h1,h2⟩
       have:=(hF (o'-o) (by omega)).2
       simp only at this
       rwa [show o +(o'-o)=o' by omega] at this
      have P9:=fg.shrink s1
      have P_:ah.apart F1 (ι p.id).F:=by
       intro b o h1 h2
       obtain ⟨id,hl,hf⟩:=g1 b o h1
       exact fg.apart id hl b o h2 hf
      refine wD (F1:=F1.or (ah.run b (o+p.off) t.size)) (H1:=ah.diff (ι p.id).F (ah.run b (o+p.off) t.size)) yl (f1.or (P9.sub hrun)) (P9.sub fun _ _ h=>h.1) ?_ ?_ fV nw ?_ ?_
      ·rintro b o (hf | hf) hh
       ·exact P_ b o hf hh.1
       ·exact hh.2 hf
      ·rintro b' o' ((hf | hf) | hh)
       ·obtain ⟨id,hl,qw⟩:=g1 b' o' hf;exact⟨id,(aA.live hl).1,qw⟩
       ·exact⟨p.id,b9,hrun b' o' hf⟩
       ·exact⟨p.id,b9,hh.1⟩
      ·intro bN dO hZ pA hap
       refine⟨b,o+p.off,us1,aS,F1,dO,by rw [hu,hA],?_,?_,ad.al.mono hZ _ _ (fun _ _ h=>h) bz,pA,hap,fun b o h1 h2=>P_ b o h1 (hrun b o h2),fun _ _ h=>.inl h,fun _ _ h=>.inr h⟩
       ·rw [← e1];exact ck.part p.off t.size
       ·intro j hj
        have:=(hF (p.off+j) (by omega)).1
        rwa [← Nat.add_assoc] at this
      ·intro s2 bN H2 Iv hkk k7
       refine⟨p,vs,u,aS,_,H2,rfl,rfl,.inl ?_,hkk,k7,fun _ _ h=>.inl h,fun _ _ h=>.inr h⟩
       refine wz.move ((s1.mw.trans Iv).held (ah.diff (ι p.id).F (ah.run b (o+p.off) t.size))) (fun _ _ h=>h) ?_
       refine⟨ver,old,b,o,ws,fun _=>by rw [mx];exact fun h=>h,fun eC bZ=>by rw [mx] at bZ;exact⟨(cn.cf.inj bZ).symm,eD⟩,he,by rw [hu,hA],hle,P8,fun j hj=>(hF j hj).1,fun j hj hh=>⟨(hF j hj).2,?_⟩,fun j v hv hh=>ck j v hv⟩
       rintro ⟨_,h1,h2⟩
       omega
   | row gO em ver xs =>
    rw [ho] at hm au
    obtain ⟨i,he,hi,a0,eD,hA⟩:=au
    rw [he] at hm
    simp only at hm
    cases BQ:(Nat.beq p.off 0&&ba.beq em m&&ba.beq m' em&&ba.beq m t.own)
    ·rw [BQ] at hm;simp at hm
    rw [BQ] at hm
    simp only [Bool.and_eq_true] at BQ
    obtain ⟨⟨⟨hc1,hc2⟩,yG⟩,Iw⟩:=BQ
    have Iw:=ba.eq_of_beq _ _ Iw
    have hc1:=Nat.eq_of_beq_eq_true hc1
    have hc2:=ba.eq_of_beq _ _ hc2
    have yG:=ba.eq_of_beq _ _ yG
    subst hc2
    subst yG
    simp only [cond_true] at hm
    obtain ⟨x,hx,hm⟩:=bf hm
    obtain ⟨e1,rfl⟩:=Be hx
    subst e1
    obtain ⟨Iu,hq,hm⟩:=bf hm
    obtain rfl:=aU hm
    have b9:(s.o p.id).live:=by rw [ho];trivial
    have aA:fB s ι Z (s.bR p.id (.cf (.row gO m' ver xs))) Z:=by have:=yA (s:=s) (ι := ι) (Z:=Z) b9;rw [ho] at this;exact this
    have fg:bL w0 F0 (s.bR p.id (.cf (.row gO m' ver xs))) w ι Z (ι p.id).F:=by have:=h.yB b9;rw [ho] at this;exact this
    have cZ:=h.fT p.id
    rw [ho] at cZ
    rcases cZ with⟨rfl,_⟩ | ⟨⟨b,o,sp⟩,dJ,hrow⟩
    ·simp at hi
    have hsp:=hrow.spot
    simp only at hsp
    subst hsp
    rw [eD] at dJ
    obtain rfl:=aU dJ
    obtain ⟨G,g1,g2,g3⟩:=hrow.row
    obtain ⟨G1,jd,G2,ws,k1,k2,k3,bg,bx,dg,da,dL,hg,gp,db⟩:=g1.BH i hi
    have mx:(s.bR p.id (.cf (.row gO m' ver xs))).o p.id=.cf (.row gO m' ver xs):=cB _ _ _
    have hcap:(i+1)*gO.size≤(ι p.id).cap*gO.size:=Nat.mul_le_mul_right _ (by have:=hrow.cap;omega)
    rw [Nat.add_one_mul] at hcap
    have hrun:ah.sub (ah.run b (o+i*gO.size) gO.size) (ι p.id).F:=by
     rintro b' o' ⟨rfl,h1,h2⟩
     have:=hrow.inF (o'-o) (by omega)
     simp only at this
     rwa [show o +(o'-o)=o' by omega] at this
    have BR:∀ {X:ah},ah.sub X G→∀j,j<(ι p.id).cap*gO.size→¬X b (o+j):=fun hX j hj hh=>g2 j hj (hX _ _ hh)
    have rV:∀ {X:ah},ah.sub X G→ah.apart X (ah.run b (o+i*gO.size) gO.size):=by
     rintro X hX b' o' hx ⟨rfl,h1,h2⟩
     have:=BR hX (o'-o) (by omega)
     rw [show o +(o'-o)=o' by omega] at this
     exact this hx
    have nw:=qx ps vs aS _ Z bn Iu hq (h.mw aA) (aX.move aA.ei fa) (fun d ag=>Iq aA (hb d ag))
    have P':ah.sub (jd.or (ah.run b (o+i*gO.size) gO.size)) (ι p.id).F:=fun b o h=>h.elim (fun h=>g3 b o (gp b o h)) (hrun b o)
    have iu:u=.pointer (some (at_ b (o+i*gO.size))):=by rw [hu,hA,hc1];rfl
    refine wD (nb:=[]) (F1:=jd.or (ah.run b (o+i*gO.size) gO.size)) (H1:=ah.diff (ι p.id).F (jd.or (ah.run b (o+i*gO.size) gO.size))) aA (fg.sub P') (fg.sub fun _ _ h=>h.1) (fun b o h1 h2=>h2.2 h1) ?_ rfl nw ?_ ?_
    ·rintro b' o' (hf | hf)
     ·exact⟨p.id,b9,P' b' o' hf⟩
     ·exact⟨p.id,b9,hf.1⟩
    ·intro bN dO hZ pA hap
     refine⟨b,o+i*gO.size,ws,aS,jd,dO,by rw [iu],bg,fun j hj=>?_,?_,pA,hap,rV gp,fun _ _ h=>.inl h,fun _ _ h=>.inr h⟩
     ·have:=(hrow.wr (i*gO.size+j) (by omega)).1
      rwa [← Nat.add_assoc] at this
     ·rw [c8 hi]
      exact ad.al.mono (fun b o hz=>hZ b o (.inl hz)) _ _ (fun _ _ h=>h) k2
    ·intro s2 bN H2 Iv hkk k7
     refine⟨p,vs,u,aS,_,H2,rfl,rfl,.inr ⟨rfl,Iw,?_⟩,hkk,k7,fun _ _ h=>.inl h,fun _ _ h=>.inr h⟩
     refine wA.move (Iv.held (ah.diff (ι p.id).F (jd.or (ah.run b (o+i*gO.size) gO.size)))) (fun _ _ h=>h) ?_
     refine⟨ver,xs,i,b,o,_,G1,G2,fun _=>by rw [mx];exact fun h=>h,fun eC bZ=>by rw [mx] at bZ;exact⟨(cn.cf.inj bZ).symm,eD,rfl⟩,he,hi,iu,hrow.cap,hrow.wr,fun j hj hh=>⟨hrow.inF j hj,?_⟩,k1,bx,da,fun b o aA=>⟨g3 b o (hg b o aA),?_⟩,fun b o aA=>⟨g3 b o (db b o aA),?_⟩,fun j hj=>⟨BR hg j hj,BR db j hj⟩⟩
     ·rintro (Zx | ⟨_,h1,h2⟩)
      ·exact BR gp j hj Zx
      ·rw [Nat.add_one_mul] at hh;omega
     ·rintro (hh | hh)
      ·exact dg b o aA hh
      ·exact rV hg b o aA hh
     ·rintro (hh | hh)
      ·exact dL b o hh aA
      ·exact rV db b o aA hh
end
end Go.LM
namespace Go.LM
section
variable{P:Program}{Q:Exit→Act→World→Prop}
variable{g:Bool}{w0:World}{F0 Z0:ah}{n:cC}{s ar:aq}{a b7:Act}{w w' b5:World}{ι bb eB:Nat→bH}{Z Z' bN:ah}
theorem gN.trans{s2:aq}{H:ah}(h:gN g w Z s ι w' Z' ar bb H)(k:gN g w' Z' ar bb b5 bN s2 eB H):gN g w Z s ι b5 bN s2 eB H:=by
 refine⟨fun x v hx=>k.az x v (h.az x v hx),fun c v hc=>k.cell c v (h.cell c v hc),fun b o hz=>k.dI b o (h.dI b o hz),fun id o' hn ho=>?_,fun aA id hn=>k.nl aA id (h.nl aA id hn),h.same.trans k.same,h.BJ.trans ?_,fun b o hw=>k.wr b o (h.wr b o hw),fun z b o hw=>k.yC z b o (h.yC z b o hw)⟩
 ·obtain ⟨h1,h2⟩:=k.cf id o' (fun aA=>h.nl aA id (hn aA)) ho
  obtain ⟨h3,h4⟩:=h.cf id o' hn h1
  exact⟨h3,h2.trans h4⟩
 ·exact k.BJ.mono h.dI
theorem Inv.Zy(h:Inv w0 F0 Z0 n s a w ι Z){id:Nat}{o:cn}{i:bH}(hnl:¬(s.o id).live)(ht:ja (s.o id) (ι id) o i)
  (cM:eI w Z s ι w Z (s.bR id o) (bU ι id i)→il w Z (s.bR id o) (bU ι id i) i o) (hF:bL w0 F0 s w ι Z i.F) :
  Inv w0 F0 Z0 n (s.bR id o) a w (bU ι id i) Z∧eI w Z s ι w Z (s.bR id o) (bU ι id i):=by
 have hm:eI w Z s ι w Z (s.bR id o) (bU ι id i):=by
  refine⟨fun j=>?_,fun _ _ h=>h,b4.refl _ _⟩
  show ja (s.o j) (ι j) (bU s.o id o j) (bU ι id i j)
  by_cases hj:id=j
  ·subst hj;rw [cB,cB];exact ht
  ·rw [cR hj,cR hj];exact .stay _ _
 refine⟨?_,hm⟩
 refine h.next hm (Ext.refl _ ah.none) (fun _ _ h=>h.elim) (fun _ _ h=>.inl h) ?_ ?_ (fun k=>(h.tmps k).move hm) h.size h.defers
 ·intro j hl hne
  by_cases hj:id=j
  ·subst hj
   rw [cB]
   refine⟨by show il _ _ _ _ _ (bU s.o id o id);rw [cB];exact cM hm,hF.own,fun kX gk jI=>?_⟩
   rw [cR jI]
   have dW:(s.o kX).live:=by
    have:(bU s.o id _ kX).live:=gk
    rwa [cR jI] at this
   exact hF.apart kX dW
  ·exact absurd ⟨cR hj,cR hj⟩ hne
 ·intro j hl
  by_cases hj:id=j
  ·subst hj;rw [cB];exact hF.c2
  ·rw [cR hj]
   have dW:(s.o j).live:=by
    have:(bU s.o id _ j).live:=hl
    rwa [cR hj] at this
   exact h.c2 j dW
def ox(w0:World)(F0 Z0:ah)(n:cC)(s:aq)(a:Act)(w:World)(ι : Nat→bH)(Z:ah)(ar:aq)(eK:ah):Prop :=
 ∃ bb,Inv w0 F0 Z0 n ar a w bb Z∧gN false w Z s ι w Z ar bb (fun _ _=>True)∧(∀X,bL w0 F0 s w ι Z X→ah.apart X eK→bL w0 F0 ar w bb Z X)∧∀id,(s.o id).live→ar.o id=s.o id ∧ bb id = ι id
theorem tL(h:Inv w0 F0 Z0 n s a w ι Z)(eK:ah):ox w0 F0 Z0 n s a w ι Z s eK :=
 ⟨ι,h,⟨fun _ _ h=>h,fun _ _ h=>h,fun _ _ h=>h,fun _ _ _ h=>⟨h,rfl⟩,fun h=>by simp at h,b4.refl _ _,b4.refl _ _,fun _ _ h=>h,fun _ _ _ h=>h⟩,fun _ h _=>h,fun _ _=>⟨rfl,rfl⟩⟩
theorem Ix(h:Inv w0 F0 Z0 n s a w ι Z){id:Nat}{o:cn}{i:bH}(hnl:¬(s.o id).live)(ho:∀o',o≠.cf o')(ht:ja (s.o id) (ι id) o i)
  (cM:eI w Z s ι w Z (s.bR id o) (bU ι id i)→il w Z (s.bR id o) (bU ι id i) i o) (hF:bL w0 F0 s w ι Z i.F) :
  Inv w0 F0 Z0 n (s.bR id o) a w (bU ι id i) Z∧gN false w Z s ι w Z (s.bR id o) (bU ι id i) (fun _ _=>True)∧(∀X,bL w0 F0 s w ι Z X→ah.apart X i.F→bL w0 F0 (s.bR id o) w (bU ι id i) Z X) ∧
  ∀j,(s.o j).live→(s.bR id o).o j=s.o j∧bU ι id i j = ι j:=by
 obtain ⟨h1,hm⟩:=h.Zy hnl ht cM hF
 refine⟨h1,⟨fun _ _=>aP.move hm,fun _ _=>cj.move hm,fun _ _ h=>h,fun j o' _ hj=>?_,fun h=>by simp at h,b4.refl _ _,b4.refl _ _,fun _ _ h=>h,fun _ _ _ h=>h⟩,fun X hX ha=>⟨hX.own,fun j hl=>?_,hX.c2⟩,fun j hl=>?_⟩
 ·have hj':bU s.o id o j=.cf o':=hj
  by_cases hne:id=j
  ·subst hne;rw [cB] at hj';exact absurd hj' (ho o')
  ·rw [cR hne] at hj'
   exact⟨hj',cR hne⟩
 ·by_cases hne:id=j
  ·subst hne;rw [cB];exact ha
  ·rw [cR hne]
   have dW:(s.o j).live:=by
    have:(bU s.o id _ j).live:=hl
    rwa [cR hne] at this
   exact hX.apart j dW
 ·have hne:id≠j:=fun e=>hnl (e ▸ hl)
  exact⟨cR hne,cR hne⟩
theorem yH(h:Inv w0 F0 Z0 n s a w ι Z){id:Nat}{o:cn}{i:bH}(hnl:¬(s.o id).live)(ho:∀o',o≠.cf o')(ht:ja (s.o id) (ι id) o i)
  (cM:eI w Z s ι w Z (s.bR id o) (bU ι id i)→il w Z (s.bR id o) (bU ι id i) i o) (hF:bL w0 F0 s w ι Z i.F):ox w0 F0 Z0 n s a w ι Z (s.bR id o) i.F:=⟨_,Ix h hnl ho ht cM hF⟩
mutual
theorem cY.len:∀(t:ad) (m:ba) {cs:List a_} {vs:List Value} {H:ah},cY g w Z s ι t m cs vs H→vs.length=t.size
 | .int _,_,_,_,_,hk=>by simp only [cY] at hk;rw [hk.2];rfl
 | .bool,_,_,_,_,hk=>by simp only [cY] at hk;rw [hk.2];rfl
 | .str,_,_,_,_,hk=>by simp only [cY] at hk;rw [hk.2];rfl
 | .raw,_,_,_,_,hk=>by simp only [cY] at hk;rw [hk.2];rfl
 | .sl t,.R,_,_,_,hk=>by simp only [cY] at hk
 | .sl t,.S _,_,_,_,hk=>by simp only [cY] at hk
 | .sl t,.O e,_,_,_,hk=>by simp only [cY] at hk;obtain ⟨c,v,_,rfl,_⟩:=hk;rfl
 | .st aj,m,_,_,_,hk=>by simp only [cY] at hk;simpa only [ad.size] using fI.len aj m.parts hk
theorem fI.len:∀(aj:ax) (m:cU) {cs:List a_} {vs:List Value} {H:ah},fI g w Z s ι aj m cs vs H→vs.length=aj.size
 | .nil,_,_,_,_,hk=>by simp only [fI] at hk;rw [hk.2];rfl
 | .cons t aj,m,_,_,_,hk=>by
  simp only [fI] at hk
  obtain ⟨c1,gJ,v1,v2,H1,H2,_,rfl,h1,h2,_⟩:=hk
  rw [List.length_append,cY.len t m.ag h1,fI.len aj m.dv h2];rfl
end
mutual
theorem ad.yI:∀(t:ad) (m:ba) (x:t.D) (c1 rest:List a_) (s:aq) (ι : Nat→bH) (r:List a_×aq) (us:List Value) (F H:ah),t.back x (c1++rest) s=some r→Inv w0 F0 Z0 n s a w ι Z →
  cY false w Z s ι t m c1 us H→t.al w Z m x us F→bL w0 F0 s w ι Z F→bL w0 F0 s w ι Z H→ah.apart F H→r.1=rest∧ox w0 F0 Z0 n s a w ι Z r.2 (F.or H)
 | .int k,m,x,c1,rest,s,ι,r,us,F,H,hb,h,hk,hr,hF,cD,ha=>by
  simp only [cY] at hk
  obtain ⟨hk,_⟩:=hk
  match c1,hk with
  | [c],_ =>
   simp only [ad.back,List.cons_append,List.nil_append,Option.some.injEq] at hb
   subst hb;exact⟨rfl,tL h _⟩
 | .bool,m,x,c1,rest,s,ι,r,us,F,H,hb,h,hk,hr,hF,cD,ha=>by
  simp only [cY] at hk
  obtain ⟨hk,_⟩:=hk
  match c1,hk with
  | [c],_ =>
   simp only [ad.back,List.cons_append,List.nil_append,Option.some.injEq] at hb
   subst hb;exact⟨rfl,tL h _⟩
 | .str,m,x,c1,rest,s,ι,r,us,F,H,hb,h,hk,hr,hF,cD,ha=>by
  simp only [cY] at hk
  obtain ⟨hk,_⟩:=hk
  match c1,hk with
  | [c],_ =>
   simp only [ad.back,List.cons_append,List.nil_append,Option.some.injEq] at hb
   subst hb;exact⟨rfl,tL h _⟩
 | .raw,m,x,c1,rest,s,ι,r,us,F,H,hb,h,hk,hr,hF,cD,ha=>by
  simp only [cY] at hk
  obtain ⟨hk,_⟩:=hk
  match c1,hk with
  | [c],_ =>
   simp only [ad.back,List.cons_append,List.nil_append,Option.some.injEq] at hb
   subst hb;exact⟨rfl,tL h _⟩
 | .sl t,.R,x,c1,rest,s,ι,r,us,F,H,hb,h,hk,hr,hF,cD,ha=>by
  simp only [cY] at hk
 | .sl t,.S _,x,c1,rest,s,ι,r,us,F,H,hb,h,hk,hr,hF,cD,ha=>by
  simp only [cY] at hk
 | .sl t,.O e,x,c1,rest,s,ι,r,us,F,H,hb,h,hk,hr,hF,cD,ha=>by
  simp only [cY] at hk
  obtain ⟨c,v,rfl,rfl,hk⟩:=hk
  cases c with
  | nil u =>
   simp only [ad.back,List.cons_append,List.nil_append,Option.some.injEq] at hb
   subst hb;exact⟨rfl,tL h _⟩
  | ag id sub =>
   cases sub with
   | some=>exact hk.elim
   | none =>
    simp only at hk
    obtain ⟨ver,xs,A,k,rS,_,hl,hv,hk⟩:=hk
    simp only [ad.back,List.cons_append,List.nil_append] at hb
    cases ho:s.o id with
    | cf eC =>
     rw [ho] at hb
     obtain ⟨rfl,hcap,hh⟩:=hl eC ho
     simp only at hb
     obtain ⟨y,aN,hb2⟩:=bf hb
     obtain ⟨e1,tM⟩:=g_ aN
     have tM:x=y:=tM.symm
     subst tM
     obtain rfl:=aU hb2
     refine⟨rfl,?_⟩
     simp only [ad.al] at hr
     obtain ⟨pt,k',lE,hr⟩:=hr
     rw [hv] at lE
     simp only [List.cons.injEq,Value.slice.injEq,and_true] at lE
     obtain ⟨rfl,hlen,rfl⟩:=lE
     have lQ:=yH h (id:=id) (o:=.row t e (ver+1) x) (i:=⟨(ι id).base,(ι id).cap,F.or H⟩) (by rw [ho];exact fun h=>h) (fun o'=>by simp) (by rw [ho];exact .rH _ _ _ _ _ _ _ _ _ (by omega) hlen.symm rfl rfl) ?_ (hF.or cD)
     ·exact lQ
     intro hm
     rcases hk with⟨rfl,pB⟩ | ⟨b,o,eD,Iy,Zr,hA,hwr,hU⟩
     ·left
      refine⟨List.eq_nil_of_length_eq_zero (by rw [← hlen];rfl),?_⟩
      show(ι id).cap=0
      rw [hcap,pB]
     ·right
      refine⟨at_ b o,eD _ ho,?_⟩
      rcases hr with⟨rfl,rfl⟩ | ⟨⟨b',o',sp⟩,pA,hr⟩
      ·refine⟨rfl,Nat.zero_le _,?_,?_,ah.none,trivial,fun _ _ h=>h,fun _ _ h=>h.elim⟩
       ·show ∀j,j<(ι id).cap*t.size→_
        rw [hcap];exact hwr
       ·show ∀j,j<(ι id).cap*t.size→_
        rw [hcap];exact fun j hj=>.inr (hU j (by omega) hj)
      ·have hx0:=hr.cap
       by_cases hk0:k=0
       ·subst hk0
        have:x=[]:=List.eq_nil_of_length_eq_zero (by omega)
        subst this
        refine⟨rfl,Nat.zero_le _,?_,?_,ah.none,trivial,fun _ _ h=>h,fun _ _ h=>h.elim⟩
        ·show ∀j,j<(ι id).cap*t.size→_
         rw [hcap];exact hwr
        ·show ∀j,j<(ι id).cap*t.size→_
         rw [hcap];exact fun j hj=>.inr (hU j (by omega) hj)
       ·have hA:=hA.resolve_left hk0
        rw [pA] at hA
        simp only [at_,Option.some.injEq,Addr.mk.injEq] at hA
        obtain ⟨rfl,rfl,rfl⟩:=hA
        obtain ⟨G,g1,g2,g3⟩:=hr.row
        refine⟨rfl,?_,?_,?_,G,g1,?_,fun b o aA=>.inl (g3 b o aA)⟩
        ·show x.length≤(ι id).cap
         rw [hcap,← hlen];exact Iy
        ·show ∀j,j<(ι id).cap*t.size→_
         rw [hcap];exact hwr
        ·show ∀j,j<(ι id).cap*t.size→_
         rw [hcap]
         intro j hj
         by_cases lR:j<k*t.size
         ·exact .inl (hr.inF j lR)
         ·exact .inr (hU j (by omega) hj)
        ·show ∀j,j<(ι id).cap*t.size→_
         rw [hcap]
         intro j hj aA
         by_cases lR:j<k*t.size
         ·exact g2 j lR aA
         ·exact ha _ _ (g3 _ _ aA) (hU j (by omega) hj)
    | _=>rw [ho] at hb;simp at hb
  | b1 u dp ct xs =>
   simp only at hk
   obtain ⟨p,i,T,ver,ys,b,o,rS,rfl,e6,_,hl,k6,rfl,Zz⟩:=hk
   simp only [ad.back,List.cons_append,List.nil_append] at hb
   obtain ⟨s1,lL,hb2⟩:=bf hb
   obtain rfl:=aU hb2
   simp only [vQ,e6] at lL
   cases ho:s.o p.id with
   | cf eC =>
    rw [ho] at lL
    obtain ⟨rfl,eD,hcap⟩:=hl eC ho
    simp only at lL
    obtain ⟨z,hz,lL⟩:=bf lL
    obtain rfl:=aU lL
    refine⟨rfl,?_⟩
    exact yH h (id:=p.id) (o:=.row T T.own (ver+1) (ys.set i z)) (i:=⟨(ι p.id).base,(ι p.id).cap,F.or H⟩) (by rw [ho];exact fun h=>h) (fun o'=>by simp) (by rw [ho];exact .rH _ _ _ _ _ _ _ _ _ (by omega) (by simp) rfl rfl)
     (fun hm=>.inr ⟨at_ b o,eD,by
      have:=Zz w Z F x z (b4.refl _ _) hr ha hz
      rw [← hcap] at this
      exact this⟩) (hF.or cD)
   | _=>rw [ho] at lL;simp at lL
  | _=>exact hk.elim
 | .st aj,m,x,c1,rest,s,ι,r,us,F,H,hb,h,hk,hr,hF,cD,ha=>by
  simp only [ad.back] at hb
  simp only [cY] at hk
  simp only [ad.al] at hr
  exact ax.yI aj m.parts x c1 rest s ι r us F H hb h hk hr hF cD ha
theorem ax.yI:∀(aj:ax) (m:cU) (x:aj.D) (c1 rest:List a_) (s:aq) (ι : Nat→bH) (r:List a_×aq) (us:List Value) (F H:ah),aj.back x (c1++rest) s=some r→Inv w0 F0 Z0 n s a w ι Z →
  fI false w Z s ι aj m c1 us H→aj.al w Z m x us F→bL w0 F0 s w ι Z F→bL w0 F0 s w ι Z H→ah.apart F H→r.1=rest∧ox w0 F0 Z0 n s a w ι Z r.2 (F.or H)
 | .nil,m,x,c1,rest,s,ι,r,us,F,H,hb,h,hk,hr,hF,cD,ha=>by
  simp only [fI] at hk
  obtain ⟨rfl,rfl⟩:=hk
  simp only [ax.back,List.nil_append,Option.some.injEq] at hb
  subst hb
  exact⟨rfl,tL h _⟩
 | .cons t aj,m,x,c1,rest,s,ι,r,us,F,H,hb,h,hk,hr,hF,cD,ha=>by
  simp only [fI] at hk
  obtain ⟨d1,d2,v1,v2,H1,H2,rfl,rfl,k1,k2,k7,je,hU⟩:=hk
  simp only [ax.al] at hr
  obtain ⟨us1,us2,G1,G2,he,bz,cc,pC,fc,hy⟩:=hr
  have hlen:v1.length=us1.length:=by rw [cY.len t m.ag k1,(ad.al.len t m.ag bz).1]
  obtain ⟨rfl,rfl⟩:=List.append_inj he hlen
  simp only [ax.back,List.append_assoc] at hb
  obtain ⟨q,hq,hb⟩:=bf hb
  obtain ⟨e1,dA,i1,rW,fJ,yJ⟩:=ad.yI t m.ag x.1 d1 (d2++rest) s ι q v1 G1 H1 hq h k1 bz (hF.sub fc) (cD.sub je) (fun b o h1 h2=>ha b o (fc b o h1) (je b o h2))
  rw [e1] at hb
  obtain ⟨e2,eB,i2,nx,mz,ny⟩:=ax.yI aj m.dv x.2 d2 rest q.2 dA r v2 G2 H2 hb i1 (fI.move (rW.mono fun _ _ _=>trivial) (fun _ _ h=>h) aj m.dv k2) cc
   (fJ G2 (hF.sub hy) (by rintro b o h1 (h2 | h2);exact pC b o h2 h1;exact ha b o (hy b o h1) (je b o h2)))
   (fJ H2 (cD.sub hU) (by rintro b o h1 (h2 | h2);exact ha b o (fc b o h2) (hU b o h1);exact k7 b o h2 h1))
   (fun b o h1 h2=>ha b o (hy b o h1) (hU b o h2))
  refine⟨e2,eB,i2,rW.trans nx,fun X hX fK=>mz X (fJ X hX ?_) ?_,fun id hl=>?_⟩
  ·rintro b o h1 (h2 | h2)
   ·exact fK b o h1 (.inl (fc b o h2))
   ·exact fK b o h1 (.inr (je b o h2))
  ·rintro b o h1 (h2 | h2)
   ·exact fK b o h1 (.inl (hy b o h2))
   ·exact fK b o h1 (.inr (hU b o h2))
  ·obtain ⟨ej,fm⟩:=yJ id hl
   obtain ⟨gl,jJ⟩:=ny id (ej ▸ hl)
   exact⟨gl.trans ej,jJ.trans fm⟩
end
end
end Go.LM
namespace Go.LM
section
variable{P:Program}{Q:Exit→Act→World→Prop}
variable{g:Bool}{w0:World}{F0 Z0:ah}{n:cC}{s ar:aq}{a b7:Act}{w w' b5:World}{ι bb eB:Nat→bH}{Z Z' bN:ah}
theorem lG.held(h:lG s ι ar bb)(H:ah):gN false w Z s ι w Z ar bb H:=by
 have hm:eI w Z s ι w Z ar bb:=h.ei
 refine⟨fun _ _=>aP.move hm,fun _ _=>cj.move hm,fun _ _ h=>h,fun id o' _ ho=>?_,fun h=>by simp at h,b4.refl _ _,b4.refl _ _,fun _ _ h=>h,fun _ _ _ h=>h⟩
 by_cases hn:s.o id=.none
 ·exact absurd ho (h.nl id o' hn)
 ·obtain ⟨h1,h2⟩:=h.o id hn
  exact⟨by rw [← h1,ho],h2⟩
theorem yK{dp:List (Nat×Nat)}(hl:∀d,d∈dp→(s.o d.1).live)(hk:∀id,(s.o id).live→ar.o id=s.o id ∧ bb id = ι id):(∀d,d∈dp→(ar.o d.1).live)∧df bb dp=df ι dp:=by
 refine⟨fun d ag=>by rw [(hk d.1 (hl d ag)).1];exact hl d ag,?_⟩
 funext b o
 apply propext
 constructor
 ·rintro ⟨d,ag,hf⟩;exact⟨d,ag,by rw [← (hk d.1 (hl d ag)).2];exact hf⟩
 ·rintro ⟨d,ag,hf⟩;exact⟨d,ag,by rw [(hk d.1 (hl d ag)).2];exact hf⟩
theorem lG.keeps(h:lG s ι ar bb):∀id,(s.o id).live→ar.o id=s.o id ∧ bb id = ι id:=fun id hl=>h.o id (fun e=>by rw [e] at hl;exact hl)
theorem bL.df{F:ah}{dp:List (Nat×Nat)}(hF:bL w0 F0 s w ι Z F)(hl:∀d,d∈dp→(s.o d.1).live):ah.apart F (LM.df ι dp):=by
 rintro b o h ⟨d,ag,hf⟩
 exact hF.apart d.1 (hl d ag) b o h hf
theorem ox.trans{s1 s2:aq}{dA:Nat→bH}{Qa Qb eK:ah}(h1:Inv w0 F0 Z0 n s1 a w dA Z)(hh:gN false w Z s ι w Z s1 dA (fun _ _=>True))(hf:∀X,bL w0 F0 s w ι Z X→ah.apart X Qa→bL w0 F0 s1 w dA Z X)
  (hl:∀id,(s.o id).live→s1.o id=s.o id ∧ dA id = ι id) (k:ox w0 F0 Z0 n s1 a w dA Z s2 Qb) (gP:ah.sub (Qa.or Qb) eK):ox w0 F0 Z0 n s a w ι Z s2 eK:=by
 obtain ⟨eB,i2,nx,mz,ny⟩:=k
 refine⟨eB,i2,hh.trans nx,fun X hX fK=>mz X (hf X hX fun b o x y=>fK b o x (gP b o (.inl y))) fun b o x y=>fK b o x (gP b o (.inr y)),fun id b6=>?_⟩
 obtain ⟨ej,fm⟩:=hl id b6
 obtain ⟨gl,jJ⟩:=ny id (ej ▸ b6)
 exact⟨gl.trans ej,jJ.trans fm⟩
theorem iB.mono(hZ:ah.sub Z Z'):∀(ps:List bA) {us:List Value} {x:(bA.d' ps).D} {F F':ah},ah.sub F F'→iB w Z ps us x F→iB w Z' ps us x F'
 | [],_,_,_,_,_,_=>trivial
 | .mut t m m' :: ps,_,_,_,_,hF,⟨b,o,vs,aS,G,H,h1,h2,h3,h4,a8,bl,bK,cV⟩=>⟨b,o,vs,aS,G,H,h1,h2,ad.al.mono hZ _ _ (fun _ _ h=>h) h3,iB.mono hZ ps (fun _ _ h=>h) h4,a8,bl,fun b o h=>hF b o (bK b o h),fun b o h=>hF b o (cV b o h)⟩
 | .hQ t m :: ps,_,_,_,_,hF,⟨vs,aS,G,H,h1,h2,h3,h4,a8,bl⟩=>⟨vs,aS,G,H,h1,ad.al.mono hZ _ _ (fun _ _ h=>h) h2,iB.mono hZ ps (fun _ _ h=>h) h3,h4,fun b o h=>hF b o (a8 b o h),fun b o h=>hF b o (bl b o h)⟩
 | .val _ _ :: ps,_,_,_,_,hF,⟨u,aS,h1,h2⟩=>⟨u,aS,h1,iB.mono hZ ps hF h2⟩
 | .hR _ :: ps,_,_,_,_,hF,⟨u,aS,h1,h2⟩=>⟨u,aS,h1,iB.mono hZ ps hF h2⟩
 | .ref _ :: ps,_,_,_,_,hF,⟨u,aS,h1,h2⟩=>⟨u,aS,h1,iB.mono hZ ps hF h2⟩
 | .fn _ _ :: ps,_,_,_,_,hF,⟨u,aS,h1,h2⟩=>⟨u,aS,h1,iB.mono hZ ps hF h2⟩
theorem rX{dp:List (Nat×Nat)} : ∀(ps:List bA) (vs:List a7) (us:List Value) (x:(bA.d' ps).D) (s:aq) (ι : Nat→bH) (j:Nat) (q:aq×Nat) (F H:ah),mf dp ps vs x s j=some q→Inv w0 F0 Z0 n s a w ι Z →
  eW false w Z s ι ps vs us H→iB w (Z.or (df ι dp)) ps us x F→bL w0 F0 s w ι Z F→bL w0 F0 s w ι Z H→ah.apart F H→(∀d,d∈dp→(s.o d.1).live∧ew s d)→ox w0 F0 Z0 n s a w ι Z q.1 (F.or H)
 | [],vs,us,x,s,ι,j,q,F,H,hu,h,hk,hr,hF,cD,ha,ag=>by
  simp only [mf,Option.some.injEq] at hu
  subst hu
  exact tL h _
 | .val t m :: ps,vs,us,x,s,ι,j,q,F,H,hu,h,hk,hr,hF,cD,ha,ag=>by
  obtain ⟨v,bJ,u,aS,rfl,rfl,hk⟩:=hk
  obtain ⟨hp,us2,he,hr⟩:=hr
  simp only [List.cons.injEq] at he
  obtain ⟨rfl,rfl⟩:=he
  exact rX ps bJ aS x s ι j q F H (by simpa only [mf] using hu) h hk hr hF cD ha ag
 | .hR t :: ps,vs,us,x,s,ι,j,q,F,H,hu,h,hk,hr,hF,cD,ha,ag=>by
  obtain ⟨v,bJ,u,aS,rfl,rfl,hk⟩:=hk
  obtain ⟨hp,us2,he,hr⟩:=hr
  simp only [List.cons.injEq] at he
  obtain ⟨rfl,rfl⟩:=he
  exact rX ps bJ aS x s ι j q F H (by simpa only [mf] using hu) h hk hr hF cD ha ag
 | .ref t :: ps,vs,us,x,s,ι,j,q,F,H,hu,h,hk,hr,hF,cD,ha,ag=>by
  obtain ⟨v,bJ,u,aS,rfl,rfl,hk⟩:=hk
  obtain ⟨hp,us2,he,hr⟩:=hr
  simp only [List.cons.injEq] at he
  obtain ⟨rfl,rfl⟩:=he
  exact rX ps bJ aS x s ι j q F H (by simpa only [mf] using hu) h hk hr hF cD ha ag
 | .fn _ _ :: ps,vs,us,x,s,ι,j,q,F,H,hu,h,hk,hr,hF,cD,ha,ag=>by
  obtain ⟨v,bJ,u,aS,rfl,rfl,hk⟩:=hk
  obtain ⟨hp,us2,he,hr⟩:=hr
  simp only [List.cons.injEq] at he
  obtain ⟨rfl,rfl⟩:=he
  exact rX ps bJ aS x s ι j q F H (by simpa only [mf] using hu) h hk hr hF cD ha ag
 | .hQ t m :: ps,vs,us,x,s,ι,j,q,F,H,hu,h,hk,hr,hF,cD,ha,ag=>by
  obtain ⟨v,bJ,u,aS,cs,H1,H2,rfl,rfl,hcs,rfl,k1,k2,k7,je,hU⟩:=hk
  obtain ⟨ws,us2,G1,G2,he,bz,cc,pC,fc,hy⟩:=hr
  simp only [List.cons.injEq] at he
  obtain ⟨rfl,rfl⟩:=he
  simp only [mf,hcs] at hu
  obtain ⟨r,hb,hu⟩:=bf hu
  have hl:=ad.al.len t _ bz
  rw [HR hl.1 hl.2] at k1
  have Iz:t.al w Z t.own x.1 ws G1:=tu t bz
  obtain ⟨e1,dA,i1,rW,fJ,yJ⟩:=ad.yI t t.own x.1 cs [] s ι r ws G1 H1 (by rw [List.append_nil];exact hb) h k1 Iz (hF.sub fc) (cD.sub je) (fun b o x y=>ha b o (fc b o x) (je b o y))
  have hdl:=yK (dp:=dp) (fun d hm=>(ag d hm).1) yJ
  have yL:=rX ps bJ aS x.2 r.2 dA j q G2 H2 hu i1 (eW.move (rW.mono fun _ _ _=>trivial) (fun _ _ h=>h) ps k2) (by rw [hdl.2];exact cc)
   (fJ G2 (hF.sub hy) (by rintro b o x (y | y);exact pC b o y x;exact ha b o (hy b o x) (je b o y)))
   (fJ H2 (cD.sub hU) (by rintro b o x (y | y);exact ha b o (fc b o y) (hU b o x);exact k7 b o y x))
   (fun b o x y=>ha b o (hy b o x) (hU b o y)) (fun d hm=>⟨hdl.1 d hm,by have:=(ag d hm).2;unfold ew known kv at *;rw [(yJ d.1 (ag d hm).1).1];exact this⟩)
  refine ox.trans i1 rW fJ yJ yL ?_
  rintro b o ((y | y) | (y | y))
  ·exact .inl (fc b o y)
  ·exact .inr (je b o y)
  ·exact .inl (hy b o y)
  ·exact .inr (hU b o y)
 | .mut t m m' :: ps,vs,us,x,s,ι,j,q,F,H,hu,h,hk,hr,hF,cD,ha,ag=>by
  obtain ⟨p,bJ,u,aS,H1,H2,rfl,rfl,k1,k2,k7,je,hU⟩:=hk
  obtain ⟨b,o,ws,us2,G,fW,he,ck,bz,cc,pC,rV,fc,hy⟩:=hr
  simp only [List.cons.injEq] at he
  obtain ⟨rfl,rfl⟩:=he
  have hGF:ah.sub G F:=fun b o x=>fc b o (.inl x)
  have ZA:ah.sub (ah.run b o t.size) F:=fun b o x=>fc b o (.inr x)
  have tz:=ad.al.len t _ bz
  simp only [mf] at hu
  cases ho:s.o p.id with
  | cf eC =>
   rw [ho] at hu
   cases e6:p.e_ with
   | none =>
    rw [e6] at hu
    cases eC with
    | var ver old =>
     simp only at hu
     obtain ⟨r,hx,hu⟩:=bf hu
     rcases k1 with k1 | ⟨_,_,_,_,_,_,_,_,_,_,_,_,hk2,_⟩
     case inr=>rw [e6] at hk2;simp at hk2
     obtain ⟨nk,alc,b',o',BS,_,hl,_,iu,hle,Qc,hwr,BT,hcell⟩:=k1
     obtain ⟨bZ,eD⟩:=hl _ ho
     simp only [cn.var.injEq] at bZ
     obtain ⟨rfl,rfl⟩:=bZ
     simp only [Value.pointer.injEq,Option.some.injEq,at_,Addr.mk.injEq,and_true] at iu
     obtain ⟨rfl,rfl⟩:=iu
     obtain ⟨dA,i1,jf,c1,fJ⟩:=ad.oh t m' dp x.1 s ι j r ws G hx h bz (hF.sub hGF) ((hF.sub hGF).df fun d hm=>(ag d hm).1) (fun d hm=>(ag d hm).2)
     obtain ⟨hs1,ZB⟩:=jf.o p.id (by rw [ho];simp)
     have hcl:=c1.len
     have hol:=Qc.len
     have ald:=tz.1
     have ZC:=jf.keeps
     have IA:bL w0 F0 r.2.1 w dA Z ((ah.run b (o'+p.off) t.size).or H1):=(fJ _ (hF.sub ZA) (fun b o x y=>rV b o y x)).or (fJ _ (cD.sub je) (fun b o x y=>ha b o (hGF b o y) (je b o x)))
     have lQ:=yH i1 (id:=p.id) (o:=.var (ver+1) (old.take p.off++r.1++old.drop (p.off+t.size))) (i:=⟨(dA p.id).base,(dA p.id).cap,(ah.run b (o'+p.off) t.size).or H1⟩)
      (by rw [hs1,ho];exact fun h=>h) (fun o'=>by simp) (by rw [hs1,ho];exact .yk _ _ _ _ _ _ (by omega) rfl) (fun hm=>by
       refine⟨at_ b o',c_ BS p.off ws,by rw [ZB];exact eD,rfl,?_,?_,?_⟩
       ·have ZD:bM w Z r.2.1 dA old BS:=Qc.move jf.ei
        have:=(bM.c_ ZD c1 p.off).move hm
        rwa [show p.off+r.1.length=p.off+t.size by omega] at this
       ·intro i v hv
        unfold c_ at hv
        show w.cell? (at_ b (o'+i))=some v
        by_cases h1:i<p.off
        ·rw [List.append_assoc,List.getElem?_append_left (by simp;omega),List.getElem?_take,if_pos h1] at hv
         exact hcell i v hv (.inl h1)
        ·by_cases h2:i<p.off+t.size
         ·rw [List.getElem?_append_left (by simp;omega),List.getElem?_append_right (by simp;omega)] at hv
          simp only [List.length_take] at hv
          have:=ck _ v hv
          rwa [show o'+p.off +(i-min p.off BS.length)=o'+i by omega] at this
         ·rw [List.getElem?_append_right (by simp;omega)] at hv
          simp only [List.length_append,List.length_take,List.getElem?_drop] at hv
          rw [show p.off+ws.length +(i-(min p.off BS.length+ws.length))=i by omega] at hv
          exact hcell i v hv (.inr (by omega))
       ·intro i hi
        have c4:i<old.length:=by simp only [List.length_append,List.length_take,List.length_drop] at hi;omega
        refine⟨hwr i c4,?_⟩
        show(ah.run b (o'+p.off) t.size).or H1 b (o'+i)
        by_cases hh:i<p.off∨p.off+t.size≤i
        ·exact .inr (BT i c4 hh)
        ·exact .inl ⟨rfl,by omega,by omega⟩) IA
     obtain ⟨eB,i2,nx,mz,ny⟩:=lQ
     have IB:∀id,(s.o id).live→(r.2.1.bR p.id (.var (ver+1) (old.take p.off++r.1++old.drop (p.off+t.size)))).o id=s.o id ∧ eB id = ι id:=fun id b6=>by
      obtain ⟨ej,fm⟩:=ZC id b6
      obtain ⟨gl,jJ⟩:=ny id (ej ▸ b6)
      exact⟨gl.trans ej,jJ.trans fm⟩
     have wE:gN false w Z s ι w Z (r.2.1.bR p.id (.var (ver+1) (old.take p.off++r.1++old.drop (p.off+t.size)))) eB (fun _ _=>True):=(jf.held _).trans nx
     have j8:∀X,bL w0 F0 s w ι Z X→ah.apart X ((G.or (ah.run b (o'+p.off) t.size)).or H1)→bL w0 F0 (r.2.1.bR p.id (.var (ver+1) (old.take p.off++r.1++old.drop (p.off+t.size)))) w eB Z X:=fun X hX fK=>by
      refine mz X (fJ X hX fun b o x y=>fK b o x (.inl (.inl y))) ?_
      rintro b o x (y | y)
      ·exact fK b o x (.inl (.inr y))
      ·exact fK b o x (.inr y)
     have hdl:=yK (dp:=dp) (fun d hm=>(ag d hm).1) IB
     have yL:=rX ps bJ aS x.2 _ eB r.2.2 q fW H2 hu i2 (eW.move (wE.mono fun _ _ _=>trivial) (fun _ _ h=>h) ps k2) (by rw [hdl.2];exact cc)
      (j8 fW (hF.sub hy) (by rintro b o x (y | y);exact pC b o y x;exact ha b o (hy b o x) (je b o y)))
      (j8 H2 (cD.sub hU) (by rintro b o x (y | y);exact ha b o (fc b o y) (hU b o x);exact k7 b o y x))
      (fun b o x y=>ha b o (hy b o x) (hU b o y)) (fun d hm=>⟨hdl.1 d hm,by have:=(ag d hm).2;unfold ew known kv at *;rw [(IB d.1 (ag d hm).1).1];exact this⟩)
     refine ox.trans i2 wE j8 IB yL ?_
     rintro b o ((y | y) | (y | y))
     ·exact .inl (fc b o y)
     ·exact .inr (je b o y)
     ·exact .inl (hy b o y)
     ·exact .inr (hU b o y)
    | _=>simp at hu
   | some i =>
    rw [e6] at hu
    cases eC with
    | row gO em ver xs =>
     simp only at hu
     obtain ⟨y,aN,hu⟩:=bf hu
     obtain ⟨e1,tM⟩:=Be aN
     subst e1
     have tM:x.1=y:=tM.symm
     subst tM
     rcases k1 with⟨_,_,_,_,_,_,_,hk2,_⟩ | ⟨mq,ov,k1⟩
     ·rw [e6] at hk2;simp at hk2
     obtain ⟨nk,fU,cz,b',o',c,G1,G2,_,hl,Qd,hi,iu,Iy,hwr,BT,ZE,ZF,ZG,Qe,Qf,Qg⟩:=k1
     obtain ⟨bZ,eD,hcap⟩:=hl _ ho
     simp only [cn.row.injEq,heq_eq_eq,true_and] at bZ
     obtain ⟨rfl,rfl,rfl⟩:=bZ
     rw [e6] at Qd
     obtain rfl:=aU Qd
     simp only [Value.pointer.injEq,Option.some.injEq,at_,Addr.mk.injEq,and_true] at iu
     obtain ⟨rfl,rfl⟩:=iu
     subst mq
     have Iz:t.al w Z m' x.1 ws G:=by rw [ov] at bz ⊢;exact tu t bz
     have hcs:(i+1)*t.size≤c*t.size:=Nat.mul_le_mul_right _ (by omega)
     rw [Nat.add_one_mul] at hcs
     have IA:bL w0 F0 s w ι Z ((G.or (ah.run b (o'+i*t.size) t.size)).or H1):=(hF.sub fc).or (cD.sub je)
     have lQ:=yH h (id:=p.id) (o:=.row t m' (ver+1) (xs.set i x.1)) (i:=⟨(ι p.id).base,(ι p.id).cap,(G.or (ah.run b (o'+i*t.size) t.size)).or H1⟩)
      (by rw [ho];exact fun h=>h) (fun o'=>by simp) (by rw [ho];exact .rH _ _ _ _ _ _ _ _ _ (by omega) (by simp) rfl rfl) (fun hm=>by
       right
       refine⟨at_ b o',eD,rfl,?_,?_,?_,?_⟩
       ·show(xs.set i x.1).length≤(ι p.id).cap
        rw [List.length_set,hcap];exact Iy
       ·show ∀j,j<(ι p.id).cap*t.size→_
        rw [hcap];exact hwr
       ·show ∀j,j<(ι p.id).cap*t.size→_
        rw [hcap]
        intro j hj
        show((G.or (ah.run b (o'+i*t.size) t.size)).or H1) b (o'+j)
        by_cases hh:j<i*t.size∨(i+1)*t.size≤j
        ·exact .inr (BT j hj hh)
        ·rw [Nat.add_one_mul] at hh
         exact .inl (.inr ⟨rfl,by omega,by omega⟩)
       ·refine⟨G1.or (G.or G2),Row.BI i hi ZE Iz tz.1 ck ZF (fun b o x y=>ha b o (hGF b o y) (je b o (Qe b o x))) ZG (fun b o x y=>ha b o (hGF b o x) (je b o (Qf b o y))),?_,?_⟩
        ·show ∀j,j<(ι p.id).cap*t.size→_
         rw [hcap]
         rintro j hj (aA | aA | aA)
         ·exact(Qg j hj).1 aA
         ·by_cases hh:j<i*t.size∨(i+1)*t.size≤j
          ·exact ha _ _ (hGF _ _ aA) (je _ _ (BT j hj hh))
          ·rw [Nat.add_one_mul] at hh
           exact rV _ _ aA ⟨rfl,by show o'+i*t.size≤o'+j;omega,by show o'+j<_;omega⟩
         ·exact(Qg j hj).2 aA
        ·rintro b o (aA | aA | aA)
         ·exact .inr (Qe b o aA)
         ·exact .inl (.inl aA)
         ·exact .inr (Qf b o aA)) IA
     obtain ⟨eB,i2,nx,mz,ny⟩:=lQ
     have hdl:=yK (dp:=dp) (fun d hm=>(ag d hm).1) ny
     have yL:=rX ps bJ aS x.2 _ eB j q fW H2 hu i2 (eW.move (nx.mono fun _ _ _=>trivial) (fun _ _ h=>h) ps k2) (by rw [hdl.2];exact cc)
      (mz fW (hF.sub hy) (by rintro b o x (y | y);exact pC b o y x;exact ha b o (hy b o x) (je b o y)))
      (mz H2 (cD.sub hU) (by rintro b o x (y | y);exact ha b o (fc b o y) (hU b o x);exact k7 b o y x))
      (fun b o x y=>ha b o (hy b o x) (hU b o y)) (fun d hm=>⟨hdl.1 d hm,by have:=(ag d hm).2;unfold ew known kv at *;rw [(ny d.1 (ag d hm).1).1];exact this⟩)
     refine ox.trans i2 nx mz ny yL ?_
     rintro b o ((y | y) | (y | y))
     ·exact .inl (fc b o y)
     ·exact .inr (je b o y)
     ·exact .inl (hy b o y)
     ·exact .inr (hU b o y)
    | _=>simp at hu
  | _=>rw [ho] at hu;simp at hu
end
end Go.LM
namespace Go.LM
section
variable{P:Program}{Q:Exit→Act→World→Prop}
variable{g:Bool}{w0:World}{F0 Z0:ah}{n:cC}{s ar:aq}{a b7:Act}{w w' b5:World}{ι bb eB:Nat→bH}{Z Z' bN:ah}
variable{E:Env}{o:Oper}{bu : Type}{K:aq→Option bu}{r : bu}{id:Nat}
theorem BU:∀ {dp:List (Nat×Nat)},alive s dp=true→∀d,d∈dp→(s.o d.1).live
 | [],_,d,ag=>by simp at ag
 | (i,v) :: dp,h,d,ag=>by
  unfold alive at h
  rcases List.mem_cons.1 ag with rfl | ag
  ·cases ho:s.o i with
   | row=>trivial
   | var=>trivial
   | _=>rw [ho] at h;simp at h
  ·cases ho:s.o i with
   | row t em ver xs =>
    rw [ho] at h
    simp only at h
    cases hb:Nat.beq ver v
    ·rw [hb] at h;simp at h
    ·rw [hb] at h;exact BU h d ag
   | var ver cs =>
    rw [ho] at h
    simp only at h
    cases hb:Nat.beq ver v
    ·rw [hb] at h;simp at h
    ·rw [hb] at h;exact BU h d ag
   | _=>rw [ho] at h;simp at h
theorem aX.append:∀ {x y:List a7} {us vs:List Value},aX w Z s ι x us→aX w Z s ι y vs→aX w Z s ι (x++y) (us++vs)
 | [],_,_,_,h,k=>by simp only [aX] at h;subst h;exact k
 | _ :: _,_,_,_,h,k=>by
  simp only [aX] at h
  obtain ⟨u,aS,rfl,h1,h2⟩:=h
  simp only [List.cons_append,aX]
  exact⟨u,_,rfl,h1,h2.append k⟩
theorem IC:∀ {x:List a7} {us:List Value},oa x=true→aX w Z s ι x us→aX w Z s ι (lB x) (gf us)
 | [],_,_,h=>by simp only [aX] at h;subst h;simp only [lB,gf,aX]
 | v :: l,_,hn,h=>by
  simp only [aX] at h
  obtain ⟨u,aS,rfl,h1,h2⟩:=h
  have hl:oa l=true:=by cases v <;> simp_all [oa]
  have ih:=IC hl h2
  cases v with
  | fn f a b =>
   simp only [aP] at h1
   obtain ⟨xs,ys,rfl,c7,eJ⟩:=h1
   simp only [lB,gf]
   exact(c7.append eJ).append ih
  | aD=>simp [oa] at hn
  | aT c =>
   simp only [lB]
   have:∀f a b,u≠.func f a b:=by
    rintro f a b rfl
    simp only [aP] at h1
    cases c with
    | b1=>obtain ⟨_,⟨_,_,_,h⟩,_⟩:=h1;simp at h
    | ag=>obtain ⟨_,_,_,_,h,_⟩:=h1;simp at h
    | str=>obtain ⟨_,h,_⟩:=h1;simp at h
    | raw=>obtain ⟨h,_,_,_,h2⟩:=h1;rw [h2] at h;simp at h
    | _=>simp [cj] at h1
   cases u <;> first | exact ih | exact absurd rfl (this _ _ _)
  | iC cs=>simp only [aP] at h1;obtain ⟨_,rfl,_⟩:=h1;exact ih
  | ptr p=>simp only [aP] at h1;obtain ⟨_,_,rfl,_⟩:=h1;exact ih
  | di=>simp only [aP] at h1;obtain ⟨_,_,_,_,rfl,_⟩:=h1;exact ih
  | gone=>simp [oa] at hn
  | ry=>simp [oa] at hn
  | j1=>simp only [aP] at h1;subst h1;exact ih
  | kS=>simp only [aP] at h1;subst h1;exact ih
  | may=>simp only [aP] at h1;rcases h1 with⟨_,rfl⟩ | ⟨_,_,_,_,_,rfl,_⟩ <;> exact ih
  | opt=>simp only [aP] at h1;rcases h1.2 with⟨_,rfl⟩ | ⟨_,_,rfl,_⟩ <;> exact ih
  | pb=>simp only [aP] at h1;obtain ⟨_,rfl,_⟩:=h1;exact ih
mutual
theorem cY.mA:∀(t:ad) (m:ba) {cs:List a_} {vs:List Value} {H:ah},cY true w Z s ι t m cs vs H→cY false w Z s ι t m cs vs H
 | .int _,_,_,_,_,hk=>by simp only [cY] at hk ⊢;exact hk
 | .bool,_,_,_,_,hk=>by simp only [cY] at hk ⊢;exact hk
 | .str,_,_,_,_,hk=>by simp only [cY] at hk ⊢;exact hk
 | .raw,_,_,_,_,hk=>by simp only [cY] at hk ⊢;exact hk
 | .sl t,.R,_,_,_,hk=>by simp only [cY] at hk
 | .sl t,.S _,_,_,_,hk=>by simp only [cY] at hk
 | .sl t,.O e,_,_,_,hk=>by
  simp only [cY] at hk ⊢
  obtain ⟨c,v,h1,h2,hk⟩:=hk
  refine⟨c,v,h1,h2,?_⟩
  cases c with
  | nil=>exact hk
  | ag id sub =>
   cases sub with
   | some=>exact hk
   | none=>obtain ⟨ver,xs,A,k,c,_,h⟩:=hk;exact⟨ver,xs,A,k,c,fun h=>by simp at h,h⟩
  | b1 u dp ct xs=>obtain ⟨p,i,T,ver,ys,b,o,c,h1,h2,_,h⟩:=hk;exact⟨p,i,T,ver,ys,b,o,c,h1,h2,fun h=>by simp at h,h⟩
  | _=>exact hk
 | .st aj,m,_,_,_,hk=>by simp only [cY] at hk ⊢;exact fI.mA aj m.parts hk
theorem fI.mA:∀(aj:ax) (m:cU) {cs:List a_} {vs:List Value} {H:ah},fI true w Z s ι aj m cs vs H→fI false w Z s ι aj m cs vs H
 | .nil,_,_,_,_,hk=>by simp only [fI] at hk ⊢;exact hk
 | .cons t aj,m,_,_,_,hk=>by
  simp only [fI] at hk ⊢
  obtain ⟨c1,gJ,v1,v2,H1,H2,h1,h2,h3,h4,a8⟩:=hk
  exact⟨c1,gJ,v1,v2,H1,H2,h1,h2,cY.mA t m.ag h3,fI.mA aj m.dv h4,a8⟩
end
theorem eW.mA:∀(ps:List bA) {vs:List a7} {us:List Value} {H:ah},eW true w Z s ι ps vs us H→eW false w Z s ι ps vs us H
 | [],_,_,_,_=>trivial
 | .mut t m m' :: ps,_,_,_,⟨p,bJ,u,aS,H1,H2,h1,h2,h3,h4,a8⟩ =>
  ⟨p,bJ,u,aS,H1,H2,h1,h2,h3.imp (fun⟨a,b,c,d,e,_,h⟩=>⟨a,b,c,d,e,fun h=>by simp at h,h⟩) (fun⟨c7,eJ,a,b,c,d,e,f,g1,g2,_,h⟩=>⟨c7,eJ,a,b,c,d,e,f,g1,g2,fun h=>by simp at h,h⟩),eW.mA ps h4,a8⟩
 | .hQ t m :: ps,_,_,_,⟨v,bJ,u,aS,cs,H1,H2,h1,h2,h3,ov,h4,a8,bl⟩=>⟨v,bJ,u,aS,cs,H1,H2,h1,h2,h3,ov,cY.mA t m h4,eW.mA ps a8,bl⟩
 | .val _ _ :: ps,_,_,_,⟨v,bJ,u,aS,h1,h2,h3⟩=>⟨v,bJ,u,aS,h1,h2,eW.mA ps h3⟩
 | .hR _ :: ps,_,_,_,⟨v,bJ,u,aS,h1,h2,h3⟩=>⟨v,bJ,u,aS,h1,h2,eW.mA ps h3⟩
 | .ref _ :: ps,_,_,_,⟨v,bJ,u,aS,h1,h2,h3⟩=>⟨v,bJ,u,aS,h1,h2,eW.mA ps h3⟩
 | .fn _ _ :: ps,_,_,_,⟨v,bJ,u,aS,h1,h2,h3⟩=>⟨v,bJ,u,aS,h1,h2,eW.mA ps h3⟩
theorem iw.mono(hZ:ah.sub Z Z'){ps:List bA}{us:List Value} : ∀(rs:List cW) {x:(cW.outs rs (bA.d' ps)).D} {dr:List Value} {F F':ah},ah.sub F F'→iw w Z ps us rs x dr F→iw w Z' ps us rs x dr F'
 | [],_,_,_,_,hF,⟨h1,h2⟩=>⟨h1,iB.mono hZ ps hF h2⟩
 | .val t m :: rs,_,_,_,_,hF,⟨vs,ec,G,H,h1,h2,h3,h4,a8,bl⟩=>⟨vs,ec,G,H,h1,ad.al.mono hZ _ _ (fun _ _ h=>h) h2,iw.mono hZ rs (fun _ _ h=>h) h3,h4,fun b o h=>hF b o (a8 b o h),fun b o h=>hF b o (bl b o h)⟩
 | .opt a off t :: rs,_,_,_,_,hF,⟨v,ec,h1,h2,h3⟩=>⟨v,ec,h1,h2,iw.mono hZ rs hF h3⟩
 | .any t :: rs,_,_,_,_,hF,⟨v,ec,h1,h2,h3⟩=>⟨v,ec,h1,h2,iw.mono hZ rs hF h3⟩
 | .pd t :: rs,_,_,_,_,hF,⟨v,ec,h1,h2,h3⟩=>⟨v,ec,h1,h2.imp (fun h=>h) fun⟨y,b,o,vs,k1,k2,k3,bg,bx⟩=>⟨y,b,o,vs,k1,k2,k3,ad.al.mono hZ _ _ (fun _ _ h=>h) bg,fun j hj=>hZ _ _ (bx j hj)⟩,iw.mono hZ rs hF h3⟩
 | .new t m :: rs,_,_,_,_,hF,⟨b,o,vs,ec,G,H,h1,h2,hw,h3,h4,a8,bl,bK,cV⟩=>⟨b,o,vs,ec,G,H,h1,h2,hw,ad.al.mono hZ _ _ (fun _ _ h=>h) h3,iw.mono hZ rs (fun _ _ h=>h) h4,a8,bl,fun b o h=>hF b o (bK b o h),fun b o h=>hF b o (cV b o h)⟩
theorem ju.plus{p:Place}{b o:Nat}(k:Nat)(h:ju s ι p (at_ b o)):ju s ι { p with off:=p.off+k } (at_ b (o+k)):=by
 obtain ⟨_,h⟩:=h
 refine⟨rfl,?_⟩
 show match (s.o p.id).core with | .var _ _=>_ | .row .. => _ | _=>_
 cases hc:(s.o p.id).core with
 | var ver cs =>
  rw [hc] at h
  obtain ⟨h1,a0,h2,h3⟩:=h
  simp only [at_,Addr.mk.injEq,and_true] at h3
  exact⟨h1,a0,h2,by simp only [at_,Addr.mk.injEq,and_true];exact⟨h3.1,by omega⟩⟩
 | row t em ver xs =>
  rw [hc] at h
  obtain ⟨i,h1,h2,a0,h3,h4⟩:=h
  simp only [at_,Addr.mk.injEq,and_true] at h4
  exact⟨i,h1,h2,a0,h3,by simp only [at_,Addr.mk.injEq,and_true];exact⟨h4.1,by omega⟩⟩
 | _=>trivial
theorem aX.get:∀ {x:List a7} {us:List Value} (i:Nat) {v:a7},aX w Z s ι x us→x[i]?=some v→∃u,us[i]?=some u∧aP w Z s ι v u
 | [],_,i,_,_,h=>by simp at h
 | y :: l,_,0,v,h,hv=>by
  simp only [aX] at h
  obtain ⟨u,aS,rfl,h1,h2⟩:=h
  simp at hv;subst hv
  exact⟨u,rfl,h1⟩
 | y :: l,_,i+1,v,h,hv=>by
  simp only [aX] at h
  obtain ⟨u,aS,rfl,h1,h2⟩:=h
  simp only [List.getElem?_cons_succ] at hv ⊢
  exact h2.get i hv
theorem aX.held{g:Bool}{H:ah}(h:gN g w Z s ι w' Z' ar bb H):∀ {x:List a7} {us:List Value},aX w Z s ι x us→aX w' Z' ar bb x us
 | [],_,hx=>by simp only [aX] at hx ⊢;exact hx
 | y :: l,_,hx=>by
  simp only [aX] at hx ⊢
  obtain ⟨u,aS,h0,h1,h2⟩:=hx
  exact⟨u,aS,h0,h.az _ _ h1,aX.held h h2⟩
theorem wF{bn:List (Nat×Nat)}{ps:List bA}{vs:List a7}{us:List Value} : ∀(rs:List cW) (x:(cW.outs rs (bA.d' ps)).D) (dr:List Value) (s:aq) (ι : Nat→bH) (j:Nat) (q:List a7×aq) (F H:ah),lA vs ps bn rs x s j=some q →
  Inv w0 F0 Z0 n s a w ι Z→eW false w Z s ι ps vs us H→iw w (Z.or (df ι bn)) ps us rs x dr F→bL w0 F0 s w ι Z F→bL w0 F0 s w ι Z H→ah.apart F H→(∀d,d∈bn→(s.o d.1).live∧ew s d)→aX w Z s ι vs us →
  ∃ bb,Inv w0 F0 Z0 n q.2 a w bb Z∧(∀x u,aP w Z s ι x u→aP w Z q.2 bb x u)∧aX w Z q.2 bb q.1 dr
 | [],x,dr,s,ι,j,q,F,H,hu,h,hk,hr,hF,cD,ha,ag,hv=>by
  simp only [lA] at hu
  obtain ⟨r,hx,hu⟩:=bf hu
  obtain rfl:=aU hu
  obtain ⟨rfl,hr⟩:=hr
  obtain ⟨bb,cz,held,_⟩:=rX ps vs us x s ι j r F H hx h hk hr hF cD ha ag
  exact⟨bb,cz,held.az,by simp only [aX]⟩
 | .val t m :: rs,x,dr,s,ι,j,q,F,H,hu,h,hk,hr,hF,cD,ha,ag,hv=>by
  simp only [lA] at hu
  obtain ⟨r,hx,hu⟩:=bf hu
  cases hw:j2 t r.1 with
  | none=>rw [hw] at hu;simp at hu
  | some v =>
   rw [hw] at hu
   simp only at hu
   obtain ⟨p,au,hu⟩:=bf hu
   obtain rfl:=aU hu
   obtain ⟨ws,ec,G1,G2,rfl,bz,cc,pC,fc,hy⟩:=hr
   obtain ⟨dA,i1,jf,c1,fJ⟩:=ad.oh t m bn x.1 s ι j r ws G1 hx h bz (hF.sub fc) ((hF.sub fc).df fun d hm=>(ag d hm).1) (fun d hm=>(ag d hm).2)
   have rW:gN false w Z s ι w Z r.2.1 dA (fun _ _=>True):=jf.held _
   have hdl:=yK (dp:=bn) (fun d hm=>(ag d hm).1) jf.keeps
   have ID:aX w Z r.2.1 dA vs us:=aX.move (jf.ei (w:=w) (Z:=Z)) hv
   obtain ⟨eB,i2,pD,hV⟩:=wF rs x.2 ec r.2.1 dA r.2.2 p G2 H au i1 (eW.move (rW.mono fun _ _ _=>trivial) (fun _ _ h=>h) ps hk) (by rw [hdl.2];exact cc)
    (fJ G2 (hF.sub hy) (fun b o x y=>pC b o y x)) (fJ H cD (fun b o x y=>ha b o (fc b o y) x)) (fun b o x y=>ha b o (hy b o x) y)
    (fun d hm=>⟨hdl.1 d hm,by have:=(ag d hm).2;unfold ew known kv at *;rw [(jf.keeps d.1 (ag d hm).1).1];exact this⟩) ID
   refine⟨eB,i2,fun x u hx=>pD x u (rW.az x u hx),?_⟩
   simp only [aX]
   exact⟨_,ec,rfl,pD _ _ (pq hw c1),hV⟩
 | .new t m :: rs,x,dr,s,ι,j,q,F,H,hu,h,hk,hr,hF,cD,ha,ag,hv=>by
  simp only [lA] at hu
  obtain ⟨r,hx,hu⟩:=bf hu
  obtain ⟨s1,hm,hu⟩:=bf hu
  obtain ⟨p,au,hu⟩:=bf hu
  obtain rfl:=aU hu
  obtain ⟨b6,rfl⟩:=qs hm
  obtain ⟨b,o,ws,ec,G1,G2,rfl,ck,hwr,bz,cc,pC,rV,fc,hy⟩:=hr
  have hG:ah.sub G1 F:=fun b o x=>fc b o (.inl x)
  have dM:ah.sub (ah.run b o t.size) F:=fun b o x=>fc b o (.inr x)
  obtain ⟨dA,i1,jf,c1,fJ⟩:=ad.oh t m bn x.1 s ι j r ws G1 hx h bz (hF.sub hG) ((hF.sub hG).df fun d hm=>(ag d hm).1) (fun d hm=>(ag d hm).2)
  have hl:=(ad.al.len t _ bz).1
  have hcl:=c1.len
  have j8:=fJ _ (hF.sub dM) (fun b o x y=>rV b o y x)
  obtain ⟨i2,nx,mz,ny⟩:=Ix i1 (id:=r.2.2) (o:=.var 0 r.1) (i:=⟨some (at_ b o),0,ah.run b o t.size⟩) (by rw [b6];exact fun h=>h) (fun o'=>by simp) (by rw [b6];exact .made _ _ _) (fun hm=>by
   refine⟨at_ b o,ws,rfl,rfl,c1.move hm,ck,fun k hk=>⟨hwr k (by omega),rfl,by simp [at_],by simp [at_];omega⟩⟩) j8
  have held:gN false w Z s ι w Z _ _ (fun _ _=>True):=(jf.held _).trans nx
  have Qh:∀id,(s.o id).live→(r.2.1.bR r.2.2 (.var 0 r.1)).o id=s.o id∧bU dA r.2.2 ⟨some (at_ b o),0,ah.run b o t.size⟩ id = ι id:=fun id b9=>by
   obtain ⟨h1,h2⟩:=jf.keeps id b9
   obtain ⟨h3,h4⟩:=ny id (by rw [h1];exact b9)
   exact⟨h3.trans h1,h4.trans h2⟩
  have hdl:=yK (dp:=bn) (fun d hm=>(ag d hm).1) Qh
  have ID:aX w Z _ _ vs us:=aX.held held hv
  have yM:∀X,bL w0 F0 s w ι Z X→ah.apart X (G1.or (ah.run b o t.size))→bL w0 F0 (r.2.1.bR r.2.2 (.var 0 r.1)) w (bU dA r.2.2 ⟨some (at_ b o),0,ah.run b o t.size⟩) Z X:=fun X hX fK =>
   mz X (fJ X hX fun b o x y=>fK b o x (.inl y)) fun b o x y=>fK b o x (.inr y)
  obtain ⟨IE,i3,Qi,hV⟩:=wF rs x.2 ec _ _ _ p G2 H au i2 (eW.move (held.mono fun _ _ _=>trivial) (fun _ _ h=>h) ps hk) (by rw [hdl.2];exact cc)
   (yM G2 (hF.sub hy) (fun b o x y=>pC b o y x)) (yM H cD (fun b o x y=>ha b o (fc b o y) x)) (fun b o x y=>ha b o (hy b o x) y)
   (fun d hm=>⟨hdl.1 d hm,by have:=(ag d hm).2;unfold ew known kv at *;rw [(Qh d.1 (ag d hm).1).1];exact this⟩) ID
  refine⟨IE,i3,fun x u hx=>Qi x u (held.az x u hx),?_⟩
  simp only [aX]
  refine⟨_,ec,rfl,Qi _ _ ?_,hV⟩
  simp only [aP]
  refine⟨by show bU r.2.1.o r.2.2 _ r.2.2≠_;rw [cB];simp,_,rfl,rfl,?_⟩
  show match (bU r.2.1.o r.2.2 _ r.2.2).core with | .var _ _=>_ | .row .. => _ | _=>_
  rw [cB]
  exact⟨rfl,at_ b o,by rw [cB],by simp [at_]⟩
 | .any t :: rs,x,dr,s,ι,j,q,F,H,hu,h,hk,hr,hF,cD,ha,ag,hv=>by
  simp only [lA] at hu
  obtain ⟨p,au,hu⟩:=bf hu
  obtain rfl:=aU hu
  obtain ⟨v,ec,rfl,ZH,cc⟩:=hr
  obtain ⟨eB,i2,pD,hV⟩:=wF rs x ec s ι j p F H au h hk cc hF cD ha ag hv
  refine⟨eB,i2,pD,?_⟩
  simp only [aX]
  exact⟨_,ec,rfl,by simp only [aP];exact ZH,hV⟩
 | .pd t :: rs,x,dr,s,ι,j,q,F,H,hu,h,hk,hr,hF,cD,ha,ag,hv=>by
  simp only [lA] at hu
  obtain ⟨p,au,hu⟩:=bf hu
  obtain rfl:=aU hu
  obtain ⟨v,ec,rfl,ho,cc⟩:=hr
  obtain ⟨eB,i2,pD,hV⟩:=wF rs x.2 ec s ι j p F H au h hk cc hF cD ha ag hv
  refine⟨eB,i2,pD,?_⟩
  simp only [aX]
  refine⟨v,ec,rfl,pD _ _ ?_,hV⟩
  simp only [aP]
  rcases ho with⟨h1,h2⟩ | ⟨y,b,o,bJ,h1,h2,h3,h4,a8⟩
  ·exact .inl ⟨by rw [h1];rfl,h2⟩
  ·right
   rw [h1]
   refine⟨rfl,fun d hm=>(ag d hm).2,b,o,bJ,h2,fun _=>?_⟩
   have hc:bM w Z s ι (t.cells bn none y) bJ:=ad.qo t bn none (fun d hm=>(ag d hm).2) (fun _=>h4) ⟨_,_,_,h4⟩ .none
   refine⟨hc,h3,fun j hj=>?_⟩
   have hl:=(ad.al.len t _ h4).1
   have dW:=hc.len
   exact a8 j (by rw [show(J t [y] 0)=y from rfl] at hj;omega)
 | .opt lS off t :: rs,x,dr,s,ι,j,q,F,H,hu,h,hk,hr,hF,cD,ha,ag,hv=>by
  simp only [lA] at hu
  obtain ⟨p,au,hu⟩:=bf hu
  cases dY:qj p.2 vs lS off with
  | none=>rw [dY] at hu;simp at hu
  | some id =>
   rw [dY] at hu
   simp only at hu
   cases mB:qk p.2 t id
   ·rw [mB] at hu;cases hu
   rw [mB] at hu
   simp only [cond_true] at hu
   obtain rfl:=aU hu
   obtain ⟨v,ec,rfl,ho,cc⟩:=hr
   obtain ⟨eB,i2,pD,hV⟩:=wF rs x.2 ec s ι j p F H au h hk cc hF cD ha ag hv
   refine⟨eB,i2,pD,?_⟩
   simp only [aX]
   refine⟨v,ec,rfl,?_,hV⟩
   unfold qj at dY
   cases nr:vs[lS]? with
   | none=>rw [nr] at dY;simp at dY
   | some lC =>
    rw [nr] at dY
    cases lC with
    | ptr pl =>
     simp only at dY
     cases c5:me p.2 1 { pl with off:=pl.off+off } with
     | none=>rw [c5] at dY;simp at dY
     | some cs =>
      rw [c5] at dY
      have hcs:cs=[.ag id none]:=by
       split at dY
       ·rename_i h;obtain rfl:=aU dY;exact aU h
       ·simp at dY
      subst hcs
      obtain ⟨u,wG,rY⟩:=hv.get lS nr
      have rY:=pD _ _ rY
      simp only [aP] at rY
      obtain ⟨j6,A,rfl,mC⟩:=rY
      obtain ⟨b,o,sp⟩:=A
      have hsp:=mC.1
      simp only at hsp
      subst hsp
      obtain ⟨og,eH,ws,hA,hc1,hc2,yG⟩:=yn i2 c5 (ju.plus (b:=b) (o:=o) off mC)
      simp only [at_,Addr.mk.injEq,and_true] at hA
      obtain ⟨rfl,rfl⟩:=hA
      match ws,hc1 with
      | [v0],hc1 =>
       obtain ⟨hk0,A,m,k,rfl,hh⟩:=hc1.1
       simp only [aP]
       refine⟨hk0,?_⟩
       rcases ho with⟨h1,h2⟩ | ⟨h1,pv,eV,jc,dH,fV,c1,h2,h3,h4,a8⟩
       ·exact .inl ⟨h1,h2⟩
       ·right
        refine⟨h1,_,a8,rfl,?_⟩
        rw [wG] at h2
        simp only [Option.some.injEq,Value.pointer.injEq,at_,Addr.mk.injEq,and_true] at h2
        obtain ⟨rfl,rfl⟩:=h2
        have:=hc2.head
        rw [h3] at this
        simp only [Option.some.injEq,Value.slice.injEq] at this
        obtain ⟨rfl,rfl,rfl⟩:=this
        show match (p.2.o id).core with | .var _ _=>_ | .row .. => _ | _=>_
        unfold qk at mB
        cases bZ:p.2.o id with
        | row u em ver xs =>
         rw [bZ] at mB
         have:=ad.eq_of_beq _ _ mB
         subst this
         obtain ⟨c7,eJ,iD,iE,iF⟩:=hh u em ver xs (lD bZ)
         have c7:fV=xs.length:=c7
         rcases iF with iF | ⟨a0,nm,ns⟩
         ·omega
         ·simp only [eh,Nat.zero_mul,Nat.add_zero,Option.some.injEq,at_,Addr.mk.injEq,and_true] at ns
          refine⟨_,rfl,by omega,a0,nm,?_⟩
          simp only [at_,Addr.mk.injEq,and_true]
          exact⟨ns.1,by omega⟩
        | _=>rw [bZ] at mB;cases mB
    | _=>simp at dY
end
end Go.LM
namespace Go.LM
section
variable{P:Program}{Q:Exit→Act→World→Prop}
variable{g:Bool}{w0:World}{F0 Z0:ah}{n:cC}{s ar:aq}{a b7:Act}{w w' b5:World}{ι bb eB:Nat→bH}{Z Z' bN:ah}
variable{E:Env}{o:Oper}{bu : Type}{K:aq→Option bu}{r : bu}{id:Nat}
def BV:List a7→a7
 | [v]=>v
 | l=>.pb l
theorem Calls.mono{P:Program}{f:FuncId}{args:Array Value}{w:World}{R i_:Ending→World→Prop}(h:Calls P f args w R)(dM:∀e w',R e w'→i_ e w'):Calls P f args w i_:=by
 intro cs
 obtain ⟨e,w',nz,h1,h2⟩:=h cs
 exact⟨e,w',nz,dM e w' h1,h2⟩
theorem wy.mono{P:Program}{f:FuncId}{args:Array Value}{w:World}{R i_:Ending→World→Prop}(h:wy P f args w R)(dM:∀e w',R e w'→i_ e w'):wy P f args w i_:=by
 rcases h with⟨h1,h2⟩ | ⟨v,w',h1,h2⟩
 ·exact .inl ⟨h1,Calls.mono h2 dM⟩
 ·exact .inr ⟨v,w',h1,dM _ _ h2⟩
def BW(P:Program)(E:Env):Prop:=∀f key e,E.fns f key=some e→ij P f key e
theorem ZI{f:FuncId}{vs:List a7}{us:List Value}{K:a7→aq→Option bu}(dm:BW P E)(h:Inv w0 F0 Z0 n s a w ι Z)(hv:aX w Z s ι vs us)(hk:Hi E id s f vs K=some r) :
  ∃(T:a7→aq→Prop),(∀v ar,T v ar→K v ar=some r)∧(∃v ar,T v ar)∧wy P f us.toArray w fun e w'=>∃u,e=.returned u∧∀v ar,T v ar→∃ bb Z',Inv w0 F0 Z0 n ar a w' bb Z'∧aP w' Z' ar bb v u:=by
 unfold Hi at hk
 cases hf:E.fns f (pf vs) with
 | none=>rw [hf] at hk;simp at hk
 | some e =>
  rw [hf] at hk
  simp only at hk
  cases hm:gh (pf vs) s e.ps (vs++lB vs) [] with
  | none=>rw [hm] at hk;simp at hk
  | some q =>
   obtain ⟨x,s1,bn⟩:=q
   rw [hm] at hk
   simp only at hk
   cases dX:(alive s1 bn&&oa vs)
   ·rw [dX] at hk;simp at hk
   rw [dX] at hk
   simp only [Bool.and_eq_true] at dX
   obtain ⟨dX,IF⟩:=dX
   simp only [cond_true] at hk
   obtain ⟨y,aN,hk⟩:=bf hk
   cases hu:lA (vs++lB vs) e.ps bn e.rs y s1 id with
   | none=>rw [hu] at hk;simp at hk
   | some q =>
    obtain ⟨l,s2⟩:=q
    rw [hu] at hk
    have IG:=dm f _ e hf
    have hvc:=hv.append (IC IF hv)
    obtain ⟨F,H,cq,i1,g1,bz,k1,f1,h1,a1,_,d1,_⟩:=qx e.ps _ _ s Z [] _ hm h hvc (by simp)
    simp only at i1 g1 bz k1 f1 h1 d1
    have b9:=BU dX
    have hcall:=IG.calls w (cq.or (df ι bn)) F x us y
     (by
      rintro b o (hz | ⟨d,ag,hf⟩)
      ·exact i1.i' b o hz
      ·exact(i1.own d.1 (b9 d ag) b o hf).2)
     (fun b o hf=>(f1.own b o hf).2)
     (by
      rintro b o hf (hz | hz)
      ·exact f1.c2 b o hf hz
      ·exact f1.df b9 b o hf hz) bz aN
    refine⟨fun eQ ar=>eQ=BV l∧ar=s2,?_,⟨_,s2,rfl,rfl⟩,hcall.mono ?_⟩
    ·rintro eQ ar ⟨rfl,rfl⟩
     clear hu
     match l,hk with
     | [],hk=>exact hk
     | [_],hk=>exact hk
     | _ :: _ :: _,hk=>exact hk
    ·rintro end_ w' ⟨u,rfl,⟨dr,Z',F',rfl,hx,jw,hz2,hf2,tN,hV⟩⟩
     refine⟨_,rfl,?_⟩
     rintro eQ ar ⟨rfl,rfl⟩
     let S:ah:=fun b o=>Z' b o∧(F b o∨w.heap.size≤b)
     have mD:=i1.Bz f1 hx
     have Qj:∀(X:ah),(∀b o,X b o→(F b o∨w.heap.size≤b)∧b<w'.heap.size)→bL w0 F0 s1 w' ι cq X:=by
      intro X hX
      have hsz:=i1.ext.size
      refine⟨fun b o hb=>⟨?_,(hX b o hb).2⟩,fun id hl b o hb hi=>?_,fun b o hb hz=>?_⟩
      ·rcases (hX b o hb).1 with hf | hf
       ·exact(f1.own b o hf).1
       ·exact .inr (by omega)
      ·rcases (hX b o hb).1 with hf | hf
       ·exact f1.apart id hl b o hf hi
       ·have:=(i1.own id hl b o hi).2;omega
      ·rcases (hX b o hb).1 with hf | hf
       ·exact f1.c2 b o hf hz
       ·have:=i1.i' b o hz;omega
     have Ia:bL w0 F0 s1 w' ι cq S:=Qj S (by
      rintro b o ⟨hz,hf⟩
      refine⟨hf,?_⟩
      rcases hz2 b o hz with h1 | h1
      ·have hsz:=hx.size
       rcases h1 with h1 | ⟨d,ag,h1⟩
       ·have:=i1.i' b o h1;omega
       ·have:=(i1.own d.1 (b9 d ag) b o h1).2;omega
      ·exact h1.2)
     have eX:=mD.freeze Ia
     have IH:bL w0 F0 s1 w' ι (cq.or S) F':=(Qj F' hf2).freeze (fun b o hb hs=>tN b o hb hs.1)
     have cD:bL w0 F0 s1 w' ι (cq.or S) H:=(h1.ext hx).freeze (by
      rintro b o hb ⟨_,hf | hf⟩
      ·exact a1 b o hf hb
      ·have:=(h1.own b o hb).2;omega)
     have Qk:ah.apart cq F:=fun b o hz hf=>f1.c2 b o hf hz
     have rT:eI w cq s1 ι w' (cq.or S) s1 ι := by
      refine⟨fun id=>.stay _ _,fun _ _ h=>.inl h,b4.jb hx i1.rK ?_⟩
      rintro b o (hz | ⟨id,hl,_,_,hf⟩) hs
      ·exact Qk b o hz hs
      ·exact f1.apart id hl b o hs hf
     have wE:gN false w cq s1 ι w' (cq.or S) s1 ι H :=
      ⟨fun _ _=>aP.move rT,fun _ _=>cj.move rT,rT.dI,fun _ _ _ h=>⟨h,rfl⟩,fun h=>by simp at h,b4.jb hx (fun b o hb=>(h1.own b o hb).2) (fun b o hb hf=>a1 b o hf hb),b4.jb hx i1.i' Qk,fun b o hw=>hx.qg hw,fun z b o hw=>hx.kt hw⟩
     have hvs1:aX w' (cq.or S) s1 ι (vs++lB vs) (us++gf us):=aX.move rT (aX.move g1.ei hvc)
     obtain ⟨eB,i2,_,cM⟩:=wF e.rs y dr s1 ι id (l,ar) F' H hu eX (eW.move wE (fun _ _ h=>h) e.ps k1.mA) (iw.mono (by
      intro b o hz
      by_cases hc:(F b o∨w.heap.size≤b)
      ·exact .inl (.inr ⟨hz,hc⟩)
      ·rcases hz2 b o hz with h1 | h1
       ·rcases h1 with h1 | h1
        ·exact .inl (.inl h1)
        ·exact .inr h1
       ·exact absurd h1.1 hc) e.rs (fun _ _ h=>h) hV) IH cD (by
      intro b o hb hh
      rcases (hf2 b o hb).1 with hf | hf
      ·exact a1 b o hf hh
      ·have:=(h1.own b o hh).2;omega) (fun d ag=>⟨b9 d ag,d1 d ag⟩) hvs1
     refine⟨eB,_,i2,?_⟩
     show aP w' _ ar eB (BV l) (ou dr)
     simp only at cM
     clear hk hu
     match l,cM with
     | [],cM=>simp only [aX] at cM;subst cM;simp only [BV,aP,ou];exact⟨[],rfl,by simp only [aX]⟩
     | [v0],cM =>
      simp only [aX] at cM
      obtain ⟨jM,wc,rfl,h0,rfl⟩:=cM
      exact h0
     | v0 :: v1 :: l,cM =>
      have wH:=cM
      simp only [aX] at cM
      obtain ⟨jM,wc,rfl,h0,kW,us1,rfl,h1,h2⟩:=cM
      simp only [BV,aP,ou]
      exact⟨_,rfl,wH⟩
theorem Ql{m:Nat}{n:Int}{k:Nat}(hx:aO m n=some k):0≤n∧k=n.toNat:=by
 unfold aO at hx
 by_cases hc:0≤n∧n<(m:Int)
 ·rw [if_pos hc] at hx;exact⟨hc.1,(aU hx).symm⟩
 ·rw [if_neg hc] at hx;cases hx
theorem BX{bu : Type}{r : bu} : ∀ {vs:List a7} {us:List Value} {K:List a7→Option bu},rB s vs K=some r→aX w Z s ι vs us→∃bJ,K bJ=some r∧aX w Z s ι bJ us
 | [],us,K,hk,hv=>⟨[],hk,hv⟩
 | v :: l,us,K,hk,hv=>by
  simp only [aX] at hv
  obtain ⟨u,aS,rfl,h1,h2⟩:=hv
  have keep:(rB s l fun l'=>K (v :: l'))=some r→∃bJ,K bJ=some r∧aX w Z s ι bJ (u :: aS):=fun hk=>by
   obtain ⟨l',k1,k2⟩:=BX (K:=fun l'=>K (v :: l')) hk h2
   exact⟨v :: l',k1,by simp only [aX];exact⟨u,aS,rfl,h1,k2⟩⟩
  cases v with
  | opt i n =>
   simp only [rB] at hk
   obtain ⟨k,hx,hk⟩:=bf hk
   obtain ⟨l',k1,k2⟩:=BX (K:=fun l'=>K (.ptr ⟨i,some k,0⟩ :: l')) hk h2
   refine⟨_,k1,?_⟩
   simp only [aX]
   refine⟨u,aS,rfl,?_,k2⟩
   simp only [aP] at h1 ⊢
   obtain ⟨h0,rfl⟩:=Ql hx
   obtain ⟨j6,⟨h3,_⟩ | ⟨h3,wI,rfl,h4⟩⟩:=h1
   ·omega
   ·exact⟨j6,wI,rfl,h4⟩
  | may b dp cs =>
   simp only [rB] at hk
   cases b
   ·cases hk
   obtain ⟨l',k1,k2⟩:=BX (K:=fun l'=>K (.di dp cs 0 :: l')) hk h2
   refine⟨_,k1,?_⟩
   simp only [aX]
   refine⟨u,aS,rfl,?_,k2⟩
   simp only [aP] at h1 ⊢
   rcases h1 with⟨h1,_⟩ | ⟨_,h1⟩
   ·cases h1
   ·exact h1
  | _=>exact keep hk
theorem ZJ{f:FuncId}{vs:List a7}{us:List Value}{K:a7→aq→Option bu}(dm:BW P E)(h:Inv w0 F0 Z0 n s a w ι Z)(hv:aX w Z s ι vs us)(hk:Hj E id s f vs K=some r) :
  ∃(T:a7→aq→Prop),(∀v ar,T v ar→K v ar=some r)∧(∃v ar,T v ar)∧wy P f us.toArray w fun e w'=>∃u,e=.returned u∧∀v ar,T v ar→∃ bb Z',Inv w0 F0 Z0 n ar a w' bb Z'∧aP w' Z' ar bb v u:=by
 unfold Hj at hk
 obtain ⟨bJ,eb,lE⟩:=BX hk hv
 exact ZI dm h lE eb
theorem ZK{c:Call}{bw:Operand}(dm:BW P E)(h:Inv w0 F0 Z0 n s a w ι Z)(ag:∀k,o.dst=some k→k<n)(ho:o.op=.call c)(hc:c.callee=.value bw)(hk:cT E id o s K=some r) :
  ∃ar,K ar=some r∧o.wp P a w (cX w0 F0 Z0 n ar) Q:=by
 unfold cT at hk
 rw [ho] at hk
 simp only [hc] at hk
 have hvs:=tE h c.args.toList
 have hf:=e5 h bw
 cases BY:bV s bw with
 | fn II first ly =>
  rw [BY] at hk hf
  simp only at hk
  simp only [aP] at hf
  obtain ⟨cp,cs,IJ,kZ,hcs⟩:=hf
  have qy:aX w Z s ι (first++c.args.toList.map (bV s)++ly) (cp++c.args.toList.map a.eval++cs):=(kZ.append hvs).append hcs
  obtain ⟨T,ZL,⟨v,ar,bX⟩,wJ⟩:=ZJ dm h qy hk
  refine⟨_,ZL v ar bX,?_⟩
  unfold Oper.wp
  have hrun:(execOp a.eval o).run P w=(callFunc II (cp++c.args.toList.map a.eval++cs).toArray).run P w:=by
   unfold execOp;rw [ho]
   simp only [run_bind,resolve,hc,IJ,Deferred.ofValue,run_pure,invoke]
   congr 2
   apply Array.ext'
   simp
  rw [hrun]
  rcases wJ with⟨⟨fn,yN,IK,jg⟩,wJ⟩ | ⟨u,w',tO,gO,yx,hu⟩
  ·have IL:(callFunc II (cp++c.args.toList.map a.eval++cs).toArray).run P w=.ok (.enter II (cp++c.args.toList.map a.eval++cs).toArray) w:=by
    simp only [callFunc,run_bind,run_pure,program,Sem.run,yN]
    rw [if_neg (by rw [jg];simp),if_neg (by rw [IK];simp)]
    simp only [run_pure]
   rw [IL,Oper.upon_enter]
   refine wJ.mono ?_
   rintro e w' ⟨u,rfl,hu⟩
   obtain ⟨bb,Z',hinv,cM⟩:=hu v ar bX
   exact⟨bb,Z',hinv.dst cM ag⟩
  ·rw [tO,Oper.upon_value]
   cases yx
   obtain ⟨bb,Z',hinv,cM⟩:=hu v ar bX
   exact⟨bb,Z',hinv.dst cM ag⟩
 | _=>rw [BY] at hk;simp at hk
structure jN(P:Program)(E:Env):Prop where
 ty:g' P E
 eq:Pt P E
 fns:BW P E
 mix:P.follows .mixedOrders=true
theorem ZM(bO:jN P E)(h:Inv w0 F0 Z0 n s a w ι Z)(ag:∀k,o.dst=some k→k<n)(hk:cT E id o s K=some r) :
  ∃ar,K ar=some r∧o.wp P a w (cX w0 F0 Z0 n ar) Q:=by
 have fh:(∃ar,K ar=some r∧Pure P o a w (cX w0 F0 Z0 n ar))→∃ar,K ar=some r∧o.wp P a w (cX w0 F0 Z0 n ar) Q:=fun⟨ar,h1,h2⟩=>⟨ar,h1,h2.wp⟩
 cases ho:o.op with
 | move x=>exact fh (Bq h ag (.inl ho) hk)
 | assign x=>exact fh (Bq h ag (.inr ho) hk)
 | pick c x y=>exact fh (O' h ag ho hk)
 | alloc t=>exact YB bO.ty h ag ho hk
 | box t x=>exact YC bO.ty h ag ho hk
 | build t ps=>exact fh (PM bO.ty h ag ho hk)
 | buildSlice t m ps=>exact Y3 bO.ty h ag ho hk
 | load t x=>exact YD bO.ty h ag ho hk
 | store t x y=>exact YF bO.ty h ag ho hk
 | nilCheck x=>exact fh (Pc h ag ho hk)
 | binOp op t x y Bv=>exact fh (Pw bO.ty bO.eq h ag ho hk)
 | unOp op t x=>exact fh (Ps h ag ho hk)
 | convert st gq x=>exact YT bO.ty h ag ho hk
 | makeFunc f first ly =>
  cases f with
  | func f=>exact fh (Ph h ag ho hk)
  | _=>unfold cT at hk;rw [ho] at hk;simp at hk
 | makeSlice t x y=>exact YP bO.ty h ag ho hk
 | slice t x lo hi gY=>exact fh (Po bO.ty h ag ho hk)
 | fieldAddr t x f=>exact fh (Pe bO.ty h ag ho hk)
 | field t x f=>exact fh (Pf bO.ty h ag ho hk)
 | indexAddr t x i=>exact fh (Pj bO.ty h ag ho hk)
 | index t x i=>exact fh (Pk bO.ty h ag ho hk)
 | extract x i=>exact fh (Pg h ag ho hk)
 | call c =>
  cases hc:c.callee with
  | builtin b =>
   by_cases hb:b=.append
   ·subst hb;exact Zd bO.ty h ag ho hc hk
   ·by_cases hb2:b=.clear
    ·subst hb2;exact Zl bO.ty h ag ho hc hk
    ·exact fh (PG bO.ty h ag ho hc hb hb2 hk)
  | value f=>exact ZK bO.fns h ag ho hc hk
  | invoke x m=>unfold cT at hk;rw [ho] at hk;simp [hc] at hk
 | _=>unfold cT at hk;rw [ho] at hk;simp at hk
end
end Go.LM
namespace Go.LM
mutual
theorem ad.beq_refl:∀t:ad,ad.beq t t=true
 | .int k=>by simp [ad.beq]
 | .bool=>rfl
 | .str=>rfl
 | .raw=>rfl
 | .sl t=>by simp only [ad.beq];exact ad.beq_refl t
 | .st aj=>by simp only [ad.beq];exact ax.beq_refl aj
theorem ax.beq_refl:∀t:ax,ax.beq t t=true
 | .nil=>rfl
 | .cons t aj=>by simp only [ax.beq,ad.beq_refl t,ax.beq_refl aj,cond_true]
end
theorem ZN(a:ad)(x:a.D):eG a a x=some x:=by unfold eG;rw [dif_pos (ad.beq_refl a)]
section
variable{w b5:World}{Z bN:ah}
def Qm(w:World)(Z:ah)(t:ad)(z:List t.D)(v:Value)(H1 G1:ah)(R:World→ah→List t.D→Value→ah→Prop):Prop :=
 (ad.sl t).al w Z (.O t.own) z [v] H1∧ah.apart H1 G1∧∀(b5:World) (bN X:ah) (y:List t.D) (u:Value),b4 w b5 G1→(ad.sl t).al b5 bN (.O t.own) y [u] X→ah.apart X G1→R b5 bN y u (X.or G1)
mutual
theorem ad.tP:∀(T:ad) (off:Nat) (t:ad) {x:T.D} {z:List t.D} {us:List Value} {G:ah},T.al w Z T.own x us G→T.getAt off t x=some z →
  ∃v H1 G1,us[off]?=some v∧ah.sub H1 G∧ah.sub G1 G∧Qm w Z t z v H1 G1 (fun b5 bN y u eK=>∀bF,T.setAt off t y x=some bF→T.al b5 bN T.own bF (us.set off u) eK)
 | .int _,_,_,_,_,_,_,_,h=>by simp [ad.getAt] at h
 | .bool,_,_,_,_,_,_,_,h=>by simp [ad.getAt] at h
 | .str,_,_,_,_,_,_,_,h=>by simp [ad.getAt] at h
 | .raw,_,_,_,_,_,_,_,h=>by simp [ad.getAt] at h
 | .sl u,off,t,x,z,us,G,hr,h=>by
  simp only [ad.getAt] at h
  cases hb:Nat.beq off 0
  ·rw [hb] at h;cases h
  rw [hb] at h
  obtain rfl:=Nat.eq_of_beq_eq_true hb
  obtain ⟨e,rfl⟩:=g_ h
  subst e
  have iH:=hr
  simp only [ad.own,ad.al] at hr
  obtain ⟨A,c,rfl,_⟩:=hr
  refine⟨_,G,ah.none,rfl,fun _ _ h=>h,fun _ _ h=>h.elim,iH,fun _ _ _ h=>h.elim,fun b5 bN X y jM _ h2 _ bF hs=>?_⟩
  simp only [ad.setAt] at hs
  obtain ⟨e,rfl⟩:=g_ (show eG (.sl u) (.sl u) y=some bF from hs)
  exact ad.al.mono (fun _ _ h=>h) _ _ (fun _ _ h=>.inl h) h2
 | .st aj,off,t,x,z,us,G,hr,h=>by
  have fp:aj.flat=false:=by
   cases hf:aj.flat
   ·rfl
   ·exact(ad.wx (.st aj) (by simpa only [ad.flat] using hf) h).elim
  simp only [ad.own,fp,Bool.false_eq_true,if_false,ad.al,ba.parts] at hr
  simp only [ad.getAt] at h
  obtain ⟨v,H1,G1,h1,h2,h3,h4,a8,bl⟩:=ax.tP aj off t hr h
  refine⟨v,H1,G1,h1,h2,h3,h4,a8,fun b5 bN X y jM k1 k2 k3 bF hs=>?_⟩
  simp only [ad.setAt] at hs
  simp only [ad.own,fp,Bool.false_eq_true,if_false,ad.al,ba.parts]
  exact bl b5 bN X y jM k1 k2 k3 bF hs
theorem ax.tP:∀(aj:ax) (off:Nat) (t:ad) {x:aj.D} {z:List t.D} {us:List Value} {G:ah},aj.al w Z aj.own x us G→aj.getAt off t x=some z →
  ∃v H1 G1,us[off]?=some v∧ah.sub H1 G∧ah.sub G1 G∧Qm w Z t z v H1 G1 (fun b5 bN y u eK=>∀bF,aj.setAt off t y x=some bF→aj.al b5 bN aj.own bF (us.set off u) eK)
 | .nil,_,_,_,_,_,_,_,h=>by simp [ax.getAt] at h
 | .cons T aj,off,t,x,z,us,G,hr,h=>by
  simp only [ax.own,ax.al,cU.ag,cU.dv] at hr
  obtain ⟨kW,hp,nu,nv,rfl,bz,cc,hap,ha,hb⟩:=hr
  have hl:=(ad.al.len T _ bz).1
  simp only [ax.getAt] at h
  cases cw:Nat.blt off T.size
  ·rw [cw] at h
   have Ii:T.size≤off:=by
    rcases Nat.lt_or_ge off T.size with h1 | h1
    ·have:Nat.blt off T.size=true:=Nat.ble_eq_true_of_le h1
     rw [this] at cw;cases cw
    ·exact h1
   obtain ⟨v,H1,G1,h1,h2,h3,h4,a8,bl⟩:=ax.tP aj (off-T.size) t cc h
   refine⟨v,H1,nu.or G1,?_,fun b o x=>hb b o (h2 b o x),?_,h4,?_,fun b5 bN X y jM k1 k2 k3 bF hs=>?_⟩
   ·rw [List.getElem?_append_right (by omega),hl];exact h1
   ·rintro b o (y | y)
    ·exact ha b o y
    ·exact hb b o (h3 b o y)
   ·rintro b o y (q | q)
    ·exact hap b o q (h2 b o y)
    ·exact a8 b o y q
   ·simp only [ax.setAt,cw,cond_false] at hs
    obtain ⟨jL,hz,hs⟩:=bf hs
    obtain rfl:=aU hs
    simp only [ax.own,ax.al,cU.ag,cU.dv]
    refine⟨kW,hp.set (off-T.size) jM,nu,X.or G1,by rw [List.set_append_right _ _ (by omega),hl],qv T (k1.mono fun _ _ h=>.inl h) bz,bl b5 bN X y jM (k1.mono fun _ _ h=>.inr h) k2 (fun b o p q=>k3 b o p (.inr q)) jL hz,?_,fun _ _ h=>.inr (.inl h),?_⟩
    ·rintro b o p (q | q)
     ·exact k3 b o q (.inl p)
     ·exact hap b o p (h3 b o q)
    ·rintro b o (q | q)
     ·exact .inl q
     ·exact .inr (.inr q)
  ·rw [cw] at h
   have Ii:off<T.size:=Nat.le_of_ble_eq_true cw
   obtain ⟨v,H1,G1,h1,h2,h3,h4,a8,bl⟩:=ad.tP T off t bz h
   refine⟨v,H1,G1.or nv,?_,fun b o x=>ha b o (h2 b o x),?_,h4,?_,fun b5 bN X y jM k1 k2 k3 bF hs=>?_⟩
   ·rw [List.getElem?_append_left (by omega)];exact h1
   ·rintro b o (y | y)
    ·exact ha b o (h3 b o y)
    ·exact hb b o y
   ·rintro b o y (q | q)
    ·exact a8 b o y q
    ·exact hap b o (h2 b o y) q
   ·simp only [ax.setAt,cw,cond_true] at hs
    obtain ⟨jL,hz,hs⟩:=bf hs
    obtain rfl:=aU hs
    simp only [ax.own,ax.al,cU.ag,cU.dv]
    refine⟨kW.set off jM,hp,X.or G1,nv,by rw [List.set_append_left _ _ (by omega)],bl b5 bN X y jM (k1.mono fun _ _ h=>.inl h) k2 (fun b o p q=>k3 b o p (.inl q)) jL hz,P4 aj (k1.mono fun _ _ h=>.inr h) cc,?_,?_,fun _ _ h=>.inr (.inr h)⟩
    ·rintro b o (p | p) q
     ·exact k3 b o p (.inr q)
     ·exact hap b o (h3 b o p) q
    ·rintro b o (q | q)
     ·exact .inl q
     ·exact .inr (.inl q)
end
theorem m9.tP{T:ad}{ys:List T.D}{a:Addr}{c:Nat}{F:ah}{i off:Nat}{t:ad}{z:List t.D}(h:m9 w (T.al w Z T.own) T.size ys a c F)(hi:i<ys.length)(aA:T.getAt off t (J T ys i)=some z) :
  ∃v H1,w.cell? (at_ a.block (a.off+i*T.size+off))=some v∧(ad.sl t).al w Z (.O t.own) z [v] H1∧ah.sub H1 F∧ah.diff F H1 a.block (a.off+i*T.size+off)∧fS w T.size a.block (a.off+i*T.size+off) ∧
   ∀(b5:World) (bN X:ah) (y:List t.D) (bF:T.D) (u:Value),b4 w b5 (fun b o=>ah.diff F H1 b o∧¬(b=a.block∧o=a.off+i*T.size+off))→b5.cell? (at_ a.block (a.off+i*T.size+off))=some u →
    fS b5 T.size a.block (a.off+i*T.size+off)→(ad.sl t).al b5 bN (.O t.own) y [u] X→ah.apart X (ah.diff F H1)→T.setAt off t y (J T ys i)=some bF →
    m9 b5 (T.al b5 bN T.own) T.size (ys.set i bF) a c (X.or (ah.diff F H1)):=by
 rw [c8 hi] at aA ⊢
 obtain ⟨G,g1,g2,g3⟩:=h.row
 obtain ⟨nu,jd,nv,vs,bz,Ij,hvl,ck,cc,a1,a2,a3,s1,s2,s3⟩:=g1.BH i hi
 obtain ⟨v,H1,G1,hv,k1,k2,k3,bg,bx⟩:=ad.tP T off t Ij aA
 have yz:ah.sub H1 G:=fun b o x=>s2 b o (k1 b o x)
 have hle:ys.length*T.size≤c*T.size:=Nat.mul_le_mul_right _ h.cap
 have gL:(i+1)*T.size≤ys.length*T.size:=Nat.mul_le_mul_right _ hi
 rw [Nat.add_one_mul] at gL
 have fA:off<T.size:=by
  rcases Nat.lt_or_ge off T.size with h1 | h1
  ·exact h1
  ·rw [List.getElem?_eq_none (by omega)] at hv;cases hv
 have tG:∀ {A:ah},ah.sub A G→ah.apart A H1→ah.sub A (ah.diff F H1):=fun hA au b o x=>⟨g3 b o (hA b o x),fun y=>au b o x y⟩
 have tH:ah.sub nu (ah.diff F H1):=tG s1 fun b o x y=>a1 b o x (k1 b o y)
 have tI:ah.sub nv (ah.diff F H1):=tG s3 fun b o x y=>a3 b o (k1 b o y) x
 have d1:ah.sub G1 (ah.diff F H1):=tG (fun b o x=>s2 b o (k2 b o x)) fun b o x y=>bg b o y x
 have px:∀j,j<c*T.size→ah.diff F H1 a.block (a.off+j):=fun j hj=>⟨h.inF j hj,fun y=>g2 j hj (yz _ _ y)⟩
 have hspot:i*T.size+off<c*T.size:=by omega
 have bS:∀ {A:ah},ah.sub A G→∀b o,A b o→¬(b=a.block∧o=a.off+i*T.size+off):=by
  rintro A hA b o x ⟨rfl,rfl⟩
  have:=g2 (i*T.size+off) hspot
  rw [← Nat.add_assoc] at this
  exact this (hA _ _ x)
 refine⟨v,H1,ck off v hv,k3,fun b o x=>g3 b o (yz b o x),by have:=px _ hspot;rwa [← Nat.add_assoc] at this,by have:=h.wr _ hspot;rwa [← Nat.add_assoc] at this,fun b5 bN X y bF u hs hu hwr hr hap Ik=>?_⟩
 have ZO:b4 w b5 nu:=fun b o x=>hs b o ⟨tH b o x,bS s1 b o x⟩
 have jO:b4 w b5 nv:=fun b o x=>hs b o ⟨tI b o x,bS s3 b o x⟩
 have ZP:b4 w b5 G1:=fun b o x=>hs b o ⟨d1 b o x,bS (fun b o x=>s2 b o (k2 b o x)) b o x⟩
 have hcell:∀j,j<c*T.size→j≠i*T.size+off→b5.cell? (at_ a.block (a.off+j))=w.cell? (at_ a.block (a.off+j)):=fun j hj hne=>(hs _ _ ⟨px j hj,fun h=>hne (by omega)⟩).1
 have hw2:∀j,j<c*T.size→fS b5 T.size a.block (a.off+j):=by
  intro j hj
  by_cases hne:j=i*T.size+off
  ·subst hne;rwa [Nat.add_assoc] at hwr
  ·exact hs.kt ⟨px j hj,fun h=>hne (by omega)⟩ (h.wr j hj)
 have e_:=bx b5 bN X y u ZP hr (fun b o p q=>hap b o p (d1 b o q)) bF Ik
 refine⟨h.spot,by simpa using h.cap,hw2,fun j hj=>.inr (px j hj),nu.or ((X.or G1).or nv),?_,?_,?_⟩
 ·refine Row.BI i hi (bz.imp (fun y us dj hG hr=>qv T (ZO.mono fun b o p=>hG b o p) hr) fun j hj=>hcell j ?_ ?_) e_ (by simpa using hvl) ?_ (cc.imp (fun y us dj hG hr=>qv T (jO.mono fun b o p=>hG b o p) hr) fun j hj=>?_) ?_ a2 ?_
  ·simp only [List.length_take] at hj
   have:min i ys.length*T.size≤ys.length*T.size:=Nat.mul_le_mul_right _ (Nat.min_le_right _ _)
   omega
  ·simp only [List.length_take] at hj
   have:min i ys.length*T.size≤i*T.size:=Nat.mul_le_mul_right _ (Nat.min_le_left _ _)
   omega
  ·intro k q hk
   by_cases Qn:k=off
   ·subst Qn
    rw [List.getElem?_set_self (by omega)] at hk
    rw [← aU hk];exact hu
   ·rw [List.getElem?_set_ne (by omega)] at hk
    have n7:k<vs.length:=by
     rcases Nat.lt_or_ge k vs.length with h1 | h1
     ·exact h1
     ·rw [List.getElem?_eq_none h1] at hk;cases hk
    have:=hcell (i*T.size+k) (by omega) (by omega)
    rw [← Nat.add_assoc] at this
    rw [this];exact ck k q hk
  ·simp only [List.length_drop] at hj
   have e1:(ys.length-(i+1))*T.size=ys.length*T.size-(i*T.size+T.size):=by rw [Nat.sub_mul,Nat.add_one_mul]
   rw [e1] at hj
   have:=hcell ((i+1)*T.size+j) (by rw [Nat.add_one_mul];omega) (by rw [Nat.add_one_mul];omega)
   rwa [← Nat.add_assoc] at this
  ·rintro b o p (q | q)
   ·exact hap b o q (tH b o p)
   ·exact a1 b o p (k2 b o q)
  ·rintro b o (p | p) q
   ·exact hap b o p (tI b o q)
   ·exact a3 b o (k2 b o p) q
 ·rintro j hj (p | (p | p) | p)
  ·exact g2 j hj (s1 _ _ p)
  ·exact hap _ _ p (px j hj)
  ·exact g2 j hj (s2 _ _ (k2 _ _ p))
  ·exact g2 j hj (s3 _ _ p)
 ·rintro b o (p | (p | p) | p)
  ·exact .inr (tH b o p)
  ·exact .inl p
  ·exact .inr (d1 b o p)
  ·exact .inr (tI b o p)
end
section
variable{P:Program}{Q:Exit→Act→World→Prop}
variable{w0:World}{F0 Z0:ah}{n:cC}{s ar:aq}{a b7:Act}{w w':World}{ι bb:Nat→bH}{Z Z':ah}
variable{E:Env}{bu : Type}{r : bu}
theorem IM(a:Act){d:Nat}(v:Value)(ag:d<a.tmps.size):(a.put (some d) v).eval (.tmp d)=v:=by
 show(a.tmps.setIfInBounds d v).getD d undef=v
 rw [Hz _ _ _ _ ag,if_pos rfl]
theorem yO(a:Act){d k:Nat}(v:Value)(ag:d<a.tmps.size)(hk:d≠k):(a.put (some d) v).eval (.tmp k)=a.eval (.tmp k):=by
 show(a.tmps.setIfInBounds d v).getD k undef=a.tmps.getD k undef
 rw [Hz _ _ _ _ ag,if_neg hk]
theorem Qo(a:Act)(d:Nat)(v:Value):(a.put (some d) v).tmps.size=a.tmps.size:=by
 show(a.tmps.setIfInBounds d v).size=_
 simp
theorem Qp{u t:ad}{dp:List (Nat×Nat)}{p:Place}{xs:List u.D}{v:Value}{mE:List t.D}{s0:aq}(h:Inv w0 F0 Z0 n s a w ι Z)(hc:cj w Z s ι (.b1 u dp (some p) xs) v)
  (hl:tm t t.own s dp (some p)=some (mE,s0)) :
  ∃(i:Nat) (T:ad) (ver:Nat) (ys:List T.D) (cO dP:Nat) (H1:ah),p.e_=some i∧s.o p.id=.row T T.own ver ys∧s0=s.bR p.id (.cf (.row T T.own ver ys))∧i<ys.length∧(ι p.id).base=some (at_ cO dP) ∧
   Inv w0 F0 Z0 n s0 a w ι Z∧fB s ι Z s0 Z∧bL w0 F0 s0 w ι Z H1∧bL w0 F0 s0 w ι Z (ah.diff (ι p.id).F H1)∧(ad.sl t).al w Z (.O t.own) mE [v] H1∧ah.sub H1 (ι p.id).F ∧
   ah.diff (ι p.id).F H1 cO (dP+i*T.size+p.off)∧fS w T.size cO (dP+i*T.size+p.off) ∧
   ∀(b5:World) (bN X:ah) (y:List t.D) (bF:T.D) (q:Value),b4 w b5 (fun b o=>ah.diff (ι p.id).F H1 b o∧¬(b=cO∧o=dP+i*T.size+p.off))→b5.cell? (at_ cO (dP+i*T.size+p.off))=some q →
    fS b5 T.size cO (dP+i*T.size+p.off)→(ad.sl t).al b5 bN (.O t.own) y [q] X→ah.apart X (ah.diff (ι p.id).F H1)→T.setAt p.off t y (J T ys i)=some bF →
    m9 b5 (T.al b5 bN T.own) T.size (ys.set i bF) (at_ cO dP) (ι p.id).cap (X.or (ah.diff (ι p.id).F H1)):=by
 simp only [tm] at hl
 cases e6:p.e_ with
 | none=>rw [e6] at hl;simp at hl
 | some i =>
  rw [e6] at hl
  cases ho:s.o p.id with
  | row T em ver ys =>
   rw [ho] at hl
   simp only at hl
   cases hb:(alive s dp&&ba.beq em T.own&&ba.beq t.own t.own)
   ·rw [hb] at hl;simp at hl
   rw [hb] at hl
   simp only [cond_true] at hl
   simp only [Bool.and_eq_true] at hb
   obtain rfl:=ba.eq_of_beq _ _ hb.1.2
   obtain ⟨x,hx,hl⟩:=bf hl
   simp only [Option.some.injEq,Prod.mk.injEq] at hl
   obtain ⟨rfl,rfl⟩:=hl
   obtain ⟨_,_,_,k5⟩:=hc
   obtain ⟨_,k5⟩:=k5 _ rfl
   obtain ⟨jc,dH,⟨_,fH⟩,hcell,hin⟩:=k5 hb.1.1
   simp only [ho,cn.core] at fH
   obtain ⟨cz,hii,k6,a0,eD,nm⟩:=fH
   rw [e6] at hii
   obtain rfl:=aU hii
   have b9:(s.o p.id).live:=by rw [ho];trivial
   have aA:fB s ι Z (s.bR p.id (.cf (.row T T.own ver ys))) Z:=by have:=yA (s:=s) (ι := ι) (Z:=Z) b9;rw [ho] at this;exact this
   have fg:bL w0 F0 (s.bR p.id (.cf (.row T T.own ver ys))) w ι Z (ι p.id).F:=by have:=h.yB b9;rw [ho] at this;exact this
   have cZ:=h.fT p.id
   rw [ho] at cZ
   rcases cZ with⟨hx0,_⟩ | ⟨a1,hb1,hr⟩
   ·rw [hx0] at k6;simp at k6
   rw [eD] at hb1
   obtain rfl:=aU hb1
   obtain ⟨ab,ao,sp⟩:=a0
   have hsp:=hr.spot
   simp only at hsp
   subst hsp
   obtain ⟨eQ,H1,dN,ek,mm,ZQ,ZR,pn⟩:=hr.tP k6 hx
   rw [← nm] at dN
   have Ip:eQ=v:=by rw [hcell] at dN;exact(aU dN).symm
   subst Ip
   exact⟨i,T,ver,ys,ab,ao,H1,rfl,rfl,rfl,k6,eD,h.mw aA,aA,fg.sub mm,fg.sub fun _ _ h=>h.1,ek,mm,ZQ,ZR,pn⟩
  | _=>rw [ho] at hl;simp at hl
theorem ZS{v:a7}{K:Place→Option bu}(hk:Hn s v K=some r):∃jH,K jH=some r∧∀ {w':World} {Z':ah} {ar:aq} {bb:Nat→bH} {x:Value},aP w' Z' ar bb v x→∃A,x=.pointer (some A)∧ju ar bb jH A:=by
 unfold Hn at hk
 cases v <;> simp only at hk <;> try (cases hk;done)
 ·exact⟨_,hk,fun hv=>by simp only [aP] at hv;exact hv.2⟩
 ·obtain ⟨k,h1,hk⟩:=bf hk
  obtain ⟨h2,rfl⟩:=Ql h1
  refine⟨_,hk,fun hv=>?_⟩
  simp only [aP] at hv
  rcases hv.2 with⟨h3,_⟩ | ⟨_,h3⟩
  ·omega
  ·exact h3
theorem ZT{dH:Oper}{T:ad}{k1 d0 i ver cO dP:Nat}{p jH:Place}{ys:List T.D}{hv:Value}{s1:aq}(mF:dH.op=.nilCheck (.tmp k1))(iD:k1≠d0)(jh:d0<n.n)(tQ:jH.id=p.id)(BZ:jH.e_=some i)(rZ:Inv w0 F0 Z0 n s1 a w' ι Z)
  (IN:∀ {w':World} {Z':ah} {ar:aq} {bb:Nat→bH} {x:Value},aP w' Z' ar bb (s1.t k1) x→∃A,x=.pointer (some A)∧ju ar bb jH A)
  (pE:s1.o p.id=.cf (.row T T.own ver ys)) (eD:(ι p.id).base=some (at_ cO dP)):(execOp (a.put (some d0) hv).eval dH).run P w'=.ok (.value (.pointer (some (at_ cO (dP+i*T.size+jH.off))))) w':=by
 obtain ⟨ale,ZU,hsp,mC⟩:=IN (rZ.tmps k1)
 rw [tQ,pE] at mC
 simp only [cn.core] at mC
 obtain ⟨cz,hii,_,a0,gn,IP⟩:=mC
 rw [hii] at BZ
 obtain rfl:=aU BZ
 rw [eD] at gn
 obtain rfl:=aU gn
 subst IP
 have:(a.put (some d0) hv).eval (.tmp k1)=.pointer (some (at_ cO (dP+cz*T.size+jH.off))):=by rw [yO _ _ (by rw [rZ.size];exact jh) (Ne.symm iD)];exact ZU
 unfold execOp;rw [mF];simp only [this];rfl
theorem Qq{dH eH eV:Oper}{aj:ax}{t T u:ad}{d0 d1 d2 na nc ob k i ver cO dP:Nat}{p:Place}{po:Nat}{ys:List T.D}{y:List t.D}{hv:Value}{G pF:ah}{s1 B0:aq}{A:Option Addr}{wK ZV:Nat}{K:aq→Option bu}(bO:jN P E)
  (j7:eH.op=.fieldAddr na (.tmp d1) ob) (qz:eV.op=.store nc (.tmp d2) (.tmp d0)) (gm:dH.dst=some d1) (iK:eH.dst=some d2) (py:eV.dst=none)
  (iE:d0≠d1) (iF:d0≠d2) (jh:d0<n.n) (mG:d1<n.n) (mH:d2<n.n) (tT:E.ty na=some (.st aj)) (tU:E.ty nc=some (.sl t)) (fA:aj.off ob=some (k,u)) (hz:u.size≠0)
  (j':po+k=p.off) (e6:p.e_=some i) (k6:i<ys.length) (rZ:Inv w0 F0 Z0 n s1 a w' ι Z)
  (IQ:(execOp (a.put (some d0) hv).eval dH).run P w'=.ok (.value (.pointer (some (at_ cO (dP+i*T.size+po))))) w')
  (pE:s1.o p.id=.cf (.row T T.own ver ys)) (eD:(ι p.id).base=some (at_ cO dP)) (pG:hv=.slice A ZV wK) (cM:(ad.sl t).al w' Z (.O t.own) y [hv] G)
  (pH:bL w0 F0 s1 w' ι Z G) (lT:bL w0 F0 s1 w' ι Z pF) (wL:ah.apart G pF) (wM:pF cO (dP+i*T.size+p.off)) (B1:fS w' T.size cO (dP+i*T.size+p.off))
  (wN:∀(b5:World) (bN X:ah) (y:List t.D) (bF:T.D) (q:Value),b4 w' b5 (fun b o=>pF b o∧¬(b=cO∧o=dP+i*T.size+p.off))→b5.cell? (at_ cO (dP+i*T.size+p.off))=some q→fS b5 T.size cO (dP+i*T.size+p.off) →
   (ad.sl t).al b5 bN (.O t.own) y [q] X→ah.apart X pF→T.setAt p.off t y (J T ys i)=some bF→m9 b5 (T.al b5 bN T.own) T.size (ys.set i bF) (at_ cO dP) (ι p.id).cap (X.or pF))
  (hbk:vQ t y (((s1.set d0 .aD).set d1 .aD).set d2 .aD) (some p)=some B0) (hk:K B0=some r) :
  dH.wp P (a.put (some d0) hv) w' (fun a w=>eH.wp P a w (fun a w=>eV.wp P a w (fun a w=>∃ar,K ar=some r∧cX w0 F0 Z0 n ar a w) Q) Q) Q:=by
 have hcl:hv.cells = #[hv]:=by rw [pG];rfl
 have oy:ee hv=true:=by rw [pG];rfl
 have hsz:=rZ.size
 have ZW:Inv w0 F0 Z0 n (s1.set d0 .aD) (a.put (some d0) hv) w' ι Z:=rZ.set (by simp only [aP]) jh
 have B2:(a.put (some d0) hv).tmps.size=n.n:=by rw [Qo];exact hsz
 unfold Oper.wp
 rw [IQ,Oper.upon_value,gm]
 obtain ⟨a2,yP⟩:∃a2,a2=(a.put (some d0) hv).put (some d1) (.pointer (some (at_ cO (dP+i*T.size+po)))):=⟨_,rfl⟩
 rw [← yP]
 have Qr:a2.tmps.size=n.n:=by rw [yP,Qo];exact B2
 have oz:a2.eval (.tmp d1)=.pointer (some (at_ cO (dP+i*T.size+po))):=by rw [yP];exact IM _ _ (by rw [B2];exact mG)
 have ZX:a2.eval (.tmp d0)=hv:=by rw [yP,yO _ _ (by rw [B2];exact mG) (Ne.symm iE)];exact IM _ _ (by rw [hsz];exact jh)
 obtain ⟨pos,eY⟩:∃pos,pos=dP+i*T.size+p.off:=⟨_,rfl⟩
 rw [← eY] at wM B1 wN
 have ZY:(execOp a2.eval eH).run P w'=.ok (.value (.pointer (some (at_ cO pos)))) w':=by
  obtain ⟨cp,hu,kZ⟩:=HT (bO.ty.ty na _ tT)
  obtain ⟨alf,h1,h2,h3⟩:=ax.Br kZ fA
  rw [Array.getElem?_toList] at h1
  unfold execOp;rw [j7]
  refine fX ?_
  simp only [Instr.fieldAt,run_bind,run_underlying hu,h1,Instr.sureAddr,oz,run_pure,Pd h3 hz,h2,Nat.zero_add]
  rw [eY,← j',Nat.add_assoc]
 rw [ZY,Oper.upon_value,iK]
 obtain ⟨a3,B3⟩:∃a3,a3=a2.put (some d2) (.pointer (some (at_ cO pos))):=⟨_,rfl⟩
 rw [← B3]
 have ZZ:a3.eval (.tmp d2)=.pointer (some (at_ cO pos)):=by rw [B3];exact IM _ _ (by rw [Qr];exact mH)
 have Z1:a3.eval (.tmp d0)=hv:=by rw [B3,yO _ _ (by rw [Qr];exact mH) (Ne.symm iF)];exact ZX
 have B4:Inv w0 F0 Z0 n (((s1.set d0 .aD).set d1 .aD).set d2 .aD) a3 w' ι Z:=by
  rw [B3,yP]
  exact(ZW.set (by simp only [aP]) mG).set (by simp only [aP]) mH
 have Qs:(execOp a3.eval eV).run P w'=.ok .skip (setCells w' cO pos [hv]):=by
  unfold execOp;rw [qz]
  have:=HQ (P:=P) (w:=w') (bO.ty.ty nc _ tU) (b:=cO) (o:=pos) (v:=hv) (by rw [hcl];rfl) (by rw [hcl];intro u hu;simp at hu;rw [hu];exact oy) (fun j hj=>by
   rw [hcl] at hj
   have:j=0:=by simp at hj;omega
   subst this;exact B1.1)
  rw [hcl] at this
  simp only [Instr.storeAt,Instr.sureAddr,ZZ,Z1,run_bind,run_pure,this]
 have IS:bL w0 F0 (((s1.set d0 .aD).set d1 .aD).set d2 .aD) w' ι Z pF:=⟨lT.own,lT.apart,lT.c2⟩
 have pH:bL w0 F0 (((s1.set d0 .aD).set d1 .aD).set d2 .aD) w' ι Z G:=⟨pH.own,pH.apart,pH.c2⟩
 obtain ⟨oA,hw3⟩:∃oA,oA=setCells w' cO pos [hv]:=⟨_,rfl⟩
 rw [← hw3] at Qs
 have hx3:Ext w' oA (ah.run cO pos 1):=by
  rw [hw3]
  exact n6 cO [hv] w' pos fun j hj=>by
   have:j=0:=by simp at hj;omega
   subst this;exact⟨rfl,by omega,by omega⟩
 have Qt:ah.sub (ah.run cO pos 1) pF:=by
  rintro b o ⟨rfl,k2,k3⟩
  rw [show o=pos by omega];exact wM
 have IT:Inv w0 F0 Z0 n (((s1.set d0 .aD).set d1 .aD).set d2 .aD) a3 oA ι Z:=B4.Bz (IS.sub Qt) hx3
 have Z2:oA.cell? (at_ cO pos)=some hv:=by
  rw [hw3,vZ cO [hv] w' pos (fun j hj=>by
   have:j=0:=by simp at hj;omega
   subst this;exact B1.1.1),if_pos ⟨rfl,by omega,by simp⟩]
  simp
 have Z3:b4 w' oA G:=b4.jb hx3 (fun b o aA=>(pH.own b o aA).2) fun b o aA hr=>wL b o aA (Qt b o hr)
 have Z4:(ad.sl t).al oA Z (.O t.own) y [hv] G:=qv (.sl t) Z3 cM
 have yQ:b4 w' oA (fun b o=>pF b o∧¬(b=cO∧o=pos)):=by
  refine b4.jb hx3 (fun b o hb=>(IS.own b o hb.1).2) ?_
  rintro b o ⟨_,hne⟩ ⟨rfl,k2,k3⟩
  exact hne ⟨rfl,by omega⟩
 have IU:(((s1.set d0 .aD).set d1 .aD).set d2 .aD).o p.id=.cf (.row T T.own ver ys):=pE
 simp only [vQ,e6] at hbk
 rw [IU] at hbk
 simp only at hbk
 obtain ⟨z,Z5,hbk⟩:=bf hbk
 obtain rfl:=aU hbk
 obtain ⟨Qu,Qv,_⟩:=yH IT (id:=p.id) (o:=.row T T.own (ver+1) (ys.set i z)) (i:=⟨(ι p.id).base,(ι p.id).cap,G.or pF⟩) (by rw [IU];exact fun h=>h) (fun o'=>by simp) (by rw [IU];exact .rH _ _ _ _ _ _ _ _ _ (by omega) (by simp) rfl rfl)
  (fun hm=>.inr ⟨at_ cO dP,eD,wN oA Z G y z hv yQ Z2 (hx3.kt B1) Z4 wL Z5⟩) ((pH.ext hx3).or (IS.ext hx3))
 refine Oper.wp_mono (fun a w hs=>⟨_,hk,?_⟩) (wp_skip Qs Qv (fun k hk=>by rw [py] at hk;cases hk))
 rw [py] at hs
 exact hs
def wO(s:aq)(ι : Nat→bH)(X:ah):ah:=fun b o=>X b o∨∃id,(s.o id).live∧(ι id).F b o
theorem Inv.here(h:Inv w0 F0 Z0 n s a w ι Z)(X:ah):Inv w (wO s ι X) Z n s a w ι Z :=
 ⟨Ext.refl _ _,fun _ _ hz=>.inl hz,fun _ _ h=>h,h.i',h.fT,fun id hl b o hf=>⟨.inl (.inr ⟨id,hl,hf⟩),(h.own id hl b o hf).2⟩,h.apart,h.c2,h.tmps,h.size,h.ghost,h.seen,h.defers⟩
theorem B5(h:Inv w0 F0 Z0 n s a w ι Z){X:ah}(hX:bL w0 F0 s w ι Z X){b o:Nat}(hf:wO s ι X b o∨w.heap.size≤b):F0 b o∨w0.heap.size≤b:=by
 have hsz:=h.ext.size
 rcases hf with(hf | ⟨id,hl,hf⟩) | hf
 ·exact(hX.own b o hf).1
 ·exact(h.own id hl b o hf).1
 ·exact .inr (by omega)
theorem Inv.Z6(h:Inv w0 F0 Z0 n s a w ι Z){X:ah}(hX:bL w0 F0 s w ι Z X)(h':Inv w (wO s ι X) Z n ar b7 w' bb Z'):Inv w0 F0 Z0 n ar b7 w' bb Z':=by
 refine⟨h.ext.trans' h'.ext fun i o hf=>B5 h hX (.inl hf),fun b o hz=>?_,fun b o hz=>h'.rG b o (h.rG b o hz),h'.i',h'.fT,fun id hl b o hf=>⟨B5 h hX (h'.own id hl b o hf).1,(h'.own id hl b o hf).2⟩,h'.apart,h'.c2,h'.tmps,h'.size,h'.ghost,h'.seen,h'.defers⟩
 rcases h'.dI b o hz with h1 | h1
 ·exact h.dI b o h1
 ·exact .inr (B5 h hX h1)
theorem Z7{o dH eH eV:Oper}{c:Call}{aj:ax}{t u ul:ad}{d0 d1 d2 na nc ob k i id:Nat}{p:Place}{po:Nat}{dp:List (Nat×Nat)}{IV:List ul.D}{vb:a7}{cb:a_}{M:aq→Bool}{K:aq→Option bu}(bO:jN P E)(h:Inv w0 F0 Z0 n s a w ι Z)
  (ho:o.op=.call c) (hc:c.callee=.builtin .append) (lN:c.args.toList.map (bV s)=[.aT (.b1 ul dp (some p) IV),vb]) (gM:vS E c.argTypes.toList=some t) (tF:oneCell t vb=some cb) (tV:o.dst=some d0)
  (j7:eH.op=.fieldAddr na (.tmp d1) ob) (qz:eV.op=.store nc (.tmp d2) (.tmp d0)) (gm:dH.dst=some d1) (iK:eH.dst=some d2) (py:eV.dst=none)
  (iE:d0≠d1) (iF:d0≠d2) (jh:d0<n.n) (mG:d1<n.n) (mH:d2<n.n) (tT:E.ty na=some (.st aj)) (tU:E.ty nc=some (.sl t)) (fA:aj.off ob=some (k,u)) (hz:u.size≠0)
  (j':po+k=p.off) (yR:p.e_=some i)
  (IQ:∀ {T:ad} {ver cO dP:Nat} {ys:List T.D} {s1:aq} {dA:Nat→bH} {cq:ah} {kB:World} {hv:Value},Inv w0 F0 Z0 n s1 a kB dA cq→s1.t=s.t→s1.o p.id=.cf (.row T T.own ver ys)→s.o p.id=.row T T.own ver ys→(dA p.id).base=some (at_ cO dP) →
   (execOp (a.put (some d0) hv).eval dH).run P kB=.ok (.value (.pointer (some (at_ cO (dP+i*T.size+po))))) kB)
  (hk:Hr id t p dp s cb d0 d1 d2 M K=some r) :
  o.wp P a w (fun a w=>(∃oc,M oc=true∧cX w0 F0 Z0 n oc a w)∧dH.wp P a w (fun a w=>eH.wp P a w (fun a w=>eV.wp P a w (fun a w=>∃ar,K ar=some r∧cX w0 F0 Z0 n ar a w) Q) Q) Q) Q:=by
 have hvs:=tE h c.args.toList
 have Qw:(c.args.map a.eval).toList=c.args.toList.map a.eval:=by simp
 rw [lN] at hvs
 simp only [aX] at hvs
 obtain ⟨P1,_,he,nr,Ze,_,rfl,Ic,rfl⟩:=hvs
 simp only [aP] at nr
 obtain ⟨e',gi,rest,e,rU,hu,cd,j9⟩:=P0 bO.ty gM
 have hb1:=Ib tF Ic
 unfold Hr at hk
 cases qu:added s t cb with
 | none=>rw [qu] at hk;cases hk
 | some q =>
 obtain ⟨ky,ys,s1⟩:=q
 rw [qu] at hk
 simp only at hk
 cases mq:ba.beq ky t.own
 ·rw [mq] at hk;cases hk
 rw [mq] at hk
 simp only [cond_true] at hk
 obtain rfl:=ba.eq_of_beq _ _ mq
 obtain ⟨⟨mE,s2⟩,iJ,hk⟩:=bf hk
 obtain ⟨s3,nj,hk⟩:=bf hk
 obtain ⟨hroom,hk⟩:=rQ hk
 cases nA:M (s3.set d0 .aD)
 ·rw [nA] at hk;cases hk
 rw [nA] at hk
 simp only [cond_true] at hk
 obtain ⟨B0,hbk,IW⟩:=bf hk
 obtain ⟨b6,rfl⟩:=qs nj
 simp only at b6 hbk hroom
 obtain ⟨vs,hd,hlen,nt,hels,h1,hs1,oo⟩:=PS (P:=P) qu h hb1
 have hc1:cj w Z s1 ι (.b1 ul dp (some p) IV) P1:=cj.move hs1.ei nr
 obtain ⟨cz,T,ver,yS,cO,dP,H1,e6,dY,oq,k6,eD,i0,B6,tW,lT,IX,Qx,wM,IY,wN⟩:=Qp h1 hc1 iJ
 rw [e6] at yR
 obtain rfl:=aU yR
 have B7:=oo.tJ B6
 have Qy:(s1.o p.id).live:=by rw [dY];trivial
 have lO:ah.apart H1 hd:=fun b o x y=>oo.apart p.id Qy b o y (Qx b o x)
 have Qz:=tW.or B7
 have Z8:bL w (wO s2 ι (H1.or hd)) s2 w ι Z H1:=⟨fun b o x=>⟨.inl (.inl (.inl x)),(tW.own b o x).2⟩,tW.apart,tW.c2⟩
 have Z9:bL w (wO s2 ι (H1.or hd)) s2 w ι Z hd:=⟨fun b o x=>⟨.inl (.inl (.inr x)),(B7.own b o x).2⟩,B7.apart,B7.c2⟩
 obtain ⟨eQ,w',mI,hrun,hinv,hcell⟩:=PU (P:=P) (id:=id) (ty:=o.type) (ats:=c.argTypes) (args:=c.args.map a.eval) (by rw [← Array.getElem?_toList,rU];rfl) (by rw [← Array.getElem?_toList,rU];rfl)
  (by rw [← Array.getElem?_toList,Qw,he];rfl) (by rw [← Array.getElem?_toList,Qw,he];rfl) hu cd j9 (Nat.le_of_ble_eq_true hroom) (i0.here _) b6 IX hels Z8 Z9 lO hlen nt
 have yy:taken (s2.bR id (.row t t.own 0 (mE++ys))) t (.ag id none)=some (t.own,mE++ys,(s2.bR id (.row t t.own 0 (mE++ys))).bR id .dead):=by
  simp only [taken]
  rw [show(s2.bR id (.row t t.own 0 (mE++ys))).o id=.row t t.own 0 (mE++ys) from cB _ _ _]
  simp only [kT]
  rw [ZN];rfl
 obtain ⟨G,QA,i4,alg,wP,alh⟩:=PT yy hinv hcell
 have Z_:(s2.bR id (.row t t.own 0 (mE++ys))).bR id .dead=s2.bR id .dead:=by
  show { s2 with o:=bU (bU s2.o id _) id cn.dead } = { s2 with o:=bU s2.o id cn.dead }
  congr 1
  funext j
  by_cases hj:j=id
  ·subst hj;rw [cB,cB]
  ·rw [rz hj,rz hj,rz hj]
 rw [Z_] at i4 wP
 have QB:p.id≠id:=by
  intro e0
  rw [oq] at b6
  rw [show(s1.bR p.id (.cf (.row T T.own ver yS))).o id=.cf (.row T T.own ver yS) from by rw [e0];exact cB _ _ _] at b6
  cases b6
 have QC : bU ι id mI p.id = ι p.id:=rz QB
 have i5:=i0.Z6 Qz i4
 have hcl:∀j,((s2.bR id .dead).o j).live→j≠id∧(s2.o j).live:=by
  intro j hj
  by_cases lU:j=id
  ·subst lU
   rw [show(s2.bR j .dead).o j=.dead from cB _ _ _] at hj
   exact hj.elim
  ·rw [show(s2.bR id .dead).o j=s2.o j from rz lU] at hj
   exact⟨lU,hj⟩
 have IZ:=hinv.ext
 have hap:∀b o,ah.diff (ι p.id).F H1 b o→wO s2 ι (H1.or hd) b o→False:=by
  rintro b o ag ((hf | hf) | ⟨j,hj,hf⟩)
  ·exact ag.2 hf
  ·exact oo.apart p.id Qy b o hf ag.1
  ·exact lT.apart j hj b o ag hf
 have pH:bL w0 F0 (s2.bR id .dead) w' (bU ι id mI) Z G:=⟨fun b o x=>⟨B5 i0 Qz (wP.own b o x).1,(wP.own b o x).2⟩,wP.apart,wP.c2⟩
 have aaa:bL w0 F0 (s2.bR id .dead) w' (bU ι id mI) Z (ah.diff (ι p.id).F H1):=by
  refine⟨(lT.ext IZ).own,fun j hj b o x y=>?_,lT.c2⟩
  obtain ⟨yT,kC⟩:=hcl j hj
  rw [rz yT] at y
  exact lT.apart j kC b o x y
 have wL:ah.apart G (ah.diff (ι p.id).F H1):=by
  intro b o aA ag
  rcases (wP.own b o aA).1 with hf | hf
  ·exact hap b o ag hf
  ·have:=(lT.own b o ag).2;omega
 have yQ:b4 w w' (ah.diff (ι p.id).F H1):=b4.jb IZ (fun b o hb=>(lT.own b o hb).2) hap
 have yU:=QA
 simp only [ad.al] at yU
 obtain ⟨A,wK,pG,_⟩:=yU
 have pG:eQ=.slice A (mE++ys).length wK:=by simpa using pG
 have aab:(execOp a.eval o).run P w=.ok (.value eQ) w':=by
  unfold execOp;rw [ho]
  simp only [run_bind,resolve,hc,run_pure,invoke]
  unfold builtin
  exact fX hrun
 have ht:(s2.bR id .dead).t=s.t:=by
  show s2.t=s.t
  rw [oq]
  exact hs1.t
 unfold Oper.wp
 rw [aab,Oper.upon_value,tV]
 have aac:s2.o p.id=.cf (.row T T.own ver yS):=by rw [oq];exact cB _ _ _
 have QD:(s2.bR id .dead).o p.id=.cf (.row T T.own ver yS):=by rw [show(s2.bR id .dead).o p.id=s2.o p.id from rz QB];exact aac
 have QE:(bU ι id mI p.id).base=some (at_ cO dP):=by rw [QC];exact eD
 have B8:s.o p.id=.row T T.own ver yS:=by
  rcases hs1.o p.id with h2 | ⟨_,h2⟩
  ·rw [← h2];exact dY
  ·rw [h2] at dY;cases dY
 refine⟨⟨_,nA,bU ι id mI,Z,i5.set (by simp only [aP]) jh⟩,?_⟩
 exact Qq bO j7 qz gm iK py iE iF jh mG mH tT tU fA hz j' e6 k6 i5 (IQ i5 ht QD B8 QE) QD QE pG QA pH aaa wL wM (IZ.kt IY)
  (by rw [QC];exact fun b5 bN X y bF q hs=>wN b5 bN X y bF q ((yQ.mono fun _ _ h=>h.1).trans hs)) hbk IW
set_option maxHeartbeats 1000000 in
theorem aad{o:Oper}{l:List Oper}{K:aq→Option bu}(bO:jN P E)(hn:E.n=n)(h:Inv w0 F0 Z0 n s a w ι Z)(hk:Ho E s o l K=some r) :
  ∃dH eH eV l',l=dH :: eH :: eV :: l'∧o.guard=none∧dH.guard=none∧eH.guard=none∧eV.guard=none ∧
   o.wp P a w (fun a w=>dH.wp P a w (fun a w=>eH.wp P a w (fun a w=>eV.wp P a w (fun a w=>∃ar,K ar=some r∧cX w0 F0 Z0 n ar a w) Q) Q) Q) Q:=by
 unfold Ho at hk
 split at hk
 case h_2=>cases hk
 rename_i dH eH eV l'
 refine⟨dH,eH,eV,l',rfl,?_⟩
 split at hk
 case h_2=>cases hk
 rename_i c k1 na e1 ob nc e2 e0 ho mF j7 qz
 split at hk
 case h_2=>cases hk
 rename_i bw d0 d1 d2 hc tV gm iK
 cases hb:vW E o dH eH eV k1 e1 e2 e0 d0 d1 d2
 ·rw [hb] at hk;cases hk
 rw [hb] at hk
 simp only [cond_true] at hk
 unfold vW at hb
 simp only [Bool.and_eq_true,Bool.not_eq_true',Option.isNone_iff_eq_none] at hb
 obtain ⟨B9,c7,eJ,iD,iE,iF,g0,g1,g2,g3,py,jh,mG,mH⟩:=hb
 obtain rfl:=Nat.eq_of_beq_eq_true B9
 obtain rfl:=Nat.eq_of_beq_eq_true c7
 obtain rfl:=Nat.eq_of_beq_eq_true eJ
 have iD:k1≠d0:=Nat.ne_of_beq_eq_false iD
 have iE:d0≠d1:=Nat.ne_of_beq_eq_false iE
 have iF:d0≠d2:=Nat.ne_of_beq_eq_false iF
 have jh:d0<n.n:=by rw [← hn];exact Nat.le_of_ble_eq_true jh
 have mG:d1<n.n:=by rw [← hn];exact Nat.le_of_ble_eq_true mG
 have mH:d2<n.n:=by rw [← hn];exact Nat.le_of_ble_eq_true mH
 refine⟨g0,g1,g2,g3,?_⟩
 split at hk
 case h_2=>cases hk
 rename_i g aj t BY tT tU
 split at hk
 case h_2=>cases hk
 rename_i e k u p QF fA k5
 obtain ⟨jH,hk,IN⟩:=ZS hk
 cases fH:(!(Nat.beq u.size 0)&&(Nat.beq jH.id p.id&&Nat.beq (jH.off+k) p.off))
 ·rw [fH] at hk;cases hk
 rw [fH] at hk
 simp only [cond_true] at hk
 simp only [Bool.and_eq_true,Bool.not_eq_true'] at fH
 obtain ⟨hz,tQ,j'⟩:=fH
 have hz:u.size≠0:=Nat.ne_of_beq_eq_false hz
 have tQ:jH.id=p.id:=Nat.eq_of_beq_eq_true tQ
 have j':jH.off+k=p.off:=Nat.eq_of_beq_eq_true j'
 split at hk
 case h_2=>cases hk
 rename_i aae aaf BZ yR
 cases qA:Nat.beq aae aaf
 ·rw [qA] at hk;cases hk
 rw [qA] at hk
 simp only [cond_true] at hk
 have hvs:=tE h c.args.toList
 have hf:=e5 h bw
 rw [BY] at hf
 simp only [aP] at hf
 obtain ⟨cp,cs,IJ,kZ,hcs⟩:=hf
 simp only [aX] at kZ hcs
 subst kZ hcs
 cases I0:c.args.toList.map (bV s) with
 | nil=>rw [I0] at k5;cases k5
 | cons v0 bJ =>
  rw [I0] at k5 hk hvs
  cases v0 with
  | aT Pn =>
   cases Pn with
   | b1 dv dp ct xs =>
    simp only [vU] at k5
    subst k5
    simp only [aX] at hvs
    obtain ⟨jM,aS,hus,pB,QG⟩:=hvs
    simp only [aP] at pB
    rw [I0] at QF
    obtain ⟨ps,rs,f⟩:=e
    cases hm:vV (pf (a7.aT (a_.b1 dv dp (some p) xs) :: bJ)) s t ps (a7.aT (a_.b1 dv dp (some p) xs) :: bJ++lB (a7.aT (a_.b1 dv dp (some p) xs) :: bJ)) with
    | none=>rw [hm] at hk;cases hk
    | some X =>
     obtain ⟨x,s1,bn⟩:=X
     rw [hm] at hk
     simp only at hk
     cases dX:(alive s1 bn&&oa (a7.aT (a_.b1 dv dp (some p) xs) :: bJ))
     ·rw [dX] at hk;cases hk
     rw [dX] at hk
     simp only [cond_true] at hk
     simp only [Bool.and_eq_true] at dX
     obtain ⟨dX,IF⟩:=dX
     obtain ⟨bq,en,hk⟩:=bf hk
     obtain ⟨y,aN,hk⟩:=bf hk
     obtain ⟨B0,hbk,IW⟩:=bf hk
     have IG:=bO.fns g _ _ QF
     cases ps with
     | nil=>simp [vV] at hm
     | cons sp ps =>
      cases sp with
      | val T m =>
       cases T with
       | sl dn =>
        simp only [List.cons_append,vV] at hm
        cases B_:(ba.beq m (.O dn.own)&&(ad.beq t dn&&Hm ps))
        ·rw [B_] at hm;cases hm
        rw [B_] at hm
        simp only [cond_true] at hm
        simp only [Bool.and_eq_true] at B_
        obtain ⟨rT,wh,ali⟩:=B_
        obtain rfl:=ba.eq_of_beq _ _ rT
        obtain rfl:=ad.eq_of_beq _ _ wh
        obtain ⟨⟨mE,s0⟩,iJ,hm⟩:=bf hm
        obtain ⟨q,hq,hm⟩:=bf hm
        obtain ⟨c7,alj,nf⟩:=q
        simp only [Option.some.injEq,Prod.mk.injEq] at hm
        obtain ⟨rfl,rfl,rfl⟩:=hm
        obtain ⟨i,T,ver,ys,cO,dP,H1,e6,dY,hs0,k6,eD,i0,B6,tW,lT,IX,Qx,wM,IY,wN⟩:=Qp h pB iJ
        have B8:s0.o p.id=.cf (.row T T.own ver ys):=by rw [hs0];exact cB _ _ _
        have aag:aX w Z s ι (lB (a7.aT (a_.b1 dv dp (some p) xs) :: bJ)) (gf (jM :: aS)):=IC IF (by simp only [aX];exact⟨jM,aS,rfl,by simpa only [aP] using pB,QG⟩)
        have alk:∃A m' c',jM=.slice A m' c':=pB.2.1
        obtain ⟨mD,eX,cq,i1,wQ,QH,_,QI,_,_,_,aah,src⟩:=qx ps _ _ s0 Z [] _ hq i0 (aX.move B6.ei (QG.append aag)) (by simp)
        simp only at i1 wQ QH QI aah src
        have aai:=tW.tJ wQ
        have I1:=lT.tJ wQ
        have b9:=BU dX
        have tX:bL w0 F0 s1 w ι cq (H1.or mD):=aai.or QI
        have I2:∀ {X:ah},bL w0 F0 s0 w ι Z X→∀b o,X b o→mD b o→False:=by
         intro X hX b o hx hj
         obtain ⟨id,hl,hf⟩:=src b o (.inl hj)
         exact hX.apart id hl b o hx hf
        have hA:gB w (cq.or (df ι bn)) (pf (a7.aT (a_.b1 dv dp (some p) xs) :: bJ)) (.val (.sl t) (.O t.own) :: ps) (mE,c7) (c.args.toList.map a.eval++gf (c.args.toList.map a.eval)) (H1.or mD):=by
         rw [hus]
         exact⟨[jM],aS++gf (jM :: aS),H1,mD,rfl,ad.al.mono (fun b o hz=>.inl (wQ.dI b o hz)) _ _ (fun _ _ h=>h) IX,QH,fun b o x y=>I2 tW b o x y,fun _ _ h=>.inl h,fun _ _ h=>.inr h⟩
        obtain ⟨rfl,rfl⟩:∃e:rs=[.val (.sl t) (.O t.own)],y=(e ▸ bq:(cW.outs [.val (.sl t) (.O t.own)] (bA.d' (.val (.sl t) (.O t.own) :: ps))).D).1:=by
         cases rs with
         | nil=>simp [yj] at aN
         | cons BM rs =>
          cases BM with
          | val hp aaj =>
           cases rs with
           | cons=>simp [yj] at aN
           | nil =>
            simp only [yj] at aN
            cases mq:ba.beq aaj (.O t.own)
            ·rw [mq] at aN;cases aN
            rw [mq] at aN
            obtain rfl:=ba.eq_of_beq _ _ mq
            obtain ⟨e,rfl⟩:=Be aN
            subst e
            exact⟨rfl,rfl⟩
          | _=>simp [yj] at aN
        have hcall:=IG.calls w (cq.or (df ι bn)) (H1.or mD) (mE,c7) (c.args.toList.map a.eval) bq
         (by
          rintro b o (hz | ⟨d,ag,hf⟩)
          ·exact i1.i' b o hz
          ·exact(i1.own d.1 (b9 d ag) b o hf).2)
         (fun b o hf=>(tX.own b o hf).2)
         (by
          rintro b o hf (hz | hz)
          ·exact tX.c2 b o hf hz
          ·exact tX.df b9 b o hf hz) hA en
        suffices key:∀(eQ:Value) (w':World),Ends w (cq.or (df ι bn)) (H1.or mD) ⟨.val (.sl t) (.O t.own) :: ps,[.val (.sl t) (.O t.own)],f⟩ (c.args.toList.map a.eval) bq eQ w' →
          dH.wp P (a.put o.dst eQ) w' (fun a w=>eH.wp P a w (fun a w=>eV.wp P a w (fun a w=>∃ar,K ar=some r∧cX w0 F0 Z0 n ar a w) Q) Q) Q by
         unfold Oper.wp
         have hrun:(execOp a.eval o).run P w=(callFunc g (c.args.toList.map a.eval).toArray).run P w:=by
          unfold execOp;rw [ho]
          simp only [run_bind,resolve,hc,IJ,Deferred.ofValue,run_pure,invoke]
          congr 2
          apply Array.ext'
          simp
         rw [hrun]
         rcases hcall with⟨⟨fn,yN,IK,jg⟩,hcall⟩ | ⟨alm,w',tO,gO,yx,hu⟩
         ·have IL:(callFunc g (c.args.toList.map a.eval).toArray).run P w=.ok (.enter g (c.args.toList.map a.eval).toArray) w:=by
           simp only [callFunc,run_bind,run_pure,program,Sem.run,yN]
           rw [if_neg (by rw [jg];simp),if_neg (by rw [IK];simp)]
           simp only [run_pure]
          rw [IL,Oper.upon_enter]
          refine hcall.mono ?_
          rintro aln w' ⟨v9,rfl,hu⟩
          exact key v9 w' hu
         ·rw [tO,Oper.upon_value]
          cases yx
          exact key _ w' hu
        rintro eQ w' ⟨⟨dr,Z',F',rfl,hx,jw,hz2,hf2,tN,hV⟩⟩
        simp only [iw] at hV
        obtain ⟨vs1,ec,G,aak,rfl,cM,⟨rfl,_⟩,_,hGF,_⟩:=hV
        have yU:=cM
        simp only [ad.al] at yU
        obtain ⟨A,wK,rfl,_⟩:=yU
        obtain ⟨hv,pG⟩:∃hv,hv=Value.slice A bq.1.length wK:=⟨_,rfl⟩
        rw [← pG] at cM
        rw [show ou [dK (.sl t) [Value.slice A bq.1.length wK]]=hv from pG.symm]
        have rZ:Inv w0 F0 Z0 n s1 a w' ι cq:=i1.Bz tX hx
        rw [tV]
        have B':s1.t=s.t:=wQ.t.trans B6.t
        have pE:s1.o p.id=.cf (.row T T.own ver ys):=by
         rcases wQ.o p.id with h1 | ⟨h1,_⟩
         ·rw [h1,B8]
         ·rw [B8] at h1;exact h1.elim
        rw [e6] at yR
        obtain rfl:=aU yR
        obtain rfl:=Nat.eq_of_beq_eq_true qA
        have fc:ah.sub G F':=hGF
        have wL:ah.apart G (ah.diff (ι p.id).F H1):=by
         intro b o aA ag
         rcases (hf2 b o (fc b o aA)).1 with(hf | hf) | hf
         ·exact ag.2 hf
         ·exact I2 lT b o ag hf
         ·have:=(I1.own b o ag).2;omega
        have pH:bL w0 F0 s1 w' ι cq G:=by
         have alo:=i1.ext.size
         refine⟨fun b o aA=>⟨?_,(hf2 b o (fc b o aA)).2⟩,fun id hl b o aA hi=>?_,fun b o aA hz=>?_⟩
         ·rcases (hf2 b o (fc b o aA)).1 with hf | hf
          ·exact(tX.own b o hf).1
          ·exact .inr (by omega)
         ·rcases (hf2 b o (fc b o aA)).1 with hf | hf
          ·exact tX.apart id hl b o hf hi
          ·have:=(i1.own id hl b o hi).2;omega
         ·rcases (hf2 b o (fc b o aA)).1 with hf | hf
          ·exact tX.c2 b o hf hz
          ·have:=i1.i' b o hz;omega
        have yQ:b4 w w' (ah.diff (ι p.id).F H1):=b4.jb hx (fun b o hb=>(I1.own b o hb).2) (by
         rintro b o ag (hf | hf)
         ·exact ag.2 hf
         ·exact I2 lT b o ag hf)
        exact Qq bO j7 qz gm iK py iE iF jh mG mH tT tU fA hz j' e6 k6 rZ (ZT mF iD jh tQ BZ rZ (by rw [B'];exact IN) pE eD) pE eD pG (qv (.sl t) (b4.refl _ _) cM) pH (I1.ext hx) wL wM (hx.kt IY)
         (fun b5 bN X y bF q hs=>wN b5 bN X y bF q ((yQ.mono fun _ _ h=>h.1).trans hs)) hbk IW
       | _=>simp [vV] at hm
      | _=>simp [vV] at hm
   | _=>simp [vU] at k5
  | _=>simp [vU] at k5
theorem aal{dH:Oper}{T:ad}{vX k1 k2 d0 i m ver cO dP:Nat}{p:Place}{sub:Option (Nat×Nat)}{ys:List T.D}{q:Int}{hv:Value}{s1:aq}(bX:g' P E)(gM:E.ty vX=some (.sl T))(mF:dH.op=.indexAddr vX (.tmp k1) (.tmp k2))(iD:k1≠d0)(I3:k2≠d0)(jh:d0<n.n)
  (hx:s1.t k1=.aT (.ag p.id sub)) (hq:kx (s1.t k2)=some q) (hm:aO (lz sub ys) q=some m) (hi:eh sub+m=i) (h:Inv w0 F0 Z0 n s1 a w ι Z)
  (pE:s1.o p.id=.cf (.row T T.own ver ys)) (eD:(ι p.id).base=some (at_ cO dP)):(execOp (a.put (some d0) hv).eval dH).run P w=.ok (.value (.pointer (some (at_ cO (dP+i*T.size+0))))) w:=by
 obtain ⟨e,hu,iu⟩:=lK (bX.ty vX _ gM)
 have h1:=h.tmps k1
 have h2:=h.tmps k2
 rw [hx] at h1
 simp only [aP] at h1
 obtain ⟨_,A,len,c,hT,hh⟩:=h1
 obtain ⟨g1,g2,g3,g4,g5⟩:=hh T T.own ver ys (by rw [pE];rfl)
 obtain ⟨dh,we⟩:=rP hq h2
 have hl:lz sub ys=len:=by
  cases sub with
  | none=>simp [lz,g1]
  | some p=>obtain ⟨lo,l⟩:=p;simp [lz,g1]
 rw [hl] at hm
 obtain ⟨h2,h3,rfl,h4⟩:=yp hm
 rcases g5 with g5 | ⟨a0,gn,rfl⟩
 ·omega
 rw [eD] at gn
 obtain rfl:=aU gn
 unfold execOp;rw [mF]
 refine fX ?_
 rw [yO _ _ (by rw [h.size];exact jh) (Ne.symm iD),yO _ _ (by rw [h.size];exact jh) (Ne.symm I3)]
 have e1:a.eval (.tmp k1)=a.tmps.getD k1 undef:=rfl
 have e2:a.eval (.tmp k2)=a.tmps.getD k2 undef:=rfl
 rw [e1,e2,hT,we]
 have:=HX (P:=P) (w:=w) (A:=at_ cO (dP+eh sub*T.size)) (b:=cO) (o:=dP+eh sub*T.size) (c:=c) (k:=dh) hu iu h2 h3
 rw [← hi,Nat.add_zero,Nat.add_mul,← Nat.add_assoc]
 exact this
theorem aam{o dH eH eV:Oper}{id:Nat}{M:aq→Bool}{K:aq→Option bu}(bO:jN P E)(hn:E.n=n)(h:Inv w0 F0 Z0 n s a w ι Z)(hk:Hs E id s o dH eH eV M K=some r) :
  o.guard=none∧dH.guard=none∧eH.guard=none∧eV.guard=none ∧
   o.wp P a w (fun a w=>(∃oc,M oc=true∧cX w0 F0 Z0 n oc a w)∧dH.wp P a w (fun a w=>eH.wp P a w (fun a w=>eV.wp P a w (fun a w=>∃ar,K ar=some r∧cX w0 F0 Z0 n ar a w) Q) Q) Q) Q:=by
 unfold Hs at hk
 split at hk
 case h_2=>cases hk
 rename_i c vX k1 k2 na e1 ob nc e2 e0 ho mF j7 qz
 split at hk
 case h_2=>cases hk
 rename_i d0 d1 d2 hc tV gm iK
 cases hb:(vW E o dH eH eV k1 e1 e2 e0 d0 d1 d2 && !(Nat.beq k2 d0))
 ·rw [hb] at hk;cases hk
 rw [hb] at hk
 simp only [cond_true] at hk
 unfold vW at hb
 simp only [Bool.and_eq_true,Bool.not_eq_true',Option.isNone_iff_eq_none] at hb
 obtain ⟨⟨B9,c7,eJ,iD,iE,iF,g0,g1,g2,g3,py,jh,mG,mH⟩,I3⟩:=hb
 obtain rfl:=Nat.eq_of_beq_eq_true B9
 obtain rfl:=Nat.eq_of_beq_eq_true c7
 obtain rfl:=Nat.eq_of_beq_eq_true eJ
 have jh:d0<n.n:=by rw [← hn];exact Nat.le_of_ble_eq_true jh
 have mG:d1<n.n:=by rw [← hn];exact Nat.le_of_ble_eq_true mG
 have mH:d2<n.n:=by rw [← hn];exact Nat.le_of_ble_eq_true mH
 refine⟨g0,g1,g2,g3,?_⟩
 split at hk
 case h_2=>cases hk
 rename_i kW aj t e' ul dp p IV vb aan tT tU gM lN
 split at hk
 case h_2=>cases hk
 rename_i k u cb i sub q v em ver xs j fA tF hx1 oi dY e6
 cases fH:(ad.beq e' t&&(ad.beq kW v&&(!(Nat.beq u.size 0)&&(Nat.beq i p.id&&Nat.beq k p.off))))
 ·rw [fH] at hk;cases hk
 rw [fH] at hk
 simp only [cond_true] at hk
 simp only [Bool.and_eq_true,Bool.not_eq_true'] at fH
 obtain ⟨ht,wG,hz,tQ,j'⟩:=fH
 obtain rfl:=ad.eq_of_beq _ _ ht
 obtain rfl:=ad.eq_of_beq _ _ wG
 obtain rfl:=Nat.eq_of_beq_eq_true tQ
 obtain ⟨m,hm,hk⟩:=bf hk
 cases qA:Nat.beq (eh sub+m) j
 ·rw [qA] at hk;cases hk
 rw [qA] at hk
 simp only [cond_true] at hk
 have qA:=Nat.eq_of_beq_eq_true qA
 refine Z7 (po:=0) bO h ho hc lN gM tF tV j7 qz gm iK py (Nat.ne_of_beq_eq_false iE) (Nat.ne_of_beq_eq_false iF) jh mG mH tT tU fA (Nat.ne_of_beq_eq_false hz) (by rw [Nat.zero_add];exact Nat.eq_of_beq_eq_true j') e6 ?_ hk
 intro T nk cO dP ys s1 dA cq kB hv h1 B' pE QJ hb1
 rw [dY] at QJ
 obtain ⟨rfl,_,_,h4⟩:=cn.row.inj QJ
 have h4:=eq_of_heq h4
 subst h4
 exact aal bO.ty aan mF (Nat.ne_of_beq_eq_false iD) (Nat.ne_of_beq_eq_false I3) jh (by rw [B'];exact hx1) (by rw [B'];exact oi) hm qA h1 pE hb1
end
end Go.LM
