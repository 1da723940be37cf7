/- Calls are what the interpreter says. Conditions: each theorem's own hypotheses. -/
import Derived.Test.YtlkbjdmfbadhaaaGreatDoorULmb
set_option linter.unusedVariables false
set_option linter.unusedSimpArgs false
namespace Go.LM
def gp:List Value→List Value
 | []=>[]
 | .func _ a b :: l=>a.toList++b.toList++gp l
 | _ :: l=>gp l
def gF(w:World)(Z:ag)(key:Nat):(ps:List bD)→(bD.ins ps).D→List Value→ag→Prop
 | [],_,us,_=>us=[]
 | .fn mz pN :: ps,x,us,F=>∃a b aX,us=.func (.func key) a b :: aX∧(a.size=mz∧b.size=pN)∧gF w Z key ps x aX F
 | .val t m :: ps,x,us,F=>∃vs aX G H,us=dN t vs :: aX∧t.au w Z m x.1 vs G∧gF w Z key ps x.2 aX H∧ag.apart G H∧ag.sub G F∧ag.sub H F
 | .hV t :: ps,x,us,F=>∃vs aX G H,us=dN t vs :: aX∧t.au w Z .R x.1 vs G∧gF w Z key ps x.2 aX H∧ag.apart G H∧ag.sub G F∧ag.sub H F
 | .hg t m :: ps,x,us,F=>∃vs aX G H,us=dN t vs :: aX∧t.au w Z m x.1 vs G∧gF w Z key ps x.2 aX H∧ag.apart G H∧ag.sub G F∧ag.sub H F
 | .ref t :: ps,x,us,F=>∃b o vs aX,us=.pointer (some (at_ b o)) :: aX∧cc w b o vs∧t.au w Z .R x.1 vs ag.none∧(∀j,j<t.size→Z b (o+j))∧gF w Z key ps x.2 aX F
 | .mut t m _ :: ps,x,us,F=>∃b o vs aX G H,us=.pointer (some (at_ b o)) :: aX∧cc w b o vs∧(∀j,j<t.size→fE w b (o+j))∧t.au w Z m x.1 vs G∧gF w Z key ps x.2 aX H ∧
   ag.apart (G.or (ag.run b o t.size)) H∧ag.apart G (ag.run b o t.size)∧ag.sub (G.or (ag.run b o t.size)) F∧ag.sub H F
def iI(w:World)(Z:ag):(ps:List bD)→List Value→(bD.ef ps).D→ag→Prop
 | [],_,_,_=>True
 | .mut t _ m' :: ps,us,x,F=>∃b o vs aX G H,us=.pointer (some (at_ b o)) :: aX∧cc w b o vs∧t.au w Z m' x.1 vs G∧iI w Z ps aX x.2 H ∧
   ag.apart (G.or (ag.run b o t.size)) H∧ag.apart G (ag.run b o t.size)∧ag.sub (G.or (ag.run b o t.size)) F∧ag.sub H F
 | .hg t m :: ps,us,x,F=>∃vs aX G H,us=dN t vs :: aX∧t.au w Z m x.1 vs G∧iI w Z ps aX x.2 H∧ag.apart G H∧ag.sub G F∧ag.sub H F
 | .val _ _ :: ps,us,x,F=>∃u aX,us=u :: aX∧iI w Z ps aX x F
 | .hV _ :: ps,us,x,F=>∃u aX,us=u :: aX∧iI w Z ps aX x F
 | .ref _ :: ps,us,x,F=>∃u aX,us=u :: aX∧iI w Z ps aX x F
 | .fn _ _ :: ps,us,x,F=>∃u aX,us=u :: aX∧iI w Z ps aX x F
def Lh(w:World)(us:List Value)(a off size:Nat)(x:Int)(v:Value):Prop:=
 (x<0∧v=.pointer none)∨(0≤x∧∃b o jl dK n c,us[a]?=some (.pointer (some (at_ b o)))∧w.cell? (at_ b (o+off))=some (.slice (some (at_ jl dK)) n c)∧x.toNat<n∧v=.pointer (some (at_ jl (dK+x.toNat*size))))
def iy(w:World)(Z:ag)(ps:List bD)(us:List Value):(rs:List c4)→(c4.outs rs (bD.ef ps)).D→List Value→ag→Prop
 | [],x,dy,F=>dy=[]∧iI w Z ps us x F
 | .val t m :: rs,x,dy,F=>∃vs ej G H,dy=dN t vs :: ej∧t.au w Z m x.1 vs G∧iy w Z ps us rs x.2 ej H∧ag.apart G H∧ag.sub G F∧ag.sub H F
 | .opt a off t :: rs,x,dy,F=>∃v ej,dy=v :: ej∧Lh w us a off t.size x.1 v∧iy w Z ps us rs x.2 ej F
 | .any t :: rs,x,dy,F=>∃v ej,dy=v :: ej∧(v.cells.toList.length=t.size∧∀u∈v.cells.toList,ep u=true)∧iy w Z ps us rs x ej F
 | .pO t :: rs,x,dy,F=>∃v ej,dy=v :: ej∧((x.1=[]∧v=.pointer none)∨∃y b o vs,x.1=[y]∧v=.pointer (some (at_ b o))∧cc w b o vs∧t.au w Z .R y vs ag.none∧∀j,j<t.size→Z b (o+j))∧iy w Z ps us rs x.2 ej F
 | .new t m :: rs,x,dy,F=>∃b o vs ej G H,dy=.pointer (some (at_ b o)) :: ej∧cc w b o vs∧(∀j,j<t.size→fE w b (o+j))∧t.au w Z m x.1 vs G∧iy w Z ps us rs x.2 ej H ∧
   ag.apart (G.or (ag.run b o t.size)) H∧ag.apart G (ag.run b o t.size)∧ag.sub (G.or (ag.run b o t.size)) F∧ag.sub H F
def oX:List Value→Value
 | [v]=>v
 | l=>.tuple l.toArray
structure Ends(w:World)(Z F:ag)(e:Entry)(us:List Value)(r:(c4.outs e.rs (bD.ef e.ps)).D)(v:Value)(w':World):Prop where
 out:∃dy Z' F',v=oX dy∧Ext w w' F∧ag.sub Z Z'∧(∀b o,Z' b o→Z b o∨((F b o∨w.heap.size≤b)∧b<w'.heap.size))∧(∀b o,F' b o→(F b o∨w.heap.size≤b)∧b<w'.heap.size) ∧
  ag.apart F' Z'∧iy w' Z' e.ps (us++gp us) e.rs r dy F'
structure Sound(P:Program)(f:FuncId)(key:Nat)(e:Entry):Prop where
 fn:∃fn,P.funcs[f]?=some fn∧fn.body.isNone=false∧(fn.name == "runtime.NumGoroutine")=false
 calls:∀(w:World) (Z F:ag) (x:(bD.ins e.ps).D) (us:List Value) (r:(c4.outs e.rs (bD.ef e.ps)).D),
  (∀b o,Z b o→b<w.heap.size)→(∀b o,F b o→b<w.heap.size)→ag.apart F Z→gF w Z key e.ps x (us++gp us) F→e.f x=some r →
  Calls P f us.toArray w fun end_ w'=>∃v,end_=.returned v∧Ends w Z F e us r v w'
def xS(P:Program)(f:FuncId)(us:Array Value)(w:World)(R:Ending→World→Prop):Prop:=
 ((∃fn,P.funcs[f]?=some fn∧fn.body.isNone=false∧(fn.name == "runtime.NumGoroutine")=false)∧Calls P f us w R)∨∃v w',(callFunc f us).run P w=.ok (.value v) w'∧R (.returned v) w'
structure ik(P:Program)(f:FuncId)(key:Nat)(e:Entry):Prop where
 calls:∀(w:World) (Z F:ag) (x:(bD.ins e.ps).D) (us:List Value) (r:(c4.outs e.rs (bD.ef e.ps)).D),
  (∀b o,Z b o→b<w.heap.size)→(∀b o,F b o→b<w.heap.size)→ag.apart F Z→gF w Z key e.ps x (us++gp us) F→e.f x=some r →
  xS P f us.toArray w fun end_ w'=>∃v,end_=.returned v∧Ends w Z F e us r v w'
theorem Sound.x{P:Program}{f:FuncId}{key:Nat}{e:Entry}(h:Sound P f key e):ik P f key e:=
 ⟨fun w Z F x us r h1 h2 h3 h4 a7=>.inl ⟨h.fn,h.calls w Z F x us r h1 h2 h3 h4 a7⟩⟩
instance {P:Program} {f:FuncId} {key:Nat} {e:Entry} : Coe (Sound P f key e) (ik P f key e):=⟨Sound.x⟩
section
variable{P:Program}{Q:Exit→Act→World→Prop}
variable{w0:World}{F0 Z0:ag}{n:cM}{s av:ar}{a b5:Act}{w w':World}{ι bm:Nat→bH}{Z Z':ag}
theorem gF.mono{key:Nat}(hZ:ag.sub Z Z'):∀(ps:List bD) {x:(bD.ins ps).D} {us:List Value} {F F':ag},ag.sub F F'→gF w Z key ps x us F→gF w Z' key ps x us F'
 | [],_,_,_,_,_,h=>h
 | .fn _ _ :: ps,_,_,_,_,hF,h=>by obtain ⟨a,b,aX,h1,h0,h2⟩:=h;exact⟨a,b,aX,h1,h0,gF.mono hZ ps hF h2⟩
 | .val t m :: ps,_,_,_,_,hF,h=>by obtain ⟨vs,aX,G,H,h1,h2,h3,h4,a7,bh⟩:=h;exact⟨vs,aX,G,H,h1,ad.au.mono hZ _ _ (fun _ _ h=>h) h2,gF.mono hZ ps (fun _ _ h=>h) h3,h4,fun b o h=>hF b o (a7 b o h),fun b o h=>hF b o (bh b o h)⟩
 | .hV t :: ps,_,_,_,_,hF,h=>by obtain ⟨vs,aX,G,H,h1,h2,h3,h4,a7,bh⟩:=h;exact⟨vs,aX,G,H,h1,ad.au.mono hZ _ _ (fun _ _ h=>h) h2,gF.mono hZ ps (fun _ _ h=>h) h3,h4,fun b o h=>hF b o (a7 b o h),fun b o h=>hF b o (bh b o h)⟩
 | .hg t m :: ps,_,_,_,_,hF,h=>by obtain ⟨vs,aX,G,H,h1,h2,h3,h4,a7,bh⟩:=h;exact⟨vs,aX,G,H,h1,ad.au.mono hZ _ _ (fun _ _ h=>h) h2,gF.mono hZ ps (fun _ _ h=>h) h3,h4,fun b o h=>hF b o (a7 b o h),fun b o h=>hF b o (bh b o h)⟩
 | .ref t :: ps,_,_,_,_,hF,h=>by obtain ⟨b,o,vs,aX,h1,h2,h3,h4,a7⟩:=h;exact⟨b,o,vs,aX,h1,h2,ad.au.mono hZ _ _ (fun _ _ h=>h) h3,fun j hj=>hZ _ _ (h4 j hj),gF.mono hZ ps hF a7⟩
 | .mut t m m' :: ps,_,_,_,_,hF,h=>by obtain ⟨b,o,vs,aX,G,H,h1,h2,h3,h4,a7,bh,bJ,dg,iO⟩:=h;exact⟨b,o,vs,aX,G,H,h1,h2,h3,ad.au.mono hZ _ _ (fun _ _ h=>h) h4,gF.mono hZ ps (fun _ _ h=>h) a7,bh,bJ,fun b o h=>hF b o (dg b o h),fun b o h=>hF b o (iO b o h)⟩
structure fN(s:ar)(ι : Nat→bH)(Z:ag)(av:ar)(Z':ag):Prop where
 o:∀id,av.o id=s.o id∨((s.o id).live∧(av.o id=.dead∨av.o id=.cm (s.o id)))
 t:av.t=s.t
 g:av.g=s.g
 dL:ag.sub Z Z'
 pR:∀b o,Z' b o→Z b o∨∃id,(s.o id).live∧¬(av.o id).live∧(ι id).F b o
theorem fj.mN(h:fj s ι Z av Z'):fN s ι Z av Z':=
 ⟨fun id=>(h.o id).imp (fun h=>h) fun h=>⟨h.1,.inl h.2⟩,h.t,h.g,h.dL,fun b o hz=>(h.pR b o hz).imp (fun h=>h) fun⟨id,h1,h2,h3⟩=>⟨id,h1,by rw [h2];exact aeN,h3⟩⟩
where aeN:¬cB.live .dead:=fun h=>h
theorem fN.refl:fN s ι Z s Z:=fj.mN .refl
theorem fN.live(h:fN s ι Z av Z'){id:Nat}(hl:(av.o id).live):(s.o id).live∧av.o id=s.o id:=by
 rcases h.o id with h1 | ⟨_,h1 | h1⟩
 ·exact⟨h1 ▸ hl,h1⟩
 ·rw [h1] at hl;exact hl.elim
 ·rw [h1] at hl;exact hl.elim
theorem fN.trans{s2:ar}{bQ:ag}(h:fN s ι Z av Z')(k:fN av ι Z' s2 bQ):fN s ι Z s2 bQ:=by
 refine⟨fun id=>?_,k.t.trans h.t,k.g.trans h.g,fun b o hz=>k.dL b o (h.dL b o hz),fun b o hz=>?_⟩
 ·rcases k.o id with h1 | ⟨h0,h1⟩
  ·rw [h1];exact h.o id
  ·obtain ⟨h2,h3⟩:=h.live h0;rw [h3] at h1;exact .inr ⟨h2,h1⟩
 ·rcases k.pR b o hz with h1 | ⟨id,h1,h2,h3⟩
  ·rcases h.pR b o h1 with h1 | ⟨id,h1,h2,h3⟩
   ·exact .inl h1
   ·exact .inr ⟨id,h1,fun hl=>h2 (k.live hl).1,h3⟩
  ·exact .inr ⟨id,(h.live h1).1,h2,h3⟩
theorem fN.eC(h:fN s ι Z av Z'):eU w Z s ι w Z' av ι := by
 refine⟨fun id=>?_,h.dL,cf.refl _ _⟩;rcases h.o id with h1 | ⟨h0,h1 | h1⟩
 ·rw [h1];exact .stay _ _
 ·rw [h1];exact .dead _ _ _
 ·rw [h1];exact .fG _ _ h0
theorem bK.uW{F:ag}(hf:bK w0 F0 s w ι Z F)(h:fN s ι Z av Z'):bK w0 F0 av w ι Z' F:=by
 refine⟨hf.own,fun id hl=>hf.apart id (h.live hl).1,fun b o h1 h2=>?_⟩;rcases h.pR b o h2 with h3 | ⟨id,h3,_,h4⟩
 ·exact hf.db b o h1 h3
 ·exact hf.apart id h3 b o h1 h4
theorem Aa{id:Nat}(hl:(s.o id).live):fN s ι Z (s.bV id (.cm (s.o id))) Z:=by
 refine⟨fun j=>?_,rfl,rfl,fun _ _ h=>h,fun _ _ h=>.inl h⟩;by_cases hj:id=j
 ·subst hj;exact .inr ⟨hl,.inr (cL _ _ _)⟩
 ·exact .inl (cW hj)
theorem Inv.mN(h:Inv w0 F0 Z0 n s a w ι Z)(aC:fN s ι Z av Z'):Inv w0 F0 Z0 n av a w ι Z':=by
 have hm:eU w Z s ι w Z' av ι := aC.eC;refine h.next hm (Ext.refl _ ag.none) (fun _ _ h=>h.elim) ?_ ?_ ?_ (fun k=>by rw [aC.t];exact(h.tmps k).move hm) h.size h.defers aC.g
 ·intro b o hz;rcases aC.pR b o hz with h1 | ⟨id,h1,_,h3⟩
  ·exact .inl h1
  ·exact .inr (h.own id h1 b o h3)
 ·intro id hl hne;exact absurd ⟨(aC.live hl).2,rfl⟩ hne
 ·intro id hl b o h1 h2;obtain ⟨d',_⟩:=aC.live hl;rcases aC.pR b o h2 with h3 | ⟨j,h3,h4,a7⟩
  ·exact h.db id d' b o h1 h3
  ·have hne:id≠j:=fun e=>h4 (e ▸ hl)
   exact h.apart id j d' h3 hne b o h1 a7
theorem Inv.Ab(h:Inv w0 F0 Z0 n s a w ι Z){id:Nat}(hl:(s.o id).live):bK w0 F0 (s.bV id (.cm (s.o id))) w ι Z (ι id).F:=by
 refine⟨h.own id hl,fun j hj=>?_,h.db id hl⟩;have hj':(bW s.o id (cB.cm (s.o id)) j).live:=hj;by_cases hne:id=j
 ·subst hne;rw [cL] at hj';exact hj'.elim
 ·rw [cW hne] at hj';exact h.apart id j hl hj' hne
def xT(g:Bool)(w:World)(Z:ag)(s:ar)(ι : Nat→bH)(t:ad)(p:Place)(u:Value)(H:ag):Prop:=
 ∃ver old b o vs,(g=true→¬(s.o p.id).live)∧(∀eO,s.o p.id=.cm eO→eO=.var ver old∧(ι p.id).base=some (at_ b o))∧p.fF=none∧u=.pointer (some (at_ b (o+p.off)))∧p.off+t.size≤old.length∧bL w Z s ι old vs ∧
  (∀j,j<old.length→fE w b (o+j))∧(∀j,j<old.length→(j<p.off∨p.off+t.size≤j)→H b (o+j)) ∧
  (∀(j:Nat) (v:Value),vs[j]?=some v→(j<p.off∨p.off+t.size≤j)→w.cell? (at_ b (o+j))=some v)
def xU(g:Bool)(w:World)(Z:ag)(s:ar)(ι : Nat→bH)(t:ad)(m:bg)(p:Place)(u:Value)(H:ag):Prop:=
 ∃ver xs i b o c G1 G2,(g=true→¬(s.o p.id).live)∧(∀eO,s.o p.id=.cm eO→eO=.row t m ver xs∧(ι p.id).base=some (at_ b o)∧(ι p.id).cap=c)∧p.fF=some i∧i<xs.length∧u=.pointer (some (at_ b (o+i*t.size)))∧xs.length≤c ∧
  (∀j,j<c*t.size→gb w t.size b (o+j))∧(∀j,j<c*t.size→(j<i*t.size∨(i+1)*t.size≤j)→H b (o+j)) ∧
  Row w (t.au w Z m) t.size (xs.take i) b o G1∧Row w (t.au w Z m) t.size (xs.drop (i+1)) b (o +(i+1)*t.size) G2∧ag.apart G1 G2∧ag.sub G1 H∧ag.sub G2 H ∧
  (∀j,j<c*t.size→¬G1 b (o+j)∧¬G2 b (o+j))
def aeO(g:Bool)(s:ar)(ι : Nat→bH)(t:ad)(e:bg)(cI:Option Place)(v:Value)(H:ag)(w:World):Prop:=
 ∃(p:Place) (i:Nat) (T:ad) (ver:Nat) (ys:List T.D) (b o c:Nat),cI=some p∧p.fF=some i∧(g=true→¬(s.o p.id).live)∧(∀eO,s.o p.id=.cm eO→eO=.row T T.own ver ys∧(ι p.id).base=some (at_ b o)∧(ι p.id).cap=c)∧i<ys.length∧e=t.own ∧
  ∀(ch:World) (bQ X:ag) (y:List t.D) (bz:T.D),cf w ch H→(ad.sl t).au ch bQ (.O t.own) y [v] X→ag.apart X H→T.setAt p.off t y (I T ys i)=some bz→nB ch (T.au ch bQ T.own) T.size (ys.set i bz) (at_ b o) c (X.or H)
mutual
def c6(g:Bool)(w:World)(Z:ag)(s:ar)(ι : Nat→bH):(t:ad)→bg→List bb→List Value→ag→Prop
 | .sl t,.O e,cs,vs,H=>∃c v,cs=[c]∧vs=[v]∧match c with
  | .nil _=>v=.slice none 0 0
  | .af id none=>∃ver xs A k c,(g=true→¬(s.o id).live)∧(∀eO,s.o id=.cm eO→eO=.row t e ver xs∧(ι id).cap=c∧Kz (ι id) t.size none xs.length A xs.length k)∧v=.slice A xs.length k ∧
    ((xs=[]∧c=0)∨∃b o,(∀eO,s.o id=.cm eO→(ι id).base=some (at_ b o))∧xs.length≤c∧k≤c∧(k=0∨A=some (at_ b o))∧(∀j,j<c*t.size→gb w t.size b (o+j))∧(∀j,k*t.size≤j→j<c*t.size→H b (o+j)))
  | .bM _ _ cI _=>aeO g s ι t e cI v H w
  | _=>False
 | .sl _,_,_,_,_=>False
 | .st ak,m,cs,vs,H=>fW g w Z s ι ak m.parts cs vs H
 | _,_,cs,vs,_=>cs.length=1∧vs.length=1
def fW(g:Bool)(w:World)(Z:ag)(s:ar)(ι : Nat→bH):(ak:aA)→c3→List bb→List Value→ag→Prop
 | .nil,_,cs,vs,_=>cs=[]∧vs=[]
 | .cons t ak,m,cs,vs,H=>∃c1 fL v1 v2 H1 H2,cs=c1++fL∧vs=v1++v2∧c6 g w Z s ι t m.af c1 v1 H1∧fW g w Z s ι ak m.dC fL v2 H2∧ag.apart H1 H2∧ag.sub H1 H∧ag.sub H2 H
end
def e7(g:Bool)(w:World)(Z:ag)(s:ar)(ι : Nat→bH):(ps:List bD)→List ba→List Value→ag→Prop
 | [],_,_,_=>True
 | .mut t m m' :: ps,vs,us,H=>∃p bI u aX H1 H2,vs=.ptr p :: bI∧us=u :: aX∧(xT g w Z s ι t p u H1∨(m'=m∧m=t.own∧xU g w Z s ι t m p u H1))∧e7 g w Z s ι ps bI aX H2∧ag.apart H1 H2∧ag.sub H1 H∧ag.sub H2 H
 | .hg t m :: ps,vs,us,H=>∃v bI u aX cs H1 H2,vs=v :: bI∧us=u :: aX∧je t v=some cs∧m=t.own∧c6 g w Z s ι t m cs u.cells.toList H1∧e7 g w Z s ι ps bI aX H2∧ag.apart H1 H2∧ag.sub H1 H∧ag.sub H2 H
 | _ :: ps,vs,us,H=>∃v bI u aX,vs=v :: bI∧us=u :: aX∧e7 g w Z s ι ps bI aX H
end
end Go.LM
namespace Go.LM
section
variable{P:Program}{Q:Exit→Act→World→Prop}
variable{g:Bool}{w0:World}{F0 Z0:ag}{n:cM}{s av:ar}{a b5:Act}{w w':World}{ι bm:Nat→bH}{Z Z':ag}
structure gT(g:Bool)(w:World)(Z:ag)(s:ar)(ι : Nat→bH)(w':World)(Z':ag)(av:ar)(bm:Nat→bH)(H:ag):Prop where
 aF:∀x v,aT w Z s ι x v→aT w' Z' av bm x v
 cell:∀c v,cr w Z s ι c v→cr w' Z' av bm c v
 dL:ag.sub Z Z'
 cm:∀id o',(g=true→¬(s.o id).live)→av.o id=.cm o'→s.o id=.cm o' ∧ bm id = ι id
 nl:g=true→∀id,¬(s.o id).live→¬(av.o id).live
 same:cf w w' H
 DD:cf w w' Z
 wr:∀b o,fE w b o→fE w' b o
 Ac:∀z b o,gb w z b o→gb w' z b o
theorem gT.mono{H gj:ag}(h:gT g w Z s ι w' Z' av bm H)(hs:ag.sub gj H):gT g w Z s ι w' Z' av bm gj:=⟨h.aF,h.cell,h.dL,h.cm,h.nl,h.same.mono hs,h.DD,h.wr,h.Ac⟩
theorem xT.move{t:ad}{p:Place}{u:Value}{H gj:ag}(h:gT g w Z s ι w' Z' av bm H)(cN:ag.sub H gj)(hk:xT g w Z s ι t p u H):xT g w' Z' av bm t p u gj:=by
 obtain ⟨ver,old,b,o,vs,h0,h1,h2,h4,a7,bh,bJ,dg,iO⟩:=hk;have hl:=bh.len;refine⟨ver,old,b,o,vs,fun aC=>h.nl aC _ (h0 aC),fun eO b0=>?_,h2,h4,a7,bL.mono h.cell bh,fun j hj=>h.wr _ _ (bJ j hj),fun j hj hh=>cN _ _ (dg j hj hh),fun j v hv hh=>?_⟩
 ·obtain ⟨ea,eV⟩:=h.cm _ _ h0 b0;rw [eV];exact h1 eO ea
 have hj:j<old.length:=by
  rcases Nat.lt_or_ge j vs.length with h | h
  ·omega
  ·rw [List.getElem?_eq_none h] at hv;simp at hv
 rw [(h.same _ _ (dg j hj hh)).1];exact iO j v hv hh
theorem xU.move{t:ad}{m:bg}{p:Place}{u:Value}{H gj:ag}(h:gT g w Z s ι w' Z' av bm H)(cN:ag.sub H gj)(hk:xU g w Z s ι t m p u H):xU g w' Z' av bm t m p u gj:=by
 obtain ⟨ver,xs,i,b,o,c,G1,G2,h0,h1,h2,h3,a7,bh,bJ,dg,iO,kr,rb,j4,xV,xW⟩:=hk;have cS:∀(G:ag),ag.sub G H→∀y us dv,ag.sub dv G→t.au w Z m y us dv→t.au w' Z' m y us dv:=fun G hG y us dv KM hr=>ad.au.mono h.dL _ _ (fun _ _ h=>h) (ad.au.same h.DD _ _ (h.same.mono fun b o aC=>hG b o (KM b o aC)) hr)
 have hcap:(i+1)*t.size≤c*t.size:=Nat.mul_le_mul_right _ (by omega);have hcell:∀j,j<c*t.size→(j<i*t.size∨(i+1)*t.size≤j)→w'.cell? (at_ b (o+j))=w.cell? (at_ b (o+j)):=fun j hj hh=>(h.same _ _ (dg j hj hh)).1
 refine⟨ver,xs,i,b,o,c,G1,G2,fun aC=>h.nl aC _ (h0 aC),fun eO b0=>?_,h2,h3,a7,bh,fun j hj=>h.Ac _ _ _ (bJ j hj),fun j hj hh=>cN _ _ (dg j hj hh),?_,?_,rb,fun b o aC=>cN b o (j4 b o aC),fun b o aC=>cN b o (xV b o aC),xW⟩
 ·obtain ⟨ea,eV⟩:=h.cm _ _ h0 b0;rw [eV];exact h1 eO ea
 ·refine iO.imp (cS G1 j4) fun j hj=>hcell j ?_ (.inl ?_)
  all_goals
   have:(xs.take i).length=i:=by simp;omega
   rw [this] at hj;rw [Nat.add_one_mul] at hcap;omega
 ·refine kr.imp (cS G2 xV) fun j hj=>?_
  have hle:xs.length*t.size≤c*t.size:=Nat.mul_le_mul_right _ bh;have e1:(xs.drop (i+1)).length=xs.length-(i+1):=by simp
  rw [e1,Nat.sub_mul] at hj;have:=hcell ((i+1)*t.size+j) (by omega) (.inr (by omega));rwa [← Nat.add_assoc] at this
mutual
theorem c6.move{H gj:ag}(h:gT g w Z s ι w' Z' av bm H)(cN:ag.sub H gj):∀(t:ad) (m:bg) {cs:List bb} {vs:List Value},c6 g w Z s ι t m cs vs H→c6 g w' Z' av bm t m cs vs gj
 | .int _,_,_,_,hk=>by simp only [c6] at hk ⊢;exact hk
 | .bool,_,_,_,hk=>by simp only [c6] at hk ⊢;exact hk
 | .str,_,_,_,hk=>by simp only [c6] at hk ⊢;exact hk
 | .raw,_,_,_,hk=>by simp only [c6] at hk ⊢;exact hk
 | .sl t,.R,_,_,hk=>by simp only [c6] at hk
 | .sl t,.S _,_,_,hk=>by simp only [c6] at hk
 | .sl t,.O e,_,_,hk=>by
  simp only [c6] at hk ⊢;obtain ⟨c,v,h1,h2,hk⟩:=hk;refine⟨c,v,h1,h2,?_⟩
  cases c with
  | nil=>exact hk
  | af id sub=>
   cases sub with
   | some=>exact hk
   | none=>
    obtain ⟨ver,xs,A,k,c,mJ,k1,k2,bs⟩:=hk;refine⟨ver,xs,A,k,c,fun aC=>h.nl aC _ (mJ aC),fun eO b0=>?_,k2,?_⟩
    ·obtain ⟨ea,eV⟩:=h.cm _ _ mJ b0;rw [eV];exact k1 eO ea
    rcases bs with bs | ⟨b,o,c0,d_,gQ,hp,h5,oY⟩
    ·exact .inl bs
    ·right;refine⟨b,o,fun eO b0=>?_,d_,gQ,hp,fun j hj=>h.Ac _ _ _ (h5 j hj),fun j h1 h2=>cN _ _ (oY j h1 h2)⟩;obtain ⟨ea,eV⟩:=h.cm _ _ mJ b0;rw [eV];exact c0 eO ea
  | bM u dp cI xs=>
   obtain ⟨p,i,T,ver,ys,b,o,c,aw,hi,mJ,k1,k2,k3,bs⟩:=hk;refine⟨p,i,T,ver,ys,b,o,c,aw,hi,fun aC=>h.nl aC _ (mJ aC),fun eO b0=>?_,k2,k3,fun ch bQ X y bz c0 d_ gQ hp=>?_⟩
   ·obtain ⟨ea,eV⟩:=h.cm _ _ mJ b0;rw [eV];exact k1 eO ea
   ·have:=bs ch bQ X y bz (h.same.trans (c0.mono cN)) d_ (fun b o x y=>gQ b o x (cN b o y)) hp;obtain ⟨G,g1,g2,g3⟩:=this.row;exact⟨this.spot,this.cap,this.wr,fun j hj=>(this.inF j hj).imp (fun h=>h) (cN _ _),G,g1,g2,fun b o x=>(g3 b o x).imp (fun h=>h) (cN b o)⟩
  | _=>exact hk
 | .st ak,m,_,_,hk=>by simp only [c6] at hk ⊢;exact fW.move h cN ak m.parts hk
theorem fW.move{H gj:ag}(h:gT g w Z s ι w' Z' av bm H)(cN:ag.sub H gj):∀(ak:aA) (m:c3) {cs:List bb} {vs:List Value},fW g w Z s ι ak m cs vs H→fW g w' Z' av bm ak m cs vs gj
 | .nil,_,_,_,hk=>by simp only [fW] at hk ⊢;exact hk
 | .cons t ak,m,_,_,hk=>by simp only [fW] at hk ⊢;obtain ⟨c1,fL,v1,v2,H1,H2,h1,h2,h3,h4,a7,bh,bJ⟩:=hk;exact⟨c1,fL,v1,v2,H1,H2,h1,h2,c6.move (h.mono bh) (fun _ _ h=>h) t m.af h3,fW.move (h.mono bJ) (fun _ _ h=>h) ak m.dC h4,a7,fun b o x=>cN b o (bh b o x),fun b o x=>cN b o (bJ b o x)⟩
end
theorem e7.move{H gj:ag}(h:gT g w Z s ι w' Z' av bm H)(cN:ag.sub H gj):∀(ps:List bD) {vs:List ba} {us:List Value},e7 g w Z s ι ps vs us H→e7 g w' Z' av bm ps vs us gj
 | [],_,_,_=>trivial
 | .mut t m m' :: ps,_,_,⟨p,bI,u,aX,H1,H2,h1,h2,h3,h4,a7,bh,bJ⟩=>⟨p,bI,u,aX,H1,H2,h1,h2,h3.imp (xT.move (h.mono bh) (fun _ _ h=>h)) (fun hk=>⟨hk.1,hk.2.1,xU.move (h.mono bh) (fun _ _ h=>h) hk.2.2⟩),e7.move (h.mono bJ) (fun _ _ h=>h) ps h4,a7,fun b o x=>cN b o (bh b o x),fun b o x=>cN b o (bJ b o x)⟩
 | .hg t m :: ps,_,_,⟨v,bI,u,aX,cs,H1,H2,h1,h2,h3,oZ,h4,a7,bh,bJ,dg⟩=>⟨v,bI,u,aX,cs,H1,H2,h1,h2,h3,oZ,c6.move (h.mono bJ) (fun _ _ h=>h) t m h4,e7.move (h.mono dg) (fun _ _ h=>h) ps a7,bh,fun b o x=>cN b o (bJ b o x),fun b o x=>cN b o (dg b o x)⟩
 | .val _ _ :: ps,_,_,⟨v,bI,u,aX,h1,h2,h3⟩=>⟨v,bI,u,aX,h1,h2,e7.move h cN ps h3⟩
 | .hV _ :: ps,_,_,⟨v,bI,u,aX,h1,h2,h3⟩=>⟨v,bI,u,aX,h1,h2,e7.move h cN ps h3⟩
 | .ref _ :: ps,_,_,⟨v,bI,u,aX,h1,h2,h3⟩=>⟨v,bI,u,aX,h1,h2,e7.move h cN ps h3⟩
 | .fn _ _ :: ps,_,_,⟨v,bI,u,aX,h1,h2,h3⟩=>⟨v,bI,u,aX,h1,h2,e7.move h cN ps h3⟩
theorem fN.held(h:fN s ι Z av Z')(H:ag):gT true w Z s ι w Z' av ι H:=by
 refine⟨fun _ _=>aT.move h.eC,fun _ _=>cr.move h.eC,h.dL,fun id o' hn ho=>⟨?_,rfl⟩,fun _ id hn hl=>hn (h.live hl).1,cf.refl _ _,cf.refl _ _,fun _ _ h=>h,fun _ _ _ h=>h⟩;rcases h.o id with h1 | ⟨h0,_⟩
 ·rw [← h1,ho]
 ·exact absurd h0 (hn rfl)
def Li(w0:World)(F0 Z0:ag)(n:cM)(s:ar)(a:Act)(w:World)(ι : Nat→bH)(Z:ag)(R:List Value→ag→Prop)(DE:ar→List bb→List Value→ag→Prop)(cs:List bb)(vs:List Value)(cs':List bb)(av:ar):Prop:=
 ∃c1 us bI F H,cs=c1++cs'∧vs=us++bI∧Inv w0 F0 Z0 n av a w ι Z∧fN s ι Z av Z∧bL w Z av ι cs' bI∧bK w0 F0 av w ι Z F∧bK w0 F0 av w ι Z H∧ag.apart F H ∧
  R us F∧DE av c1 us H∧∀b o,F b o∨H b o→∃id,(s.o id).live∧(ι id).F b o
theorem DF{R:List Value→ag→Prop}{DE:ar→List bb→List Value→ag→Prop}{c:bb}{v:Value}{cs':List bb}{bI:List Value}(h:Inv w0 F0 Z0 n s a w ι Z)(hc:bL w Z s ι cs' bI)
  (e6:R [v] ag.none) (Lj:DE s [c] [v] ag.none):Li w0 F0 Z0 n s a w ι Z R DE (c :: cs') (v :: bI) cs' s:=
 ⟨[c],[v],bI,ag.none,ag.none,rfl,rfl,h,.refl,hc,.none,.none,fun _ _ h=>h.elim,e6,Lj,fun _ _ h=>h.elim (fun h=>h.elim) fun h=>h.elim⟩
mutual
theorem ad.Ad:∀(t:ad) (m:bg) (cs:List bb) (s:ar) (r:t.D×List bb×ar) (vs:List Value),t.fG m cs s=some r→Inv w0 F0 Z0 n s a w ι Z→bL w Z s ι cs vs →
  Li w0 F0 Z0 n s a w ι Z (fun us F=>t.au w Z m r.1 us F) (fun s c us H=>c6 true w Z s ι t m c us H) cs vs r.2.1 r.2.2
 | .int k,m,cs,s,r,vs,hi,h,hc=>by
  match cs,vs,hc with
  | [],_,_=>simp [ad.fG] at hi
  | _ :: _,[],hc=>exact hc.elim
  | c :: cs,v :: vs,hc=>
   cases c <;> simp only [ad.fG] at hi <;> try (simp at hi;done)
   rename_i k' x;cases hb:Nat.beq (dx k) (dx k')
   ·rw [hb] at hi;simp at hi
   rw [hb] at hi;obtain rfl:=aW hi;have:=Dn hb;subst this;have hv:v=.int k x:=hc.1;exact DF h hc.2 (by simp only [ad.au];rw [hv]) (by simp only [c6];exact⟨rfl,rfl⟩)
 | .bool,m,cs,s,r,vs,hi,h,hc=>by
  match cs,vs,hc with
  | [],_,_=>simp [ad.fG] at hi
  | _ :: _,[],hc=>exact hc.elim
  | c :: cs,v :: vs,hc=>
   cases c <;> simp only [ad.fG] at hi <;> try (simp at hi;done)
   obtain rfl:=aW hi;have hv:=hc.1;simp only [cr] at hv;exact DF h hc.2 (by simp only [ad.au];rw [hv]) (by simp only [c6];exact⟨rfl,rfl⟩)
 | .str,m,cs,s,r,vs,hi,h,hc=>by
  match cs,vs,hc with
  | [],_,_=>simp [ad.fG] at hi
  | _ :: _,[],hc=>exact hc.elim
  | c :: cs,v :: vs,hc=>
   cases c <;> simp only [ad.fG] at hi <;> try (simp at hi;done)
   obtain rfl:=aW hi;have hv:=hc.1;obtain ⟨j3,hv,hx⟩:=hv;exact DF h hc.2 (by simp only [ad.au];exact⟨j3,by rw [hv],hx⟩) (by simp only [c6];exact⟨rfl,rfl⟩)
 | .raw,m,cs,s,r,vs,hi,h,hc=>by cases cs <;> cases m <;> simp [ad.fG] at hi
 | .sl t,m,cs,s,r,vs,hi,h,hc=>by
  match cs,vs,hc with
  | [],_,_=>cases m <;> simp [ad.fG] at hi
  | _ :: _,[],hc=>exact hc.elim
  | c :: cs,v :: vs,hc=>
   cases m with
   | R=>simp [ad.fG] at hi
   | S=>simp [ad.fG] at hi
   | O e=>
    cases c with
    | nil u=>
     simp only [ad.fG] at hi;obtain ⟨x,hx,hi⟩:=bd hi;obtain ⟨e1,rfl⟩:=hy hx;subst e1;obtain rfl:=aW hi;have hv:v=.slice none 0 0:=hc.1;refine DF h hc.2 ?_ ?_
     ·simp only [ad.au];exact⟨none,0,by rw [hv];rfl,.inl (by simp)⟩
     ·simp only [c6];exact⟨_,_,rfl,rfl,hv⟩
    | af id sub=>
     cases sub with
     | some=>simp [ad.fG] at hi
     | none=>
      simp only [ad.fG] at hi
      cases ho:s.o id with
      | row u em ver xs=>
       rw [ho] at hi;simp only at hi;cases hb:bg.beq em e
       ·rw [hb] at hi;simp at hi
       rw [hb] at hi;simp only [cond_true] at hi;have:=bg.eq_of_beq _ _ hb;subst this;obtain ⟨x,hx,hi⟩:=bd hi;obtain ⟨e1,rfl⟩:=hy hx;subst e1;obtain rfl:=aW hi;have ck:(s.o id).live:=by rw [ho];trivial
       have aC:fN s ι Z (s.bV id (.cm (.row u em ver xs))) Z:=by have:=Aa (s:=s) (ι := ι) (Z:=Z) ck;rw [ho] at this;exact this
       have fs:bK w0 F0 (s.bV id (.cm (.row u em ver xs))) w ι Z (ι id).F:=by have:=h.Ab ck;rw [ho] at this;exact this
       have c7:=h.gf id;rw [ho] at c7;obtain ⟨_,A,m',k,hv,hh⟩:=hc.1;have hh:=hh u em ver xs (lW ho);have nP:=xB c7 hh;have p0:m'=xs.length:=hh.SE;subst p0;have mO:(s.bV id (.cm (.row u em ver xs))).o id=.cm (.row u em ver xs):=cL _ _ _;simp only [ad.au,lj] at nP;obtain ⟨nK,k',lX,nP⟩:=nP;simp only [List.cons.injEq,Value.slice.injEq,and_true,true_and] at lX;obtain ⟨rfl,rfl⟩:=lX;rcases c7 with⟨hx0,aeP⟩ | ⟨⟨b,o,sp⟩,eP,hr⟩
       ·refine⟨[.af id none],[v],vs,ag.none,ag.none,rfl,rfl,h.mN aC,aC,hc.2.move aC.eC,.none,.none,fun _ _ h=>h.elim,?_,?_,fun _ _ h=>h.elim (fun h=>h.elim) fun h=>h.elim⟩
        ·simp only [ad.au];have hk0:k=0:=by have:=hh.cap;omega
         exact⟨A,k,by rw [hv],.inl ⟨hx0,hk0⟩⟩
        ·simp only [c6];exact⟨_,_,rfl,rfl,ver,xs,A,k,_,fun _=>by rw [mO];exact fun h=>h,fun eO b0=>by rw [mO] at b0;exact⟨(cB.cm.inj b0).symm,rfl,hh⟩,hv,.inl ⟨hx0,aeP⟩⟩
       ·have hsp:=hr.spot;simp only at hsp;subst hsp;have aeQ:k*u.size≤(ι id).cap*u.size:=Nat.mul_le_mul_right _ (by have:=hh.cap;simp only [eB] at this;omega)
        let T:ag:=ag.run b (o+k*u.size) ((ι id).cap*u.size-k*u.size)
        refine⟨[.af id none],[v],vs,ag.diff (ι id).F T,fun b o=>(ι id).F b o∧T b o,rfl,rfl,h.mN aC,aC,hc.2.move aC.eC,fs.sub fun _ _ h=>h.1,fs.sub fun _ _ h=>h.1,fun b o h1 h2=>h1.2 h2.2,?_,?_,?_⟩
        ·simp only [ad.au];refine⟨A,k,by rw [hv],?_⟩;rcases nP with nP | ⟨⟨b',o',sp⟩,hA,iM⟩
         ·exact .inl nP
         ·rcases hh.at_ with hk0 | ⟨a1,nS,uX⟩
          ·exact .inl ⟨List.eq_nil_of_length_eq_zero (by have:=hh.le;omega),hk0⟩
          ·right;rw [eP] at nS;obtain rfl:=aW nS;rw [hA] at uX;simp only [eB,Nat.zero_mul,Nat.add_zero,Option.some.injEq,at_,Addr.mk.injEq] at uX;obtain ⟨rfl,rfl,rfl⟩:=uX;obtain ⟨G,g1,g2,g3⟩:=hr.row;refine⟨_,hA,rfl,iM.cap,iM.wr,fun j hj=>⟨iM.inF j hj,?_⟩,G,g1,fun j hj=>g2 j (by omega),fun b o aC=>⟨g3 b o aC,?_⟩⟩
           ·rintro ⟨_,h1,_⟩;simp only at h1;omega
           ·rintro ⟨rfl,h1,h2⟩
            have:=g2 (o-o') (by omega);simp only at this;rw [show o' +(o-o')=o by omega] at this;exact this aC
        ·simp only [c6];refine⟨_,_,rfl,rfl,ver,xs,A,k,(ι id).cap,fun _=>by rw [mO];exact fun h=>h,fun eO b0=>by rw [mO] at b0;exact⟨(cB.cm.inj b0).symm,rfl,hh⟩,hv,.inr ⟨b,o,fun _ _=>eP,hr.cap,by have:=hh.cap;simp only [eB] at this;omega,?_,hr.wr,fun j h1 h2=>⟨hr.inF j h2,rfl,by omega,by omega⟩⟩⟩;rcases hh.at_ with h0 | ⟨a1,nS,uX⟩
         ·exact .inl h0
         ·rw [eP] at nS;obtain rfl:=aW nS;right;rw [uX];simp [eB,at_]
        ·rintro b o (hf | hf)
         ·exact⟨id,ck,hf.1⟩
         ·exact⟨id,ck,hf.1⟩
      | _=>rw [ho] at hi;simp at hi
    | bM u dp cI xs=>
     simp only [ad.fG] at hi;obtain ⟨DG,iP,hi⟩:=bd hi;obtain rfl:=aW hi
     cases cI with
     | none=>simp [uC] at iP
     | some p=>
      simp only [uC] at iP
      cases ff:p.fF with
      | none=>rw [ff] at iP;simp at iP
      | some i=>
       rw [ff] at iP
       cases ho:s.o p.id with
       | row T em ver ys=>
        rw [ho] at iP;simp only at iP;cases hb:(alive s dp&&bg.beq em T.own&&bg.beq e t.own)
        ·rw [hb] at iP;simp at iP
        rw [hb] at iP;simp only [cond_true] at iP;simp only [Bool.and_eq_true] at hb;obtain rfl:=bg.eq_of_beq _ _ hb.1.2;obtain rfl:=bg.eq_of_beq _ _ hb.2;obtain ⟨x,hx,iP⟩:=bd iP;obtain rfl:=aW iP;obtain ⟨_,_,_,lv⟩:=hc.1;obtain ⟨_,lv⟩:=lv _ rfl;obtain ⟨cU,dV,⟨_,gl⟩,hcell,hin⟩:=lv hb.1.1;simp only [ho,cB.core] at gl;obtain ⟨ei,hii,lx,a0,eP,nN⟩:=gl;rw [ff] at hii;obtain rfl:=aW hii;have ck:(s.o p.id).live:=by rw [ho];trivial
        have aC:fN s ι Z (s.bV p.id (.cm (.row T T.own ver ys))) Z:=by have:=Aa (s:=s) (ι := ι) (Z:=Z) ck;rw [ho] at this;exact this
        have fs:bK w0 F0 (s.bV p.id (.cm (.row T T.own ver ys))) w ι Z (ι p.id).F:=by have:=h.Ab ck;rw [ho] at this;exact this
        have c7:=h.gf p.id;rw [ho] at c7;rcases c7 with⟨hx0,_⟩ | ⟨a1,hb1,hr⟩
        ·rw [hx0] at lx;simp at lx
        rw [eP] at hb1;obtain rfl:=aW hb1;obtain ⟨ab,ao,sp⟩:=a0;have hsp:=hr.spot;simp only at hsp;subst hsp;obtain ⟨eY,H1,ea,eV,oR,pV⟩:=hr.lens lx hx;rw [← nN] at ea;have Lk:eY=v:=by rw [hcell] at ea;exact(aW ea).symm
        subst Lk;have mO:(s.bV p.id (.cm (.row T T.own ver ys))).o p.id=.cm (.row T T.own ver ys):=cL _ _ _;refine⟨[.bM u dp (some p) xs],[eY],vs,H1,ag.diff (ι p.id).F H1,rfl,rfl,h.mN aC,aC,hc.2.move aC.eC,fs.sub oR,fs.sub fun _ _ h=>h.1,fun b o h1 h2=>h2.2 h1,eV,?_,?_⟩
        ·simp only [c6];exact⟨_,_,rfl,rfl,p,i,T,ver,ys,ab,ao,(ι p.id).cap,rfl,ff,fun _=>by rw [mO];exact fun h=>h,fun eO b0=>by rw [mO] at b0;exact⟨(cB.cm.inj b0).symm,eP,rfl⟩,lx,rfl,pV⟩
        ·rintro b o (hf | hf)
         ·exact⟨p.id,ck,oR b o hf⟩
         ·exact⟨p.id,ck,hf.1⟩
       | _=>rw [ho] at iP;simp at iP
    | _=>simp [ad.fG] at hi
 | .st ak,m,cs,s,r,vs,hi,h,hc=>by simp only [ad.fG] at hi;have:=aA.Ad ak m.parts cs s r vs hi h hc;simpa only [ad.au,c6] using this
theorem aA.Ad:∀(ak:aA) (m:c3) (cs:List bb) (s:ar) (r:ak.D×List bb×ar) (vs:List Value),ak.fG m cs s=some r→Inv w0 F0 Z0 n s a w ι Z→bL w Z s ι cs vs →
  Li w0 F0 Z0 n s a w ι Z (fun us F=>ak.au w Z m r.1 us F) (fun s c us H=>fW true w Z s ι ak m c us H) cs vs r.2.1 r.2.2
 | .nil,m,cs,s,r,vs,hi,h,hc=>by simp only [aA.fG] at hi;obtain rfl:=aW hi;exact⟨[],[],vs,ag.none,ag.none,rfl,rfl,h,.refl,hc,.none,.none,fun _ _ h=>h.elim,by simp only [aA.au],by simp [fW],fun _ _ h=>h.elim (fun h=>h.elim) fun h=>h.elim⟩
 | .cons t ak,m,cs,s,r,vs,hi,h,hc=>by
  simp only [aA.fG] at hi;obtain ⟨bE,h1,hi⟩:=bd hi;obtain ⟨cp,h2,hi⟩:=bd hi;obtain rfl:=aW hi;obtain ⟨c1,us1,vs1,F1,H1,e1,e2,i1,g1,c0,f1,Ae,a1,er,k1,ea⟩:=ad.Ad t m.af cs s bE vs h1 h hc;obtain ⟨fL,us2,vs2,dU,H2,d1,d2,i2,g2,d_,f2,aeR,a2,fc,k2,eV⟩:=aA.Ad ak m.dC bE.2.1 bE.2.2 cp vs1 h2 i1 c0;have hap:∀ {X:ag},bK w0 F0 bE.2.2 w ι Z X→∀b o,X b o→(dU b o∨H2 b o)→False:=by intro X hX b o hx hh;obtain ⟨id,hl,hf⟩:=eV b o hh;exact hX.apart id hl b o hx hf
  refine⟨c1++fL,us1++us2,vs2,F1.or dU,H1.or H2,by rw [e1,d1,List.append_assoc],by rw [e2,d2,List.append_assoc],i2,g1.trans g2,d_,(f1.uW g2).or f2,(Ae.uW g2).or aeR,?_,?_,?_,?_⟩
  ·rintro b o (hf | hf) (hh | hh)
   ·exact a1 b o hf hh
   ·exact hap f1 b o hf (.inr hh)
   ·exact hap Ae b o hh (.inl hf)
   ·exact a2 b o hf hh
  ·simp only [aA.au];exact⟨us1,us2,F1,dU,rfl,er,fc,fun b o h1 h2=>hap f1 b o h1 (.inl h2),fun _ _ h=>.inl h,fun _ _ h=>.inr h⟩
  ·simp only [fW];exact⟨c1,fL,us1,us2,H1,H2,rfl,rfl,c6.move (g2.held H1) (fun _ _ h=>h) t m.af k1,k2,fun b o h1 h2=>hap Ae b o h1 (.inr h2),fun _ _ h=>.inl h,fun _ _ h=>.inr h⟩
  ·rintro b o ((hf | hf) | (hf | hf))
   ·exact ea b o (.inl hf)
   ·obtain ⟨id,hl,re⟩:=eV b o (.inl hf);exact⟨id,(g1.live hl).1,re⟩
   ·exact ea b o (.inr hf)
   ·obtain ⟨id,hl,re⟩:=eV b o (.inr hf);exact⟨id,(g1.live hl).1,re⟩
end
end
end Go.LM
namespace Go.LM
section
variable{P:Program}{Q:Exit→Act→World→Prop}
variable{w0:World}{F0 Z0:ag}{n:cM}{s av:ar}{a b5:Act}{w w':World}{ι bm:Nat→bH}{Z Z':ag}
theorem DH{t:ad}{x:ba}{v:Value}(hf:oJ t x=true)(hv:aT w Z s ι x v):v=dN t v.cells.toList:=by
 cases t <;> cases x <;> simp only [oJ] at hf <;> try (simp at hf;done)
 all_goals simp only [aT] at hv
 all_goals first
  | (rw [KR hv.ep];rfl)
  | (subst hv;rfl)
  | (obtain ⟨vs,rfl,_⟩:=hv;simp [dN,Value.cells])
theorem TM(h:Inv w0 F0 Z0 n s a w ι Z){k:Nat}{p:Place}{cs:List bb}{A:Addr}(hr:mA s k p=some cs)(aw:jI s ι p A) :
  ∃b o vs,A=at_ b o∧bL w Z s ι cs vs∧cc w b o vs∧vs.length=k∧(s.o p.id).live∧∀j,j<k→(ι p.id).F b (o+j):=by
 obtain ⟨b,o,vs,rfl,h1,h2,h3⟩:=zV h hr aw;refine⟨b,o,vs,rfl,h1,h2,h3,?_⟩;obtain ⟨hs,aw⟩:=aw;unfold mA at hr
 cases ho:s.o p.id with
 | var ver old=>rw [ho] at hr aw;obtain ⟨he,a0,hb,hA⟩:=aw;rw [he] at hr;obtain ⟨hle,rfl⟩:=pT hr;have c7:=h.gf p.id;rw [ho] at c7;obtain ⟨xC,bI,dM,hsp,hc,cC,hF⟩:=c7;rw [hb] at dM;obtain rfl:=aW dM;simp only [at_,Addr.mk.injEq,and_true] at hA;obtain ⟨rfl,rfl⟩:=hA;refine⟨trivial,fun j hj=>?_⟩;have:=(hF (p.off+j) (by omega)).2;rwa [← Nat.add_assoc] at this
 | row t em ver xs=>
  rw [ho] at hr aw;obtain ⟨i,he,hi,a0,hb,hA⟩:=aw;rw [he] at hr;obtain ⟨hle,rfl⟩:=pT hr;have c7:=h.gf p.id;rw [ho] at c7;obtain ⟨xC,bI,dM,hsp,hc,cC,hl⟩:=SJ h ho hi;rcases c7 with⟨rfl,_⟩ | ⟨a1,hb1,hrow⟩
  ·simp at hi
  rw [hb] at hb1;obtain rfl:=aW hb1;simp only [at_,Addr.mk.injEq,and_true] at hA;obtain ⟨rfl,rfl⟩:=hA;refine⟨trivial,fun j hj=>?_⟩;have hcl:=hc.len;have KK:(i+1)*t.size≤(ι p.id).cap*t.size:=Nat.mul_le_mul_right _ (by have:=hrow.cap;omega);rw [Nat.add_one_mul] at KK;have:=hrow.inF (i*t.size+p.off+j) (by omega);rwa [show a0.off +(i*t.size+p.off+j)=a0.off+i*t.size+p.off+j by omega] at this
 | none=>rw [ho] at hr;simp at hr
 | dead=>rw [ho] at hr;simp at hr
 | cm=>rw [ho] at hr;simp at hr
def DI(w0:World)(F0 Z0:ag)(n:cM)(s:ar)(a:Act)(w:World)(ι : Nat→bH)(Z:ag)(key:Nat)(bt:List (Nat×Nat))(ps:List bD)(vs:List ba)(us:List Value)(q:(bD.ins ps).D×ar×List (Nat×Nat)):Prop:=
 ∃F H cH,Inv w0 F0 Z0 n q.2.1 a w ι cH∧fN s ι Z q.2.1 cH∧gF w (cH.or (dt ι q.2.2)) key ps q.1 us F∧e7 true w cH q.2.1 ι ps vs us H∧bK w0 F0 q.2.1 w ι cH F∧bK w0 F0 q.2.1 w ι cH H∧ag.apart F H ∧
  (∃nb,q.2.2=nb++bt)∧(∀d,d∈q.2.2→eI q.2.1 d)∧∀b o,F b o∨H b o→∃id,(s.o id).live∧(ι id).F b o
theorem Ll(h:fN s ι Z av Z'){d:Nat×Nat}(af:eI s d):eI av d:=(h.eC (w:=default)).turns.dep af
theorem xX{key:Nat}{sp:bD}{ps:List bD}{v:ba}{vs:List ba}{u:Value}{us:List Value}{bt Lm nb:List (Nat×Nat)}{s1:ar}{cH F1 H1:ag}{q:(bD.ins ps).D×ar×List (Nat×Nat)}{x:(bD.ins (sp :: ps)).D}
  (g1:fN s ι Z s1 cH) (f1:bK w0 F0 s1 w ι cH F1) (h1:bK w0 F0 s1 w ι cH H1) (a1:ag.apart F1 H1) (src:∀b o,F1 b o∨H1 b o→∃id,(s.o id).live∧(ι id).F b o) (mP:Lm=nb++bt)
  (hr:DI w0 F0 Z0 n s1 a w ι cH key Lm ps vs us q)
  (hA:∀(bQ dU:ag),ag.sub (cH.or (dt ι Lm)) bQ→gF w bQ key ps q.1 us dU→ag.apart F1 dU→gF w bQ key (sp :: ps) x (u :: us) (F1.or dU))
  (Lj:∀(s2:ar) (bQ H2:ag),fN s1 ι cH s2 bQ→e7 true w bQ s2 ι ps vs us H2→ag.apart H1 H2→e7 true w bQ s2 ι (sp :: ps) (v :: vs) (u :: us) (H1.or H2)) :
  DI w0 F0 Z0 n s a w ι Z key bt (sp :: ps) (v :: vs) (u :: us) (x,q.2):=by
 obtain ⟨dU,H2,bQ,i2,g2,cp,k2,f2,h2,a2,⟨KI,kk⟩,d2,s2⟩:=hr;have hap:∀ {X:ag},bK w0 F0 s1 w ι cH X→∀b o,X b o→(dU b o∨H2 b o)→False:=by intro X hX b o hx hh;obtain ⟨id,hl,hf⟩:=s2 b o hh;exact hX.apart id hl b o hx hf
 refine⟨F1.or dU,H1.or H2,bQ,i2,g1.trans g2,hA _ _ ?_ cp (fun b o h1 h2=>hap f1 b o h1 (.inl h2)),Lj _ _ _ g2 k2 (fun b o x y=>hap h1 b o x (.inr y)),(f1.uW g2).or f2,(h1.uW g2).or h2,?_,⟨KI++nb,by show q.2.2=_;rw [kk,mP,List.append_assoc]⟩,d2,?_⟩
 ·rintro b o (hz | hz)
  ·exact .inl (g2.dL b o hz)
  ·show bQ b o∨dt ι q.2.2 b o;rw [kk];exact .inr (KE _ _ _ b o hz)
 ·rintro b o (hf | hf) (hh | hh)
  ·exact a1 b o hf hh
  ·exact hap f1 b o hf (.inr hh)
  ·exact hap h1 b o hh (.inl hf)
  ·exact a2 b o hf hh
 ·rintro b o ((hf | hf) | (hf | hf))
  ·exact src b o (.inl hf)
  ·obtain ⟨id,hl,re⟩:=s2 b o (.inl hf);exact⟨id,(g1.live hl).1,re⟩
  ·exact src b o (.inr hf)
  ·obtain ⟨id,hl,re⟩:=s2 b o (.inr hf);exact⟨id,(g1.live hl).1,re⟩
theorem Ln{sp:bD}{ps:List bD}{v:ba}{vs:List ba}{u:Value}{us:List Value}{H gj:ag}(hsp:(∃t m,sp=.val t m)∨(∃t,sp=.ref t)∨(∃a b,sp=.fn a b)∨∃t,sp=.hV t)(cN:ag.sub H gj)
  (h:e7 true w Z s ι ps vs us H) (hz:gT true w Z s ι w Z s ι H):e7 true w Z s ι (sp :: ps) (v :: vs) (u :: us) gj:=by
 have:=e7.move hz cN ps h;rcases hsp with⟨t,m,rfl⟩ | ⟨t,rfl⟩ | ⟨a,b,rfl⟩ | ⟨t,rfl⟩ <;> exact⟨v,vs,u,us,rfl,rfl,this⟩
theorem Lo:∀ {x:List ba} {us:List Value},a' w Z s ι x us→us.length=x.length
 | [],_,h=>by simp only [a'] at h;rw [h];rfl
 | _ :: _,_,h=>by simp only [a'] at h;obtain ⟨u,aX,rfl,_,h2⟩:=h;simp [Lo h2]
theorem rf{key:Nat} : ∀(ps:List bD) (vs:List ba) (us:List Value) (s:ar) (Z:ag) (bt:List (Nat×Nat)) (q:(bD.ins ps).D×ar×List (Nat×Nat)),gq key s ps vs bt=some q→Inv w0 F0 Z0 n s a w ι Z →
  a' w Z s ι vs us→(∀d,d∈bt→eI s d)→DI w0 F0 Z0 n s a w ι Z key bt ps vs us q
 | [],vs,us,s,Z,bt,q,hm,h,hv,hb=>by
  cases vs with
  | cons=>simp [gq] at hm
  | nil=>simp only [gq,Option.some.injEq] at hm;subst hm;simp only [a'] at hv;exact⟨ag.none,ag.none,Z,h,.refl,hv,trivial,.none,.none,fun _ _ h=>h.elim,⟨[],rfl⟩,hb,fun _ _ h=>h.elim (fun h=>h.elim) fun h=>h.elim⟩
 | .fn mz pN :: ps,vs,us,s,Z,bt,q,hm,h,hv,hb=>by
  cases vs with
  | nil=>simp [gq] at hm
  | cons v vs=>
   cases v <;> simp only [gq] at hm <;> try (simp at hm;done)
   rename_i g aeS Ld;cases aC:(Nat.beq g key&&Nat.beq aeS.length mz&&Nat.beq Ld.length pN)
   ·rw [aC] at hm;cases hm
   rw [aC] at hm;simp only [Bool.and_eq_true] at aC;obtain ⟨⟨aC,TN⟩,DJ⟩:=aC;have aC:=Nat.eq_of_beq_eq_true aC;have TN:=Nat.eq_of_beq_eq_true TN;have DJ:=Nat.eq_of_beq_eq_true DJ;subst aC;simp only [a',aT] at hv;obtain ⟨u,aX,rfl,⟨x,y,hx,aeT,Tm⟩,gh⟩:=hv;have atr:=Lo aeT;have att:=Lo Tm;obtain ⟨F,H,cH,i1,g1,bE,k1,f1,h1,a1,fk,d1,s1⟩:=rf ps vs aX s Z bt q hm h gh hb;exact⟨F,H,cH,i1,g1,⟨_,_,aX,by rw [hx],⟨by simp;omega,by simp;omega⟩,bE⟩,⟨_,_,_,_,rfl,rfl,k1⟩,f1,h1,a1,fk,d1,s1⟩
 | .val t m :: ps,vs,us,s,Z,bt,q,hm,h,hv,hb=>by
  cases vs with
  | nil=>simp [gq] at hm
  | cons v vs=>
   simp only [gq] at hm;cases hf:oJ t v
   ·rw [hf] at hm;simp at hm
   rw [hf] at hm;simp only [cond_true] at hm
   cases hcs:je t v with
   | none=>rw [hcs] at hm;simp at hm
   | some cs=>
    rw [hcs] at hm;simp only at hm;obtain ⟨r,hr,hm⟩:=bd hm
    cases eD:r.2.1 with
    | cons=>rw [eD] at hm;simp at hm
    | nil=>
     rw [eD] at hm;simp only at hm;obtain ⟨p,aw,hm⟩:=bd hm;obtain rfl:=aW hm;simp only [a'] at hv;obtain ⟨u,aX,rfl,hu,gh⟩:=hv;obtain ⟨us1,vs1,F1,cH,e1,i1,s1,c1,f1,bE,⟨nb,fk⟩,_,d1,g1⟩:=ad.lY t true m cs s bt r _ Z hr h (sI hcs hu) hb;rw [eD] at c1;have hvs1:vs1=[]:=by cases vs1 with | nil=>rfl | cons=>exact c1.elim
     subst hvs1;rw [List.append_nil] at e1;have hw:=DH hf hu;rw [e1] at hw;have nV:=rf ps vs aX r.2.2.1 cH r.2.2.2 p aw i1 (a'.move s1.eC gh) d1;refine xX s1.mN f1 .none (fun _ _ _ h=>h) (fun b o hf=>hf.elim (g1 b o) fun h=>h.elim) fk nV ?_ ?_
     ·intro bQ dU hZ hA hap;exact⟨us1,aX,F1,dU,by rw [← hw],ad.au.mono hZ _ _ (fun _ _ h=>h) bE,hA,hap,fun _ _ h=>.inl h,fun _ _ h=>.inr h⟩
     ·intro s2 bQ H2 aC hk ly;exact Ln (.inl ⟨_,_,rfl⟩) (fun _ _ h=>.inr h) hk (fN.refl.held H2)
 | .hV t :: ps,vs,us,s,Z,bt,q,hm,h,hv,hb=>by
  cases vs with
  | nil=>simp [gq] at hm
  | cons v vs=>
   simp only [gq] at hm;cases hf:oJ t v
   ·rw [hf] at hm;simp at hm
   rw [hf] at hm;simp only [cond_true] at hm
   cases hcs:je t v with
   | none=>rw [hcs] at hm;simp at hm
   | some cs=>
    rw [hcs] at hm;simp only at hm;obtain ⟨r,hr,hm⟩:=bd hm
    cases eD:r.2.1 with
    | cons=>rw [eD] at hm;simp at hm
    | nil=>
     rw [eD] at hm;simp only at hm;obtain ⟨p,aw,hm⟩:=bd hm;obtain rfl:=aW hm;simp only [a'] at hv;obtain ⟨u,aX,rfl,hu,gh⟩:=hv;obtain ⟨us1,vs1,F1,cH,e1,i1,s1,c1,f1,bE,⟨nb,fk⟩,_,d1,g1⟩:=ad.lY t false .R cs s bt r _ Z hr h (sI hcs hu) hb;rw [eD] at c1;have hvs1:vs1=[]:=by cases vs1 with | nil=>rfl | cons=>exact c1.elim
     subst hvs1;rw [List.append_nil] at e1;have hw:=DH hf hu;rw [e1] at hw;have nV:=rf ps vs aX r.2.2.1 cH r.2.2.2 p aw i1 (a'.move s1.eC gh) d1;refine xX s1.mN f1 .none (fun _ _ _ h=>h) (fun b o hf=>hf.elim (g1 b o) fun h=>h.elim) fk nV ?_ ?_
     ·intro bQ dU hZ hA hap;exact⟨us1,aX,F1,dU,by rw [← hw],ad.au.mono hZ _ _ (fun _ _ h=>h) bE,hA,hap,fun _ _ h=>.inl h,fun _ _ h=>.inr h⟩
     ·intro s2 bQ H2 aC hk ly;exact Ln (.inr (.inr (.inr ⟨_,rfl⟩))) (fun _ _ h=>.inr h) hk (fN.refl.held H2)
 | .hg t m :: ps,vs,us,s,Z,bt,q,hm,h,hv,hb=>by
  cases vs with
  | nil=>simp [gq] at hm
  | cons v vs=>
   simp only [gq] at hm;cases hf:(oJ t v&&bg.beq m t.own)
   ·rw [hf] at hm;simp at hm
   rw [hf] at hm;simp only [cond_true] at hm;simp only [Bool.and_eq_true] at hf;obtain ⟨hf,oZ⟩:=hf;have oZ:=bg.eq_of_beq _ _ oZ
   cases hcs:je t v with
   | none=>rw [hcs] at hm;simp at hm
   | some cs=>
    rw [hcs] at hm;simp only at hm;obtain ⟨r,hr,hm⟩:=bd hm
    cases eD:r.2.1 with
    | cons=>rw [eD] at hm;simp at hm
    | nil=>
     rw [eD] at hm;simp only at hm;obtain ⟨p,aw,hm⟩:=bd hm;obtain rfl:=aW hm;simp only [a'] at hv;obtain ⟨u,aX,rfl,hu,gh⟩:=hv;obtain ⟨c1,us1,vs1,F1,H1,e0,e1,i1,g1,c0,f1,Ae,a1,bE,k1,ea⟩:=ad.Ad t m cs s r _ hr h (sI hcs hu);rw [eD] at c0 e0;have hvs1:vs1=[]:=by cases vs1 with | nil=>rfl | cons=>exact c0.elim
     subst hvs1;rw [List.append_nil] at e1 e0;subst e0;have hw:=DH hf hu;have nV:=rf ps vs aX r.2.2 Z bt p aw i1 (a'.move g1.eC gh) (fun d af=>Ll g1 (hb d af));refine xX (nb:=[]) g1 f1 Ae a1 ea rfl nV ?_ ?_
     ·intro bQ dU hZ hA hap;exact⟨us1,aX,F1,dU,by rw [← e1,← hw],ad.au.mono (fun b o hz=>hZ b o (.inl hz)) _ _ (fun _ _ h=>h) bE,hA,hap,fun _ _ h=>.inl h,fun _ _ h=>.inr h⟩
     ·intro s2 bQ H2 aC hk ly;refine⟨v,vs,u,aX,cs,H1,H2,rfl,rfl,hcs,oZ,?_,hk,ly,fun _ _ h=>.inl h,fun _ _ h=>.inr h⟩;rw [e1];exact c6.move (aC.held H1) (fun _ _ h=>h) t m k1
 | .ref t :: ps,vs,us,s,Z,bt,q,hm,h,hv,hb=>by
  cases vs with
  | nil=>simp [gq] at hm
  | cons v vs=>
   simp only [a'] at hv;obtain ⟨u,aX,rfl,hu,gh⟩:=hv
   have go:∀(cs:List bb) (nG:List (Nat×Nat)) (b o:Nat) (ws:List Value),bL w Z s ι cs ws→cc w b o ws→ws.length=t.size→u=.pointer (some (at_ b o))→(∃nb,nG=nb++bt)→(∀d,d∈nG→eI s d) →
     (∀j,j<t.size→Z.or (dt ι nG) b (o+j)) →
     ((t.imp true .R cs s nG).bind fun r=>match r.2.1 with | []=>(gq key r.2.2.1 ps vs r.2.2.2).bind fun q=>some ((r.1,q.1),q.2) | _=>none)=some q→DI w0 F0 Z0 n s a w ι Z key bt (.ref t :: ps) (v :: vs) (u :: aX) q:=by
    intro cs nG b o ws pX cC uN jJ ⟨aeU,aeV⟩ aeW hin hm;obtain ⟨r,hr,hm⟩:=bd hm
    cases eD:r.2.1 with
    | cons=>rw [eD] at hm;simp at hm
    | nil=>
     rw [eD] at hm;simp only at hm;obtain ⟨p,aw,hm⟩:=bd hm;obtain rfl:=aW hm;obtain ⟨us1,vs1,F1,cH,e1,i1,s1,c1,f1,bE,⟨nb,fk⟩,_,d1,g1⟩:=ad.lY t true .R cs s nG r _ Z hr h pX aeW;rw [eD] at c1;have hvs1:vs1=[]:=by cases vs1 with | nil=>rfl | cons=>exact c1.elim
     subst hvs1;rw [List.append_nil] at e1;subst e1;have nV:=rf ps vs aX r.2.2.1 cH r.2.2.2 p aw i1 (a'.move s1.eC gh) d1;refine xX (nb:=nb++aeU) s1.mN .none .none (fun _ _ h=>h.elim) (fun b o hf=>hf.elim (fun h=>h.elim) fun h=>h.elim) (by rw [fk,aeV,List.append_assoc]) nV ?_ ?_
     ·intro bQ dU hZ hA hap;refine⟨b,o,ws,aX,by rw [jJ],cC,ad.au.mono hZ _ _ (fun _ _ h=>h) (sA bE),fun j hj=>hZ _ _ ?_,gF.mono (fun _ _ h=>h) ps (fun _ _ h=>.inr h) hA⟩;rcases hin j hj with hz | hz
      ·exact .inl (s1.dL _ _ hz)
      ·rw [fk];exact .inr (KE _ _ _ _ _ hz)
     ·intro s2 bQ H2 aC hk ly;exact Ln (.inr (.inl ⟨_,rfl⟩)) (fun _ _ h=>.inr h) hk (fN.refl.held H2)
   cases v <;> simp only [gq] at hm <;> try (simp at hm;done)
   ·rename_i p
    cases hr:mA s t.size p with
    | none=>rw [hr] at hm;simp at hm
    | some cs=>
     rw [hr] at hm;simp only [aT] at hu;obtain ⟨hk,A,hu,aw⟩:=hu;obtain ⟨b,o,ws,rfl,h1,h2,h3,h4,a7⟩:=TM h hr aw;refine go cs ((p.id,kM s p.id) :: bt) b o ws h1 h2 h3 hu ⟨[_],rfl⟩ ?_ (fun j hj=>.inr ⟨_,List.mem_cons_self,a7 j hj⟩) hm;intro d af;rcases List.mem_cons.1 af with rfl | af
     ·exact⟨hk,.inr (Nat.le_refl _)⟩
     ·exact hb d af
   ·rename_i dp cs off
    cases ht:takeN off t.size cs with
    | none=>rw [ht] at hm;simp at hm
    | some ds=>
     rw [ht] at hm;simp only at hm;cases dF:alive s dp
     ·rw [dF] at hm;simp at hm
     rw [dF] at hm;simp only [cond_true] at hm;obtain ⟨hle,rfl⟩:=pT ht;simp only [aT] at hu;obtain ⟨af,b,o,ws,hu,hx⟩:=hu;obtain ⟨h1,h2,h3⟩:=hx dF;have hl:=h1.len;refine go _ (dp++bt) b (o+off) ((ws.drop off).take t.size) ((h1.drop off).take _) (h2.part off _) (by simp;omega) hu ⟨dp,rfl⟩ ?_ ?_ hm
     ·intro d iu;rcases List.mem_append.1 iu with h | h
      ·exact af d h
      ·exact hb d h
     ·intro j hj;have:=h3 (off+j) (by omega);rw [← Nat.add_assoc] at this;rcases this with hz | ⟨d,af,hf⟩
      ·exact .inl hz
      ·exact .inr ⟨d,List.mem_append.2 (.inl af),hf⟩
 | .mut t m m' :: ps,vs,us,s,Z,bt,q,hm,h,hv,hb=>by
  cases vs with
  | nil=>simp [gq] at hm
  | cons v vs=>
   simp only [a'] at hv;obtain ⟨u,aX,rfl,hu,gh⟩:=hv;cases v <;> simp only [gq] at hm <;> try (simp at hm;done)
   rename_i p;simp only [aT] at hu;obtain ⟨hk,A,hu,aw⟩:=hu;obtain ⟨atu,aw⟩:=aw
   cases ho:s.o p.id with
   | none=>rw [ho] at hm;simp at hm
   | dead=>rw [ho] at hm;simp at hm
   | cm=>rw [ho] at hm;simp at hm
   | var ver old=>
    rw [ho] at hm aw;obtain ⟨he,a0,eP,hA⟩:=aw;rw [he] at hm;simp only at hm
    cases ht:takeN p.off t.size old with
    | none=>rw [ht] at hm;simp at hm
    | some cs=>
     rw [ht] at hm;simp only at hm;obtain ⟨hle,rfl⟩:=pT ht;obtain ⟨r,hr,hm⟩:=bd hm
     cases eD:r.2.1 with
     | cons=>rw [eD] at hm;simp at hm
     | nil=>
      rw [eD] at hm;simp only at hm;obtain ⟨Lp,hq,hm⟩:=bd hm;obtain rfl:=aW hm;have ck:(s.o p.id).live:=by rw [ho];trivial
      have aC:fN s ι Z (s.bV p.id (.cm (.var ver old))) Z:=by have:=Aa (s:=s) (ι := ι) (Z:=Z) ck;rw [ho] at this;exact this
      have fs:bK w0 F0 (s.bV p.id (.cm (.var ver old))) w ι Z (ι p.id).F:=by have:=h.Ab ck;rw [ho] at this;exact this
      have c7:=h.gf p.id;rw [ho] at c7;obtain ⟨⟨b,o,sp⟩,ws,dM,hsp,hc,cC,hF⟩:=c7;simp only at hsp;subst hsp;rw [eP] at dM;obtain rfl:=aW dM;have hl:=hc.len;have mO:(s.bV p.id (.cm (.var ver old))).o p.id=.cm (.var ver old):=cL _ _ _;have TO:=hc.move aC.eC;obtain ⟨us1,vs1,F1,cH,e1,i1,s1,c1,f1,bE,⟨nb,fk⟩,_,d1,g1⟩:=ad.lY t true m _ _ bt r _ Z hr (h.mN aC) ((TO.drop p.off).take t.size) (fun d af=>Ll aC (hb d af));rw [eD] at c1;have hvs1:vs1=[]:=by cases vs1 with | nil=>rfl | cons=>exact c1.elim
      subst hvs1;rw [List.append_nil] at e1;have nV:=rf ps vs aX r.2.2.1 cH r.2.2.2 Lp hq i1 (a'.move s1.eC (a'.move aC.eC gh)) d1;have zT:=aC.trans s1.mN
      have hrun:ag.sub (ag.run b (o+p.off) t.size) (ι p.id).F:=by
       rintro b' o' ⟨rfl,h1,h2⟩
       have:=(hF (o'-o) (by omega)).2;simp only at this;rwa [show o +(o'-o)=o' by omega] at this
      have TP:=fs.shrink s1;have TQ:ag.apart F1 (ι p.id).F:=by intro b o h1 h2;obtain ⟨id,hl,hf⟩:=g1 b o h1;exact fs.apart id hl b o h2 hf
      refine xX (F1:=F1.or (ag.run b (o+p.off) t.size)) (H1:=ag.diff (ι p.id).F (ag.run b (o+p.off) t.size)) zT (f1.or (TP.sub hrun)) (TP.sub fun _ _ h=>h.1) ?_ ?_ fk nV ?_ ?_
      ·rintro b o (hf | hf) hh
       ·exact TQ b o hf hh.1
       ·exact hh.2 hf
      ·rintro b' o' ((hf | hf) | hh)
       ·obtain ⟨id,hl,re⟩:=g1 b' o' hf;exact⟨id,(aC.live hl).1,re⟩
       ·exact⟨p.id,ck,hrun b' o' hf⟩
       ·exact⟨p.id,ck,hh.1⟩
      ·intro bQ dU hZ p1 hap;refine⟨b,o+p.off,us1,aX,F1,dU,by rw [hu,hA],?_,?_,ad.au.mono hZ _ _ (fun _ _ h=>h) bE,p1,hap,fun b o h1 h2=>TQ b o h1 (hrun b o h2),fun _ _ h=>.inl h,fun _ _ h=>.inr h⟩
       ·rw [← e1];exact cC.part p.off t.size
       ·intro j hj;have:=(hF (p.off+j) (by omega)).1;rwa [← Nat.add_assoc] at this
      ·intro s2 bQ H2 Lq hkk ly;refine⟨p,vs,u,aX,_,H2,rfl,rfl,.inl ?_,hkk,ly,fun _ _ h=>.inl h,fun _ _ h=>.inr h⟩;refine xT.move ((s1.mN.trans Lq).held (ag.diff (ι p.id).F (ag.run b (o+p.off) t.size))) (fun _ _ h=>h) ?_;refine⟨ver,old,b,o,ws,fun _=>by rw [mO];exact fun h=>h,fun eO b0=>by rw [mO] at b0;exact⟨(cB.cm.inj b0).symm,eP⟩,he,by rw [hu,hA],hle,TO,fun j hj=>(hF j hj).1,fun j hj hh=>⟨(hF j hj).2,?_⟩,fun j v hv hh=>cC j v hv⟩
       rintro ⟨_,h1,h2⟩
       omega
   | row gU em ver xs=>
    rw [ho] at hm aw;obtain ⟨i,he,hi,a0,eP,hA⟩:=aw;rw [he] at hm;simp only at hm;cases DK:(Nat.beq p.off 0&&bg.beq em m&&bg.beq m' em&&bg.beq m t.own)
    ·rw [DK] at hm;simp at hm
    rw [DK] at hm;simp only [Bool.and_eq_true] at DK;obtain ⟨⟨⟨hc1,hc2⟩,Af⟩,Lr⟩:=DK;have Lr:=bg.eq_of_beq _ _ Lr;have hc1:=Nat.eq_of_beq_eq_true hc1;have hc2:=bg.eq_of_beq _ _ hc2;have Af:=bg.eq_of_beq _ _ Af;subst hc2;subst Af;simp only [cond_true] at hm;obtain ⟨x,hx,hm⟩:=bd hm;obtain ⟨e1,rfl⟩:=C_ hx;subst e1;obtain ⟨Lp,hq,hm⟩:=bd hm;obtain rfl:=aW hm;have ck:(s.o p.id).live:=by rw [ho];trivial
    have aC:fN s ι Z (s.bV p.id (.cm (.row gU m' ver xs))) Z:=by have:=Aa (s:=s) (ι := ι) (Z:=Z) ck;rw [ho] at this;exact this
    have fs:bK w0 F0 (s.bV p.id (.cm (.row gU m' ver xs))) w ι Z (ι p.id).F:=by have:=h.Ab ck;rw [ho] at this;exact this
    have c7:=h.gf p.id;rw [ho] at c7;rcases c7 with⟨rfl,_⟩ | ⟨⟨b,o,sp⟩,dM,hrow⟩
    ·simp at hi
    have hsp:=hrow.spot;simp only at hsp;subst hsp;rw [eP] at dM;obtain rfl:=aW dM;obtain ⟨G,g1,g2,g3⟩:=hrow.row;obtain ⟨G1,jq,G2,ws,k1,k2,k3,bs,bp,df,dW,cV,fV,dd,dm⟩:=g1.DA i hi;have mO:(s.bV p.id (.cm (.row gU m' ver xs))).o p.id=.cm (.row gU m' ver xs):=cL _ _ _;have hcap:(i+1)*gU.size≤(ι p.id).cap*gU.size:=Nat.mul_le_mul_right _ (by have:=hrow.cap;omega);rw [Nat.add_one_mul] at hcap
    have hrun:ag.sub (ag.run b (o+i*gU.size) gU.size) (ι p.id).F:=by
     rintro b' o' ⟨rfl,h1,h2⟩
     have:=hrow.inF (o'-o) (by omega);simp only at this;rwa [show o +(o'-o)=o' by omega] at this
    have DL:∀ {X:ag},ag.sub X G→∀j,j<(ι p.id).cap*gU.size→¬X b (o+j):=fun hX j hj hh=>g2 j hj (hX _ _ hh)
    have sS:∀ {X:ag},ag.sub X G→ag.apart X (ag.run b (o+i*gU.size) gU.size):=by
     rintro X hX b' o' hx ⟨rfl,h1,h2⟩
     have:=DL hX (o'-o) (by omega);rw [show o +(o'-o)=o' by omega] at this;exact this hx
    have nV:=rf ps vs aX _ Z bt Lp hq (h.mN aC) (a'.move aC.eC gh) (fun d af=>Ll aC (hb d af));have TS:ag.sub (jq.or (ag.run b (o+i*gU.size) gU.size)) (ι p.id).F:=fun b o h=>h.elim (fun h=>g3 b o (dd b o h)) (hrun b o)
    have jJ:u=.pointer (some (at_ b (o+i*gU.size))):=by rw [hu,hA,hc1];rfl
    refine xX (nb:=[]) (F1:=jq.or (ag.run b (o+i*gU.size) gU.size)) (H1:=ag.diff (ι p.id).F (jq.or (ag.run b (o+i*gU.size) gU.size))) aC (fs.sub TS) (fs.sub fun _ _ h=>h.1) (fun b o h1 h2=>h2.2 h1) ?_ rfl nV ?_ ?_
    ·rintro b' o' (hf | hf)
     ·exact⟨p.id,ck,TS b' o' hf⟩
     ·exact⟨p.id,ck,hf.1⟩
    ·intro bQ dU hZ p1 hap;refine⟨b,o+i*gU.size,ws,aX,jq,dU,by rw [jJ],bs,fun j hj=>?_,?_,p1,hap,sS dd,fun _ _ h=>.inl h,fun _ _ h=>.inr h⟩
     ·have:=(hrow.wr (i*gU.size+j) (by omega)).1;rwa [← Nat.add_assoc] at this
     ·rw [c2 hi];exact ad.au.mono (fun b o hz=>hZ b o (.inl hz)) _ _ (fun _ _ h=>h) k2
    ·intro s2 bQ H2 Lq hkk ly;refine⟨p,vs,u,aX,_,H2,rfl,rfl,.inr ⟨rfl,Lr,?_⟩,hkk,ly,fun _ _ h=>.inl h,fun _ _ h=>.inr h⟩;refine xU.move (Lq.held (ag.diff (ι p.id).F (jq.or (ag.run b (o+i*gU.size) gU.size)))) (fun _ _ h=>h) ?_;refine⟨ver,xs,i,b,o,_,G1,G2,fun _=>by rw [mO];exact fun h=>h,fun eO b0=>by rw [mO] at b0;exact⟨(cB.cm.inj b0).symm,eP,rfl⟩,he,hi,jJ,hrow.cap,hrow.wr,fun j hj hh=>⟨hrow.inF j hj,?_⟩,k1,bp,dW,fun b o aC=>⟨g3 b o (fV b o aC),?_⟩,fun b o aC=>⟨g3 b o (dm b o aC),?_⟩,fun j hj=>⟨DL fV j hj,DL dm j hj⟩⟩
     ·rintro (aeX | ⟨_,h1,h2⟩)
      ·exact DL dd j hj aeX
      ·rw [Nat.add_one_mul] at hh;omega
     ·rintro (hh | hh)
      ·exact df b o aC hh
      ·exact sS fV b o aC hh
     ·rintro (hh | hh)
      ·exact cV b o hh aC
      ·exact sS dm b o aC hh
end
end Go.LM
namespace Go.LM
section
variable{P:Program}{Q:Exit→Act→World→Prop}
variable{g:Bool}{w0:World}{F0 Z0:ag}{n:cM}{s av:ar}{a b5:Act}{w w' ch:World}{ι bm eN:Nat→bH}{Z Z' bQ:ag}
theorem gT.trans{s2:ar}{H:ag}(h:gT g w Z s ι w' Z' av bm H)(k:gT g w' Z' av bm ch bQ s2 eN H):gT g w Z s ι ch bQ s2 eN H:=by
 refine⟨fun x v hx=>k.aF x v (h.aF x v hx),fun c v hc=>k.cell c v (h.cell c v hc),fun b o hz=>k.dL b o (h.dL b o hz),fun id o' hn ho=>?_,fun aC id hn=>k.nl aC id (h.nl aC id hn),h.same.trans k.same,h.DD.trans ?_,fun b o hw=>k.wr b o (h.wr b o hw),fun z b o hw=>k.Ac z b o (h.Ac z b o hw)⟩
 ·obtain ⟨h1,h2⟩:=k.cm id o' (fun aC=>h.nl aC id (hn aC)) ho;obtain ⟨h3,h4⟩:=h.cm id o' hn h1;exact⟨h3,h2.trans h4⟩
 ·exact k.DD.mono h.dL
theorem Inv.aeY(h:Inv w0 F0 Z0 n s a w ι Z){id:Nat}{o:cB}{i:bH}(hnl:¬(s.o id).live)(ht:jj (s.o id) (ι id) o i)
  (cS:eU w Z s ι w Z (s.bV id o) (bW ι id i)→iq w Z (s.bV id o) (bW ι id i) i o) (hF:bK w0 F0 s w ι Z i.F) :
  Inv w0 F0 Z0 n (s.bV id o) a w (bW ι id i) Z∧eU w Z s ι w Z (s.bV id o) (bW ι id i):=by
 have hm:eU w Z s ι w Z (s.bV id o) (bW ι id i):=by
  refine⟨fun j=>?_,fun _ _ h=>h,cf.refl _ _⟩;show jj (s.o j) (ι j) (bW s.o id o j) (bW ι id i j);by_cases hj:id=j
  ·subst hj;rw [cL,cL];exact ht
  ·rw [cW hj,cW hj];exact .stay _ _
 refine⟨?_,hm⟩;refine h.next hm (Ext.refl _ ag.none) (fun _ _ h=>h.elim) (fun _ _ h=>.inl h) ?_ ?_ (fun k=>(h.tmps k).move hm) h.size h.defers
 ·intro j hl hne;by_cases hj:id=j
  ·subst hj;rw [cL];refine⟨by show iq _ _ _ _ _ (bW s.o id o id);rw [cL];exact cS hm,hF.own,fun ln gr j2=>?_⟩;rw [cW j2];have d':(s.o ln).live:=by have:(bW s.o id _ ln).live:=gr;rwa [cW j2] at this
   exact hF.apart ln d'
  ·exact absurd ⟨cW hj,cW hj⟩ hne
 ·intro j hl;by_cases hj:id=j
  ·subst hj;rw [cL];exact hF.db
  ·rw [cW hj];have d':(s.o j).live:=by have:(bW s.o id _ j).live:=hl;rwa [cW hj] at this
   exact h.db j d'
def o0(w0:World)(F0 Z0:ag)(n:cM)(s:ar)(a:Act)(w:World)(ι : Nat→bH)(Z:ag)(av:ar)(eW:ag):Prop:=
 ∃ bm,Inv w0 F0 Z0 n av a w bm Z∧gT false w Z s ι w Z av bm (fun _ _=>True)∧(∀X,bK w0 F0 s w ι Z X→ag.apart X eW→bK w0 F0 av w bm Z X)∧∀id,(s.o id).live→av.o id=s.o id ∧ bm id = ι id
theorem uY(h:Inv w0 F0 Z0 n s a w ι Z)(eW:ag):o0 w0 F0 Z0 n s a w ι Z s eW:=
 ⟨ι,h,⟨fun _ _ h=>h,fun _ _ h=>h,fun _ _ h=>h,fun _ _ _ h=>⟨h,rfl⟩,fun h=>by simp at h,cf.refl _ _,cf.refl _ _,fun _ _ h=>h,fun _ _ _ h=>h⟩,fun _ h _=>h,fun _ _=>⟨rfl,rfl⟩⟩
theorem Ls(h:Inv w0 F0 Z0 n s a w ι Z){id:Nat}{o:cB}{i:bH}(hnl:¬(s.o id).live)(ho:∀o',o≠.cm o')(ht:jj (s.o id) (ι id) o i)
  (cS:eU w Z s ι w Z (s.bV id o) (bW ι id i)→iq w Z (s.bV id o) (bW ι id i) i o) (hF:bK w0 F0 s w ι Z i.F) :
  Inv w0 F0 Z0 n (s.bV id o) a w (bW ι id i) Z∧gT false w Z s ι w Z (s.bV id o) (bW ι id i) (fun _ _=>True)∧(∀X,bK w0 F0 s w ι Z X→ag.apart X i.F→bK w0 F0 (s.bV id o) w (bW ι id i) Z X) ∧
  ∀j,(s.o j).live→(s.bV id o).o j=s.o j∧bW ι id i j = ι j:=by
 obtain ⟨h1,hm⟩:=h.aeY hnl ht cS hF;refine⟨h1,⟨fun _ _=>aT.move hm,fun _ _=>cr.move hm,fun _ _ h=>h,fun j o' _ hj=>?_,fun h=>by simp at h,cf.refl _ _,cf.refl _ _,fun _ _ h=>h,fun _ _ _ h=>h⟩,fun X hX ha=>⟨hX.own,fun j hl=>?_,hX.db⟩,fun j hl=>?_⟩
 ·have hj':bW s.o id o j=.cm o':=hj;by_cases hne:id=j
  ·subst hne;rw [cL] at hj';exact absurd hj' (ho o')
  ·rw [cW hne] at hj';exact⟨hj',cW hne⟩
 ·by_cases hne:id=j
  ·subst hne;rw [cL];exact ha
  ·rw [cW hne];have d':(s.o j).live:=by have:(bW s.o id _ j).live:=hl;rwa [cW hne] at this
   exact hX.apart j d'
 ·have hne:id≠j:=fun e=>hnl (e ▸ hl)
  exact⟨cW hne,cW hne⟩
theorem Ag(h:Inv w0 F0 Z0 n s a w ι Z){id:Nat}{o:cB}{i:bH}(hnl:¬(s.o id).live)(ho:∀o',o≠.cm o')(ht:jj (s.o id) (ι id) o i)
  (cS:eU w Z s ι w Z (s.bV id o) (bW ι id i)→iq w Z (s.bV id o) (bW ι id i) i o) (hF:bK w0 F0 s w ι Z i.F):o0 w0 F0 Z0 n s a w ι Z (s.bV id o) i.F:=⟨_,Ls h hnl ho ht cS hF⟩
mutual
theorem c6.len:∀(t:ad) (m:bg) {cs:List bb} {vs:List Value} {H:ag},c6 g w Z s ι t m cs vs H→vs.length=t.size
 | .int _,_,_,_,_,hk=>by simp only [c6] at hk;rw [hk.2];rfl
 | .bool,_,_,_,_,hk=>by simp only [c6] at hk;rw [hk.2];rfl
 | .str,_,_,_,_,hk=>by simp only [c6] at hk;rw [hk.2];rfl
 | .raw,_,_,_,_,hk=>by simp only [c6] at hk;rw [hk.2];rfl
 | .sl t,.R,_,_,_,hk=>by simp only [c6] at hk
 | .sl t,.S _,_,_,_,hk=>by simp only [c6] at hk
 | .sl t,.O e,_,_,_,hk=>by simp only [c6] at hk;obtain ⟨c,v,_,rfl,_⟩:=hk;rfl
 | .st ak,m,_,_,_,hk=>by simp only [c6] at hk;simpa only [ad.size] using fW.len ak m.parts hk
theorem fW.len:∀(ak:aA) (m:c3) {cs:List bb} {vs:List Value} {H:ag},fW g w Z s ι ak m cs vs H→vs.length=ak.size
 | .nil,_,_,_,_,hk=>by simp only [fW] at hk;rw [hk.2];rfl
 | .cons t ak,m,_,_,_,hk=>by simp only [fW] at hk;obtain ⟨c1,fL,v1,v2,H1,H2,_,rfl,h1,h2,_⟩:=hk;rw [List.length_append,c6.len t m.af h1,fW.len ak m.dC h2];rfl
end
mutual
theorem ad.Ah:∀(t:ad) (m:bg) (x:t.D) (c1 rest:List bb) (s:ar) (ι : Nat→bH) (r:List bb×ar) (us:List Value) (F H:ag),t.back x (c1++rest) s=some r→Inv w0 F0 Z0 n s a w ι Z →
  c6 false w Z s ι t m c1 us H→t.au w Z m x us F→bK w0 F0 s w ι Z F→bK w0 F0 s w ι Z H→ag.apart F H→r.1=rest∧o0 w0 F0 Z0 n s a w ι Z r.2 (F.or H)
 | .int k,m,x,c1,rest,s,ι,r,us,F,H,hb,h,hk,hr,hF,cN,ha=>by
  simp only [c6] at hk;obtain ⟨hk,_⟩:=hk
  match c1,hk with
  | [c],_=>simp only [ad.back,List.cons_append,List.nil_append,Option.some.injEq] at hb;subst hb;exact⟨rfl,uY h _⟩
 | .bool,m,x,c1,rest,s,ι,r,us,F,H,hb,h,hk,hr,hF,cN,ha=>by
  simp only [c6] at hk;obtain ⟨hk,_⟩:=hk
  match c1,hk with
  | [c],_=>simp only [ad.back,List.cons_append,List.nil_append,Option.some.injEq] at hb;subst hb;exact⟨rfl,uY h _⟩
 | .str,m,x,c1,rest,s,ι,r,us,F,H,hb,h,hk,hr,hF,cN,ha=>by
  simp only [c6] at hk;obtain ⟨hk,_⟩:=hk
  match c1,hk with
  | [c],_=>simp only [ad.back,List.cons_append,List.nil_append,Option.some.injEq] at hb;subst hb;exact⟨rfl,uY h _⟩
 | .raw,m,x,c1,rest,s,ι,r,us,F,H,hb,h,hk,hr,hF,cN,ha=>by
  simp only [c6] at hk;obtain ⟨hk,_⟩:=hk
  match c1,hk with
  | [c],_=>simp only [ad.back,List.cons_append,List.nil_append,Option.some.injEq] at hb;subst hb;exact⟨rfl,uY h _⟩
 | .sl t,.R,x,c1,rest,s,ι,r,us,F,H,hb,h,hk,hr,hF,cN,ha=>by simp only [c6] at hk
 | .sl t,.S _,x,c1,rest,s,ι,r,us,F,H,hb,h,hk,hr,hF,cN,ha=>by simp only [c6] at hk
 | .sl t,.O e,x,c1,rest,s,ι,r,us,F,H,hb,h,hk,hr,hF,cN,ha=>by
  simp only [c6] at hk;obtain ⟨c,v,rfl,rfl,hk⟩:=hk
  cases c with
  | nil u=>simp only [ad.back,List.cons_append,List.nil_append,Option.some.injEq] at hb;subst hb;exact⟨rfl,uY h _⟩
  | af id sub=>
   cases sub with
   | some=>exact hk.elim
   | none=>
    simp only at hk;obtain ⟨ver,xs,A,k,sQ,_,hl,hv,hk⟩:=hk;simp only [ad.back,List.cons_append,List.nil_append] at hb
    cases ho:s.o id with
    | cm eO=>
     rw [ho] at hb;obtain ⟨rfl,hcap,hh⟩:=hl eO ho;simp only at hb;obtain ⟨y,aR,hb2⟩:=bd hb;obtain ⟨e1,uZ⟩:=hy aR;have uZ:x=y:=uZ.symm;subst uZ;obtain rfl:=aW hb2;refine⟨rfl,?_⟩;simp only [ad.au] at hr;obtain ⟨nK,k',lX,hr⟩:=hr;rw [hv] at lX;simp only [List.cons.injEq,Value.slice.injEq,and_true] at lX;obtain ⟨rfl,hlen,rfl⟩:=lX;have l7:=Ag h (id:=id) (o:=.row t e (ver+1) x) (i:=⟨(ι id).base,(ι id).cap,F.or H⟩) (by rw [ho];exact fun h=>h) (fun o'=>by simp) (by rw [ho];exact .sD _ _ _ _ _ _ _ _ _ (by omega) hlen.symm rfl rfl) ?_ (hF.or cN)
     ·exact l7
     intro hm;rcases hk with⟨rfl,p2⟩ | ⟨b,o,eP,Lt,aeQ,hA,hwr,h6⟩
     ·left;refine⟨List.eq_nil_of_length_eq_zero (by rw [← hlen];rfl),?_⟩;show(ι id).cap=0;rw [hcap,p2]
     ·right;refine⟨at_ b o,eP _ ho,?_⟩;rcases hr with⟨rfl,rfl⟩ | ⟨⟨b',o',sp⟩,p1,hr⟩
      ·refine⟨rfl,Nat.zero_le _,?_,?_,ag.none,trivial,fun _ _ h=>h,fun _ _ h=>h.elim⟩
       ·show ∀j,j<(ι id).cap*t.size→_
        rw [hcap];exact hwr
       ·show ∀j,j<(ι id).cap*t.size→_
        rw [hcap];exact fun j hj=>.inr (h6 j (by omega) hj)
      ·have hx0:=hr.cap;by_cases hk0:k=0
       ·subst hk0;have:x=[]:=List.eq_nil_of_length_eq_zero (by omega);subst this;refine⟨rfl,Nat.zero_le _,?_,?_,ag.none,trivial,fun _ _ h=>h,fun _ _ h=>h.elim⟩
        ·show ∀j,j<(ι id).cap*t.size→_
         rw [hcap];exact hwr
        ·show ∀j,j<(ι id).cap*t.size→_
         rw [hcap];exact fun j hj=>.inr (h6 j (by omega) hj)
       ·have hA:=hA.resolve_left hk0;rw [p1] at hA;simp only [at_,Option.some.injEq,Addr.mk.injEq] at hA;obtain ⟨rfl,rfl,rfl⟩:=hA;obtain ⟨G,g1,g2,g3⟩:=hr.row;refine⟨rfl,?_,?_,?_,G,g1,?_,fun b o aC=>.inl (g3 b o aC)⟩
        ·show x.length≤(ι id).cap;rw [hcap,← hlen];exact Lt
        ·show ∀j,j<(ι id).cap*t.size→_
         rw [hcap];exact hwr
        ·show ∀j,j<(ι id).cap*t.size→_
         rw [hcap];intro j hj;by_cases l8:j<k*t.size
         ·exact .inl (hr.inF j l8)
         ·exact .inr (h6 j (by omega) hj)
        ·show ∀j,j<(ι id).cap*t.size→_
         rw [hcap];intro j hj aC;by_cases l8:j<k*t.size
         ·exact g2 j l8 aC
         ·exact ha _ _ (g3 _ _ aC) (h6 j (by omega) hj)
    | _=>rw [ho] at hb;simp at hb
  | bM u dp cI xs=>
   simp only at hk;obtain ⟨p,i,T,ver,ys,b,o,sQ,rfl,ff,_,hl,lx,rfl,aeZ⟩:=hk;simp only [ad.back,List.cons_append,List.nil_append] at hb;obtain ⟨s1,l4,hb2⟩:=bd hb;obtain rfl:=aW hb2;simp only [xn,ff] at l4
   cases ho:s.o p.id with
   | cm eO=>
    rw [ho] at l4;obtain ⟨rfl,eP,hcap⟩:=hl eO ho;simp only at l4;obtain ⟨z,hz,l4⟩:=bd l4;obtain rfl:=aW l4;refine⟨rfl,?_⟩
    exact Ag h (id:=p.id) (o:=.row T T.own (ver+1) (ys.set i z)) (i:=⟨(ι p.id).base,(ι p.id).cap,F.or H⟩) (by rw [ho];exact fun h=>h) (fun o'=>by simp) (by rw [ho];exact .sD _ _ _ _ _ _ _ _ _ (by omega) (by simp) rfl rfl)
     (fun hm=>.inr ⟨at_ b o,eP,by
      have:=aeZ w Z F x z (cf.refl _ _) hr ha hz;rw [← hcap] at this
      exact this⟩) (hF.or cN)
   | _=>rw [ho] at l4;simp at l4
  | _=>exact hk.elim
 | .st ak,m,x,c1,rest,s,ι,r,us,F,H,hb,h,hk,hr,hF,cN,ha=>by simp only [ad.back] at hb;simp only [c6] at hk;simp only [ad.au] at hr;exact aA.Ah ak m.parts x c1 rest s ι r us F H hb h hk hr hF cN ha
theorem aA.Ah:∀(ak:aA) (m:c3) (x:ak.D) (c1 rest:List bb) (s:ar) (ι : Nat→bH) (r:List bb×ar) (us:List Value) (F H:ag),ak.back x (c1++rest) s=some r→Inv w0 F0 Z0 n s a w ι Z →
  fW false w Z s ι ak m c1 us H→ak.au w Z m x us F→bK w0 F0 s w ι Z F→bK w0 F0 s w ι Z H→ag.apart F H→r.1=rest∧o0 w0 F0 Z0 n s a w ι Z r.2 (F.or H)
 | .nil,m,x,c1,rest,s,ι,r,us,F,H,hb,h,hk,hr,hF,cN,ha=>by simp only [fW] at hk;obtain ⟨rfl,rfl⟩:=hk;simp only [aA.back,List.nil_append,Option.some.injEq] at hb;subst hb;exact⟨rfl,uY h _⟩
 | .cons t ak,m,x,c1,rest,s,ι,r,us,F,H,hb,h,hk,hr,hF,cN,ha=>by
  simp only [fW] at hk;obtain ⟨d1,d2,v1,v2,H1,H2,rfl,rfl,k1,k2,ly,js,h6⟩:=hk;simp only [aA.au] at hr;obtain ⟨us1,us2,G1,G2,he,bE,cp,p3,fl,hI⟩:=hr;have hlen:v1.length=us1.length:=by rw [c6.len t m.af k1,(ad.au.len t m.af bE).1]
  obtain ⟨rfl,rfl⟩:=List.append_inj he hlen;simp only [aA.back,List.append_assoc] at hb;obtain ⟨q,hq,hb⟩:=bd hb;obtain ⟨e1,dD,i1,sU,fX,Ai⟩:=ad.Ah t m.af x.1 d1 (d2++rest) s ι q v1 G1 H1 hq h k1 bE (hF.sub fl) (cN.sub js) (fun b o h1 h2=>ha b o (fl b o h1) (js b o h2));rw [e1] at hb
  obtain ⟨e2,eN,i2,nW,mQ,nX⟩:=aA.Ah ak m.dC x.2 d2 rest q.2 dD r v2 G2 H2 hb i1 (fW.move (sU.mono fun _ _ _=>trivial) (fun _ _ h=>h) ak m.dC k2) cp
   (fX G2 (hF.sub hI) (by rintro b o h1 (h2 | h2);exact p3 b o h2 h1;exact ha b o (hI b o h1) (js b o h2)))
   (fX H2 (cN.sub h6) (by rintro b o h1 (h2 | h2);exact ha b o (fl b o h2) (h6 b o h1);exact ly b o h2 h1))
   (fun b o h1 h2=>ha b o (hI b o h1) (h6 b o h2))
  refine⟨e2,eN,i2,sU.trans nW,fun X hX fY=>mQ X (fX X hX ?_) ?_,fun id hl=>?_⟩
  ·rintro b o h1 (h2 | h2)
   ·exact fY b o h1 (.inl (fl b o h2))
   ·exact fY b o h1 (.inr (js b o h2))
  ·rintro b o h1 (h2 | h2)
   ·exact fY b o h1 (.inl (hI b o h2))
   ·exact fY b o h1 (.inr (h6 b o h2))
  ·obtain ⟨er,fc⟩:=Ai id hl;obtain ⟨gu,fU⟩:=nX id (er ▸ hl);exact⟨gu.trans er,fU.trans fc⟩
end
end
end Go.LM
namespace Go.LM
section
variable{P:Program}{Q:Exit→Act→World→Prop}
variable{g:Bool}{w0:World}{F0 Z0:ag}{n:cM}{s av:ar}{a b5:Act}{w w' ch:World}{ι bm eN:Nat→bH}{Z Z' bQ:ag}
theorem lZ.held(h:lZ s ι av bm)(H:ag):gT false w Z s ι w Z av bm H:=by
 have hm:eU w Z s ι w Z av bm:=h.eC;refine⟨fun _ _=>aT.move hm,fun _ _=>cr.move hm,fun _ _ h=>h,fun id o' _ ho=>?_,fun h=>by simp at h,cf.refl _ _,cf.refl _ _,fun _ _ h=>h,fun _ _ _ h=>h⟩;by_cases hn:s.o id=.none
 ·exact absurd ho (h.nl id o' hn)
 ·obtain ⟨h1,h2⟩:=h.o id hn;exact⟨by rw [← h1,ho],h2⟩
theorem Aj{dp:List (Nat×Nat)}(hl:∀d,d∈dp→(s.o d.1).live)(hk:∀id,(s.o id).live→av.o id=s.o id ∧ bm id = ι id):(∀d,d∈dp→(av.o d.1).live)∧dt bm dp=dt ι dp:=by
 refine⟨fun d af=>by rw [(hk d.1 (hl d af)).1];exact hl d af,?_⟩
 funext b o
 apply propext;constructor
 ·rintro ⟨d,af,hf⟩;exact⟨d,af,by rw [← (hk d.1 (hl d af)).2];exact hf⟩
 ·rintro ⟨d,af,hf⟩;exact⟨d,af,by rw [(hk d.1 (hl d af)).2];exact hf⟩
theorem lZ.keeps(h:lZ s ι av bm):∀id,(s.o id).live→av.o id=s.o id ∧ bm id = ι id:=fun id hl=>h.o id (fun e=>by rw [e] at hl;exact hl)
theorem bK.dt{F:ag}{dp:List (Nat×Nat)}(hF:bK w0 F0 s w ι Z F)(hl:∀d,d∈dp→(s.o d.1).live):ag.apart F (LM.dt ι dp):=by
 rintro b o h ⟨d,af,hf⟩
 exact hF.apart d.1 (hl d af) b o h hf
theorem o0.trans{s1 s2:ar}{dD:Nat→bH}{TT TU eW:ag}(h1:Inv w0 F0 Z0 n s1 a w dD Z)(hh:gT false w Z s ι w Z s1 dD (fun _ _=>True))(hf:∀X,bK w0 F0 s w ι Z X→ag.apart X TT→bK w0 F0 s1 w dD Z X)
  (hl:∀id,(s.o id).live→s1.o id=s.o id ∧ dD id = ι id) (k:o0 w0 F0 Z0 n s1 a w dD Z s2 TU) (gV:ag.sub (TT.or TU) eW):o0 w0 F0 Z0 n s a w ι Z s2 eW:=by
 obtain ⟨eN,i2,nW,mQ,nX⟩:=k;refine⟨eN,i2,hh.trans nW,fun X hX fY=>mQ X (hf X hX fun b o x y=>fY b o x (gV b o (.inl y))) fun b o x y=>fY b o x (gV b o (.inr y)),fun id cj=>?_⟩;obtain ⟨er,fc⟩:=hl id cj;obtain ⟨gu,fU⟩:=nX id (er ▸ cj);exact⟨gu.trans er,fU.trans fc⟩
theorem iI.mono(hZ:ag.sub Z Z'):∀(ps:List bD) {us:List Value} {x:(bD.ef ps).D} {F F':ag},ag.sub F F'→iI w Z ps us x F→iI w Z' ps us x F'
 | [],_,_,_,_,_,_=>trivial
 | .mut t m m' :: ps,_,_,_,_,hF,⟨b,o,vs,aX,G,H,h1,h2,h3,h4,a7,bh,bJ,dg⟩=>⟨b,o,vs,aX,G,H,h1,h2,ad.au.mono hZ _ _ (fun _ _ h=>h) h3,iI.mono hZ ps (fun _ _ h=>h) h4,a7,bh,fun b o h=>hF b o (bJ b o h),fun b o h=>hF b o (dg b o h)⟩
 | .hg t m :: ps,_,_,_,_,hF,⟨vs,aX,G,H,h1,h2,h3,h4,a7,bh⟩=>⟨vs,aX,G,H,h1,ad.au.mono hZ _ _ (fun _ _ h=>h) h2,iI.mono hZ ps (fun _ _ h=>h) h3,h4,fun b o h=>hF b o (a7 b o h),fun b o h=>hF b o (bh b o h)⟩
 | .val _ _ :: ps,_,_,_,_,hF,⟨u,aX,h1,h2⟩=>⟨u,aX,h1,iI.mono hZ ps hF h2⟩
 | .hV _ :: ps,_,_,_,_,hF,⟨u,aX,h1,h2⟩=>⟨u,aX,h1,iI.mono hZ ps hF h2⟩
 | .ref _ :: ps,_,_,_,_,hF,⟨u,aX,h1,h2⟩=>⟨u,aX,h1,iI.mono hZ ps hF h2⟩
 | .fn _ _ :: ps,_,_,_,_,hF,⟨u,aX,h1,h2⟩=>⟨u,aX,h1,iI.mono hZ ps hF h2⟩
theorem sV{dp:List (Nat×Nat)} : ∀(ps:List bD) (vs:List ba) (us:List Value) (x:(bD.ef ps).D) (s:ar) (ι : Nat→bH) (j:Nat) (q:ar×Nat) (F H:ag),mB dp ps vs x s j=some q→Inv w0 F0 Z0 n s a w ι Z →
  e7 false w Z s ι ps vs us H→iI w (Z.or (dt ι dp)) ps us x F→bK w0 F0 s w ι Z F→bK w0 F0 s w ι Z H→ag.apart F H→(∀d,d∈dp→(s.o d.1).live∧eI s d)→o0 w0 F0 Z0 n s a w ι Z q.1 (F.or H)
 | [],vs,us,x,s,ι,j,q,F,H,hu,h,hk,hr,hF,cN,ha,af=>by simp only [mB,Option.some.injEq] at hu;subst hu;exact uY h _
 | .val t m :: ps,vs,us,x,s,ι,j,q,F,H,hu,h,hk,hr,hF,cN,ha,af=>by obtain ⟨v,bI,u,aX,rfl,rfl,hk⟩:=hk;obtain ⟨jr,us2,he,hr⟩:=hr;simp only [List.cons.injEq] at he;obtain ⟨rfl,rfl⟩:=he;exact sV ps bI aX x s ι j q F H (by simpa only [mB] using hu) h hk hr hF cN ha af
 | .hV t :: ps,vs,us,x,s,ι,j,q,F,H,hu,h,hk,hr,hF,cN,ha,af=>by obtain ⟨v,bI,u,aX,rfl,rfl,hk⟩:=hk;obtain ⟨jr,us2,he,hr⟩:=hr;simp only [List.cons.injEq] at he;obtain ⟨rfl,rfl⟩:=he;exact sV ps bI aX x s ι j q F H (by simpa only [mB] using hu) h hk hr hF cN ha af
 | .ref t :: ps,vs,us,x,s,ι,j,q,F,H,hu,h,hk,hr,hF,cN,ha,af=>by obtain ⟨v,bI,u,aX,rfl,rfl,hk⟩:=hk;obtain ⟨jr,us2,he,hr⟩:=hr;simp only [List.cons.injEq] at he;obtain ⟨rfl,rfl⟩:=he;exact sV ps bI aX x s ι j q F H (by simpa only [mB] using hu) h hk hr hF cN ha af
 | .fn _ _ :: ps,vs,us,x,s,ι,j,q,F,H,hu,h,hk,hr,hF,cN,ha,af=>by obtain ⟨v,bI,u,aX,rfl,rfl,hk⟩:=hk;obtain ⟨jr,us2,he,hr⟩:=hr;simp only [List.cons.injEq] at he;obtain ⟨rfl,rfl⟩:=he;exact sV ps bI aX x s ι j q F H (by simpa only [mB] using hu) h hk hr hF cN ha af
 | .hg t m :: ps,vs,us,x,s,ι,j,q,F,H,hu,h,hk,hr,hF,cN,ha,af=>by
  obtain ⟨v,bI,u,aX,cs,H1,H2,rfl,rfl,hcs,rfl,k1,k2,ly,js,h6⟩:=hk;obtain ⟨ws,us2,G1,G2,he,bE,cp,p3,fl,hI⟩:=hr;simp only [List.cons.injEq] at he;obtain ⟨rfl,rfl⟩:=he;simp only [mB,hcs] at hu;obtain ⟨r,hb,hu⟩:=bd hu;have hl:=ad.au.len t _ bE;rw [KT hl.1 hl.2] at k1;have Lu:t.au w Z t.own x.1 ws G1:=uJ t bE;obtain ⟨e1,dD,i1,sU,fX,Ai⟩:=ad.Ah t t.own x.1 cs [] s ι r ws G1 H1 (by rw [List.append_nil];exact hb) h k1 Lu (hF.sub fl) (cN.sub js) (fun b o x y=>ha b o (fl b o x) (js b o y));have hdl:=Aj (dp:=dp) (fun d hm=>(af d hm).1) Ai
  have Ak:=sV ps bI aX x.2 r.2 dD j q G2 H2 hu i1 (e7.move (sU.mono fun _ _ _=>trivial) (fun _ _ h=>h) ps k2) (by rw [hdl.2];exact cp)
   (fX G2 (hF.sub hI) (by rintro b o x (y | y);exact p3 b o y x;exact ha b o (hI b o x) (js b o y)))
   (fX H2 (cN.sub h6) (by rintro b o x (y | y);exact ha b o (fl b o y) (h6 b o x);exact ly b o y x))
   (fun b o x y=>ha b o (hI b o x) (h6 b o y)) (fun d hm=>⟨hdl.1 d hm,by have:=(af d hm).2;unfold eI known kM at *;rw [(Ai d.1 (af d hm).1).1];exact this⟩)
  refine o0.trans i1 sU fX Ai Ak ?_
  rintro b o ((y | y) | (y | y))
  ·exact .inl (fl b o y)
  ·exact .inr (js b o y)
  ·exact .inl (hI b o y)
  ·exact .inr (h6 b o y)
 | .mut t m m' :: ps,vs,us,x,s,ι,j,q,F,H,hu,h,hk,hr,hF,cN,ha,af=>by
  obtain ⟨p,bI,u,aX,H1,H2,rfl,rfl,k1,k2,ly,js,h6⟩:=hk;obtain ⟨b,o,ws,us2,G,gj,he,cC,bE,cp,p3,sS,fl,hI⟩:=hr;simp only [List.cons.injEq] at he;obtain ⟨rfl,rfl⟩:=he;have hGF:ag.sub G F:=fun b o x=>fl b o (.inl x)
  have ae0:ag.sub (ag.run b o t.size) F:=fun b o x=>fl b o (.inr x)
  have uN:=ad.au.len t _ bE;simp only [mB] at hu
  cases ho:s.o p.id with
  | cm eO=>
   rw [ho] at hu
   cases ff:p.fF with
   | none=>
    rw [ff] at hu
    cases eO with
    | var ver old=>
     simp only at hu;obtain ⟨r,hx,hu⟩:=bd hu;rcases k1 with k1 | ⟨_,_,_,_,_,_,_,_,_,_,_,_,hk2,_⟩
     case inr=>rw [ff] at hk2;simp at hk2
     obtain ⟨nM,atv,b',o',DM,_,hl,_,jJ,hle,TV,hwr,DN,hcell⟩:=k1;obtain ⟨b0,eP⟩:=hl _ ho;simp only [cB.var.injEq] at b0;obtain ⟨rfl,rfl⟩:=b0;simp only [Value.pointer.injEq,Option.some.injEq,at_,Addr.mk.injEq,and_true] at jJ;obtain ⟨rfl,rfl⟩:=jJ;obtain ⟨dD,i1,jt,c1,fX⟩:=ad.oP t m' dp x.1 s ι j r ws G hx h bE (hF.sub hGF) ((hF.sub hGF).dt fun d hm=>(af d hm).1) (fun d hm=>(af d hm).2);obtain ⟨hs1,ae1⟩:=jt.o p.id (by rw [ho];simp);have hcl:=c1.len;have hol:=TV.len;have atw:=uN.1;have ae2:=jt.keeps;have Lv:bK w0 F0 r.2.1 w dD Z ((ag.run b (o'+p.off) t.size).or H1):=(fX _ (hF.sub ae0) (fun b o x y=>sS b o y x)).or (fX _ (cN.sub js) (fun b o x y=>ha b o (hGF b o y) (js b o x)))
     have l7:=Ag i1 (id:=p.id) (o:=.var (ver+1) (old.take p.off++r.1++old.drop (p.off+t.size))) (i:=⟨(dD p.id).base,(dD p.id).cap,(ag.run b (o'+p.off) t.size).or H1⟩)
      (by rw [hs1,ho];exact fun h=>h) (fun o'=>by simp) (by rw [hs1,ho];exact .zS _ _ _ _ _ _ (by omega) rfl) (fun hm=>by
       refine⟨at_ b o',dr DM p.off ws,by rw [ae1];exact eP,rfl,?_,?_,?_⟩
       ·have ae3:bL w Z r.2.1 dD old DM:=TV.move jt.eC;have:=(bL.dr ae3 c1 p.off).move hm;rwa [show p.off+r.1.length=p.off+t.size by omega] at this
       ·intro i v hv;unfold dr at hv;show w.cell? (at_ b (o'+i))=some v;by_cases h1:i<p.off
        ·rw [List.append_assoc,List.getElem?_append_left (by simp;omega),List.getElem?_take,if_pos h1] at hv;exact hcell i v hv (.inl h1)
        ·by_cases h2:i<p.off+t.size
         ·rw [List.getElem?_append_left (by simp;omega),List.getElem?_append_right (by simp;omega)] at hv;simp only [List.length_take] at hv;have:=cC _ v hv;rwa [show o'+p.off +(i-min p.off DM.length)=o'+i by omega] at this
         ·rw [List.getElem?_append_right (by simp;omega)] at hv;simp only [List.length_append,List.length_take,List.getElem?_drop] at hv;rw [show p.off+ws.length +(i-(min p.off DM.length+ws.length))=i by omega] at hv;exact hcell i v hv (.inr (by omega))
       ·intro i hi;have dk:i<old.length:=by simp only [List.length_append,List.length_take,List.length_drop] at hi;omega
        refine⟨hwr i dk,?_⟩;show(ag.run b (o'+p.off) t.size).or H1 b (o'+i);by_cases hh:i<p.off∨p.off+t.size≤i
        ·exact .inr (DN i dk hh)
        ·exact .inl ⟨rfl,by omega,by omega⟩) Lv
     obtain ⟨eN,i2,nW,mQ,nX⟩:=l7;have Lw:∀id,(s.o id).live→(r.2.1.bV p.id (.var (ver+1) (old.take p.off++r.1++old.drop (p.off+t.size)))).o id=s.o id ∧ eN id = ι id:=fun id cj=>by obtain ⟨er,fc⟩:=ae2 id cj;obtain ⟨gu,fU⟩:=nX id (er ▸ cj);exact⟨gu.trans er,fU.trans fc⟩
     have xY:gT false w Z s ι w Z (r.2.1.bV p.id (.var (ver+1) (old.take p.off++r.1++old.drop (p.off+t.size)))) eN (fun _ _=>True):=(jt.held _).trans nW
     have ko:∀X,bK w0 F0 s w ι Z X→ag.apart X ((G.or (ag.run b (o'+p.off) t.size)).or H1)→bK w0 F0 (r.2.1.bV p.id (.var (ver+1) (old.take p.off++r.1++old.drop (p.off+t.size)))) w eN Z X:=fun X hX fY=>by
      refine mQ X (fX X hX fun b o x y=>fY b o x (.inl (.inl y))) ?_
      rintro b o x (y | y)
      ·exact fY b o x (.inl (.inr y))
      ·exact fY b o x (.inr y)
     have hdl:=Aj (dp:=dp) (fun d hm=>(af d hm).1) Lw
     have Ak:=sV ps bI aX x.2 _ eN r.2.2 q gj H2 hu i2 (e7.move (xY.mono fun _ _ _=>trivial) (fun _ _ h=>h) ps k2) (by rw [hdl.2];exact cp)
      (ko gj (hF.sub hI) (by rintro b o x (y | y);exact p3 b o y x;exact ha b o (hI b o x) (js b o y)))
      (ko H2 (cN.sub h6) (by rintro b o x (y | y);exact ha b o (fl b o y) (h6 b o x);exact ly b o y x))
      (fun b o x y=>ha b o (hI b o x) (h6 b o y)) (fun d hm=>⟨hdl.1 d hm,by have:=(af d hm).2;unfold eI known kM at *;rw [(Lw d.1 (af d hm).1).1];exact this⟩)
     refine o0.trans i2 xY ko Lw Ak ?_
     rintro b o ((y | y) | (y | y))
     ·exact .inl (fl b o y)
     ·exact .inr (js b o y)
     ·exact .inl (hI b o y)
     ·exact .inr (h6 b o y)
    | _=>simp at hu
   | some i=>
    rw [ff] at hu
    cases eO with
    | row gU em ver xs=>
     simp only at hu;obtain ⟨y,aR,hu⟩:=bd hu;obtain ⟨e1,uZ⟩:=C_ aR;subst e1;have uZ:x.1=y:=uZ.symm;subst uZ;rcases k1 with⟨_,_,_,_,_,_,_,hk2,_⟩ | ⟨mI,oZ,k1⟩
     ·rw [ff] at hk2;simp at hk2
     obtain ⟨nM,gg,ei,b',o',c,G1,G2,_,hl,TW,hi,jJ,Lt,hwr,DN,ae4,ae5,ae6,TX,TY,TZ⟩:=k1;obtain ⟨b0,eP,hcap⟩:=hl _ ho;simp only [cB.row.injEq,heq_eq_eq,true_and] at b0;obtain ⟨rfl,rfl,rfl⟩:=b0;rw [ff] at TW;obtain rfl:=aW TW;simp only [Value.pointer.injEq,Option.some.injEq,at_,Addr.mk.injEq,and_true] at jJ;obtain ⟨rfl,rfl⟩:=jJ;subst mI;have Lu:t.au w Z m' x.1 ws G:=by rw [oZ] at bE ⊢;exact uJ t bE
     have hcs:(i+1)*t.size≤c*t.size:=Nat.mul_le_mul_right _ (by omega);rw [Nat.add_one_mul] at hcs;have Lv:bK w0 F0 s w ι Z ((G.or (ag.run b (o'+i*t.size) t.size)).or H1):=(hF.sub fl).or (cN.sub js)
     have l7:=Ag h (id:=p.id) (o:=.row t m' (ver+1) (xs.set i x.1)) (i:=⟨(ι p.id).base,(ι p.id).cap,(G.or (ag.run b (o'+i*t.size) t.size)).or H1⟩)
      (by rw [ho];exact fun h=>h) (fun o'=>by simp) (by rw [ho];exact .sD _ _ _ _ _ _ _ _ _ (by omega) (by simp) rfl rfl) (fun hm=>by
       right;refine⟨at_ b o',eP,rfl,?_,?_,?_,?_⟩
       ·show(xs.set i x.1).length≤(ι p.id).cap;rw [List.length_set,hcap];exact Lt
       ·show ∀j,j<(ι p.id).cap*t.size→_
        rw [hcap];exact hwr
       ·show ∀j,j<(ι p.id).cap*t.size→_
        rw [hcap];intro j hj;show((G.or (ag.run b (o'+i*t.size) t.size)).or H1) b (o'+j);by_cases hh:j<i*t.size∨(i+1)*t.size≤j
        ·exact .inr (DN j hj hh)
        ·rw [Nat.add_one_mul] at hh;exact .inl (.inr ⟨rfl,by omega,by omega⟩)
       ·refine⟨G1.or (G.or G2),Row.DB i hi ae4 Lu uN.1 cC ae5 (fun b o x y=>ha b o (hGF b o y) (js b o (TX b o x))) ae6 (fun b o x y=>ha b o (hGF b o x) (js b o (TY b o y))),?_,?_⟩
        ·show ∀j,j<(ι p.id).cap*t.size→_
         rw [hcap]
         rintro j hj (aC | aC | aC)
         ·exact(TZ j hj).1 aC
         ·by_cases hh:j<i*t.size∨(i+1)*t.size≤j
          ·exact ha _ _ (hGF _ _ aC) (js _ _ (DN j hj hh))
          ·rw [Nat.add_one_mul] at hh;exact sS _ _ aC ⟨rfl,by show o'+i*t.size≤o'+j;omega,by show o'+j<_;omega⟩
         ·exact(TZ j hj).2 aC
        ·rintro b o (aC | aC | aC)
         ·exact .inr (TX b o aC)
         ·exact .inl (.inl aC)
         ·exact .inr (TY b o aC)) Lv
     obtain ⟨eN,i2,nW,mQ,nX⟩:=l7;have hdl:=Aj (dp:=dp) (fun d hm=>(af d hm).1) nX
     have Ak:=sV ps bI aX x.2 _ eN j q gj H2 hu i2 (e7.move (nW.mono fun _ _ _=>trivial) (fun _ _ h=>h) ps k2) (by rw [hdl.2];exact cp)
      (mQ gj (hF.sub hI) (by rintro b o x (y | y);exact p3 b o y x;exact ha b o (hI b o x) (js b o y)))
      (mQ H2 (cN.sub h6) (by rintro b o x (y | y);exact ha b o (fl b o y) (h6 b o x);exact ly b o y x))
      (fun b o x y=>ha b o (hI b o x) (h6 b o y)) (fun d hm=>⟨hdl.1 d hm,by have:=(af d hm).2;unfold eI known kM at *;rw [(nX d.1 (af d hm).1).1];exact this⟩)
     refine o0.trans i2 nW mQ nX Ak ?_
     rintro b o ((y | y) | (y | y))
     ·exact .inl (fl b o y)
     ·exact .inr (js b o y)
     ·exact .inl (hI b o y)
     ·exact .inr (h6 b o y)
    | _=>simp at hu
  | _=>rw [ho] at hu;simp at hu
end
end Go.LM
namespace Go.LM
section
variable{P:Program}{Q:Exit→Act→World→Prop}
variable{g:Bool}{w0:World}{F0 Z0:ag}{n:cM}{s av:ar}{a b5:Act}{w w' ch:World}{ι bm eN:Nat→bH}{Z Z' bQ:ag}
variable{E:Env}{o:Oper}{bB : Type}{K:ar→Option bB}{r : bB}{id:Nat}
theorem DO:∀ {dp:List (Nat×Nat)},alive s dp=true→∀d,d∈dp→(s.o d.1).live
 | [],_,d,af=>by simp at af
 | (i,v) :: dp,h,d,af=>by
  unfold alive at h;rcases List.mem_cons.1 af with rfl | af
  ·cases ho:s.o i with
   | row=>trivial
   | var=>trivial
   | _=>rw [ho] at h;simp at h
  ·cases ho:s.o i with
   | row t em ver xs=>
    rw [ho] at h;simp only at h;cases hb:Nat.beq ver v
    ·rw [hb] at h;simp at h
    ·rw [hb] at h;exact DO h d af
   | var ver cs=>
    rw [ho] at h;simp only at h;cases hb:Nat.beq ver v
    ·rw [hb] at h;simp at h
    ·rw [hb] at h;exact DO h d af
   | _=>rw [ho] at h;simp at h
theorem a'.append:∀ {x y:List ba} {us vs:List Value},a' w Z s ι x us→a' w Z s ι y vs→a' w Z s ι (x++y) (us++vs)
 | [],_,_,_,h,k=>by simp only [a'] at h;subst h;exact k
 | _ :: _,_,_,_,h,k=>by simp only [a'] at h;obtain ⟨u,aX,rfl,h1,h2⟩:=h;simp only [List.cons_append,a'];exact⟨u,_,rfl,h1,h2.append k⟩
theorem Lx:∀ {x:List ba} {us:List Value},oK x=true→a' w Z s ι x us→a' w Z s ι (lU x) (gp us)
 | [],_,_,h=>by simp only [a'] at h;subst h;simp only [lU,gp,a']
 | v :: l,_,hn,h=>by
  simp only [a'] at h;obtain ⟨u,aX,rfl,h1,h2⟩:=h;have hl:oK l=true:=by cases v <;> simp_all [oK]
  have ih:=Lx hl h2
  cases v with
  | fn f a b=>simp only [aT] at h1;obtain ⟨xs,ys,rfl,c0,d_⟩:=h1;simp only [lU,gp];exact(c0.append d_).append ih
  | aB=>simp [oK] at hn
  | aV c=>
   simp only [lU]
   have:∀f a b,u≠.func f a b:=by
    rintro f a b rfl
    simp only [aT] at h1
    cases c with
    | bM=>obtain ⟨_,⟨_,_,_,h⟩,_⟩:=h1;simp at h
    | af=>obtain ⟨_,_,_,_,h,_⟩:=h1;simp at h
    | str=>obtain ⟨_,h,_⟩:=h1;simp at h
    | raw=>obtain ⟨h,_,_,_,h2⟩:=h1;rw [h2] at h;simp at h
    | _=>simp [cr] at h1
   cases u <;> first | exact ih | exact absurd rfl (this _ _ _)
  | iK cs=>simp only [aT] at h1;obtain ⟨_,rfl,_⟩:=h1;exact ih
  | ptr p=>simp only [aT] at h1;obtain ⟨_,_,rfl,_⟩:=h1;exact ih
  | du=>simp only [aT] at h1;obtain ⟨_,_,_,_,rfl,_⟩:=h1;exact ih
  | gone=>simp [oK] at hn
  | sr=>simp [oK] at hn
  | kg=>simp only [aT] at h1;subst h1;exact ih
  | lh=>simp only [aT] at h1;subst h1;exact ih
  | may=>simp only [aT] at h1;rcases h1 with⟨_,rfl⟩ | ⟨_,_,_,_,_,rfl,_⟩ <;> exact ih
  | opt=>simp only [aT] at h1;rcases h1.2 with⟨_,rfl⟩ | ⟨_,_,rfl,_⟩ <;> exact ih
  | pM=>simp only [aT] at h1;obtain ⟨_,rfl,_⟩:=h1;exact ih
mutual
theorem c6.mR:∀(t:ad) (m:bg) {cs:List bb} {vs:List Value} {H:ag},c6 true w Z s ι t m cs vs H→c6 false w Z s ι t m cs vs H
 | .int _,_,_,_,_,hk=>by simp only [c6] at hk ⊢;exact hk
 | .bool,_,_,_,_,hk=>by simp only [c6] at hk ⊢;exact hk
 | .str,_,_,_,_,hk=>by simp only [c6] at hk ⊢;exact hk
 | .raw,_,_,_,_,hk=>by simp only [c6] at hk ⊢;exact hk
 | .sl t,.R,_,_,_,hk=>by simp only [c6] at hk
 | .sl t,.S _,_,_,_,hk=>by simp only [c6] at hk
 | .sl t,.O e,_,_,_,hk=>by
  simp only [c6] at hk ⊢;obtain ⟨c,v,h1,h2,hk⟩:=hk;refine⟨c,v,h1,h2,?_⟩
  cases c with
  | nil=>exact hk
  | af id sub=>
   cases sub with
   | some=>exact hk
   | none=>obtain ⟨ver,xs,A,k,c,_,h⟩:=hk;exact⟨ver,xs,A,k,c,fun h=>by simp at h,h⟩
  | bM u dp cI xs=>obtain ⟨p,i,T,ver,ys,b,o,c,h1,h2,_,h⟩:=hk;exact⟨p,i,T,ver,ys,b,o,c,h1,h2,fun h=>by simp at h,h⟩
  | _=>exact hk
 | .st ak,m,_,_,_,hk=>by simp only [c6] at hk ⊢;exact fW.mR ak m.parts hk
theorem fW.mR:∀(ak:aA) (m:c3) {cs:List bb} {vs:List Value} {H:ag},fW true w Z s ι ak m cs vs H→fW false w Z s ι ak m cs vs H
 | .nil,_,_,_,_,hk=>by simp only [fW] at hk ⊢;exact hk
 | .cons t ak,m,_,_,_,hk=>by simp only [fW] at hk ⊢;obtain ⟨c1,fL,v1,v2,H1,H2,h1,h2,h3,h4,a7⟩:=hk;exact⟨c1,fL,v1,v2,H1,H2,h1,h2,c6.mR t m.af h3,fW.mR ak m.dC h4,a7⟩
end
theorem e7.mR:∀(ps:List bD) {vs:List ba} {us:List Value} {H:ag},e7 true w Z s ι ps vs us H→e7 false w Z s ι ps vs us H
 | [],_,_,_,_=>trivial
 | .mut t m m' :: ps,_,_,_,⟨p,bI,u,aX,H1,H2,h1,h2,h3,h4,a7⟩=>⟨p,bI,u,aX,H1,H2,h1,h2,h3.imp (fun⟨a,b,c,d,e,_,h⟩=>⟨a,b,c,d,e,fun h=>by simp at h,h⟩) (fun⟨c0,d_,a,b,c,d,e,f,g1,g2,_,h⟩=>⟨c0,d_,a,b,c,d,e,f,g1,g2,fun h=>by simp at h,h⟩),e7.mR ps h4,a7⟩
 | .hg t m :: ps,_,_,_,⟨v,bI,u,aX,cs,H1,H2,h1,h2,h3,oZ,h4,a7,bh⟩=>⟨v,bI,u,aX,cs,H1,H2,h1,h2,h3,oZ,c6.mR t m h4,e7.mR ps a7,bh⟩
 | .val _ _ :: ps,_,_,_,⟨v,bI,u,aX,h1,h2,h3⟩=>⟨v,bI,u,aX,h1,h2,e7.mR ps h3⟩
 | .hV _ :: ps,_,_,_,⟨v,bI,u,aX,h1,h2,h3⟩=>⟨v,bI,u,aX,h1,h2,e7.mR ps h3⟩
 | .ref _ :: ps,_,_,_,⟨v,bI,u,aX,h1,h2,h3⟩=>⟨v,bI,u,aX,h1,h2,e7.mR ps h3⟩
 | .fn _ _ :: ps,_,_,_,⟨v,bI,u,aX,h1,h2,h3⟩=>⟨v,bI,u,aX,h1,h2,e7.mR ps h3⟩
theorem iy.mono(hZ:ag.sub Z Z'){ps:List bD}{us:List Value} : ∀(rs:List c4) {x:(c4.outs rs (bD.ef ps)).D} {dy:List Value} {F F':ag},ag.sub F F'→iy w Z ps us rs x dy F→iy w Z' ps us rs x dy F'
 | [],_,_,_,_,hF,⟨h1,h2⟩=>⟨h1,iI.mono hZ ps hF h2⟩
 | .val t m :: rs,_,_,_,_,hF,⟨vs,ej,G,H,h1,h2,h3,h4,a7,bh⟩=>⟨vs,ej,G,H,h1,ad.au.mono hZ _ _ (fun _ _ h=>h) h2,iy.mono hZ rs (fun _ _ h=>h) h3,h4,fun b o h=>hF b o (a7 b o h),fun b o h=>hF b o (bh b o h)⟩
 | .opt a off t :: rs,_,_,_,_,hF,⟨v,ej,h1,h2,h3⟩=>⟨v,ej,h1,h2,iy.mono hZ rs hF h3⟩
 | .any t :: rs,_,_,_,_,hF,⟨v,ej,h1,h2,h3⟩=>⟨v,ej,h1,h2,iy.mono hZ rs hF h3⟩
 | .pO t :: rs,_,_,_,_,hF,⟨v,ej,h1,h2,h3⟩=>⟨v,ej,h1,h2.imp (fun h=>h) fun⟨y,b,o,vs,k1,k2,k3,bs,bp⟩=>⟨y,b,o,vs,k1,k2,k3,ad.au.mono hZ _ _ (fun _ _ h=>h) bs,fun j hj=>hZ _ _ (bp j hj)⟩,iy.mono hZ rs hF h3⟩
 | .new t m :: rs,_,_,_,_,hF,⟨b,o,vs,ej,G,H,h1,h2,hw,h3,h4,a7,bh,bJ,dg⟩=>⟨b,o,vs,ej,G,H,h1,h2,hw,ad.au.mono hZ _ _ (fun _ _ h=>h) h3,iy.mono hZ rs (fun _ _ h=>h) h4,a7,bh,fun b o h=>hF b o (bJ b o h),fun b o h=>hF b o (dg b o h)⟩
theorem jI.plus{p:Place}{b o:Nat}(k:Nat)(h:jI s ι p (at_ b o)):jI s ι { p with off:=p.off+k } (at_ b (o+k)):=by
 obtain ⟨_,h⟩:=h;refine⟨rfl,?_⟩;show match (s.o p.id).core with | .var _ _=>_ | .row .. => _ | _=>_
 cases hc:(s.o p.id).core with
 | var ver cs=>rw [hc] at h;obtain ⟨h1,a0,h2,h3⟩:=h;simp only [at_,Addr.mk.injEq,and_true] at h3;exact⟨h1,a0,h2,by simp only [at_,Addr.mk.injEq,and_true];exact⟨h3.1,by omega⟩⟩
 | row t em ver xs=>rw [hc] at h;obtain ⟨i,h1,h2,a0,h3,h4⟩:=h;simp only [at_,Addr.mk.injEq,and_true] at h4;exact⟨i,h1,h2,a0,h3,by simp only [at_,Addr.mk.injEq,and_true];exact⟨h4.1,by omega⟩⟩
 | _=>trivial
theorem a'.get:∀ {x:List ba} {us:List Value} (i:Nat) {v:ba},a' w Z s ι x us→x[i]?=some v→∃u,us[i]?=some u∧aT w Z s ι v u
 | [],_,i,_,_,h=>by simp at h
 | y :: l,_,0,v,h,hv=>by simp only [a'] at h;obtain ⟨u,aX,rfl,h1,h2⟩:=h;simp at hv;subst hv;exact⟨u,rfl,h1⟩
 | y :: l,_,i+1,v,h,hv=>by simp only [a'] at h;obtain ⟨u,aX,rfl,h1,h2⟩:=h;simp only [List.getElem?_cons_succ] at hv ⊢;exact h2.get i hv
theorem a'.held{g:Bool}{H:ag}(h:gT g w Z s ι w' Z' av bm H):∀ {x:List ba} {us:List Value},a' w Z s ι x us→a' w' Z' av bm x us
 | [],_,hx=>by simp only [a'] at hx ⊢;exact hx
 | y :: l,_,hx=>by simp only [a'] at hx ⊢;obtain ⟨u,aX,h0,h1,h2⟩:=hx;exact⟨u,aX,h0,h.aF _ _ h1,a'.held h h2⟩
theorem xZ{bt:List (Nat×Nat)}{ps:List bD}{vs:List ba}{us:List Value} : ∀(rs:List c4) (x:(c4.outs rs (bD.ef ps)).D) (dy:List Value) (s:ar) (ι : Nat→bH) (j:Nat) (q:List ba×ar) (F H:ag),lT vs ps bt rs x s j=some q →
  Inv w0 F0 Z0 n s a w ι Z→e7 false w Z s ι ps vs us H→iy w (Z.or (dt ι bt)) ps us rs x dy F→bK w0 F0 s w ι Z F→bK w0 F0 s w ι Z H→ag.apart F H→(∀d,d∈bt→(s.o d.1).live∧eI s d)→a' w Z s ι vs us →
  ∃ bm,Inv w0 F0 Z0 n q.2 a w bm Z∧(∀x u,aT w Z s ι x u→aT w Z q.2 bm x u)∧a' w Z q.2 bm q.1 dy
 | [],x,dy,s,ι,j,q,F,H,hu,h,hk,hr,hF,cN,ha,af,hv=>by simp only [lT] at hu;obtain ⟨r,hx,hu⟩:=bd hu;obtain rfl:=aW hu;obtain ⟨rfl,hr⟩:=hr;obtain ⟨bm,ei,held,_⟩:=sV ps vs us x s ι j r F H hx h hk hr hF cN ha af;exact⟨bm,ei,held.aF,by simp only [a']⟩
 | .val t m :: rs,x,dy,s,ι,j,q,F,H,hu,h,hk,hr,hF,cN,ha,af,hv=>by
  simp only [lT] at hu;obtain ⟨r,hx,hu⟩:=bd hu
  cases hw:kh t r.1 with
  | none=>rw [hw] at hu;simp at hu
  | some v=>
   rw [hw] at hu;simp only at hu;obtain ⟨p,aw,hu⟩:=bd hu;obtain rfl:=aW hu;obtain ⟨ws,ej,G1,G2,rfl,bE,cp,p3,fl,hI⟩:=hr;obtain ⟨dD,i1,jt,c1,fX⟩:=ad.oP t m bt x.1 s ι j r ws G1 hx h bE (hF.sub fl) ((hF.sub fl).dt fun d hm=>(af d hm).1) (fun d hm=>(af d hm).2);have sU:gT false w Z s ι w Z r.2.1 dD (fun _ _=>True):=jt.held _;have hdl:=Aj (dp:=bt) (fun d hm=>(af d hm).1) jt.keeps;have Ly:a' w Z r.2.1 dD vs us:=a'.move (jt.eC (w:=w) (Z:=Z)) hv
   obtain ⟨eN,i2,p4,h7⟩:=xZ rs x.2 ej r.2.1 dD r.2.2 p G2 H aw i1 (e7.move (sU.mono fun _ _ _=>trivial) (fun _ _ h=>h) ps hk) (by rw [hdl.2];exact cp)
    (fX G2 (hF.sub hI) (fun b o x y=>p3 b o y x)) (fX H cN (fun b o x y=>ha b o (fl b o y) x)) (fun b o x y=>ha b o (hI b o x) y)
    (fun d hm=>⟨hdl.1 d hm,by have:=(af d hm).2;unfold eI known kM at *;rw [(jt.keeps d.1 (af d hm).1).1];exact this⟩) Ly
   refine⟨eN,i2,fun x u hx=>p4 x u (sU.aF x u hx),?_⟩;simp only [a'];exact⟨_,ej,rfl,p4 _ _ (pW hw c1),h7⟩
 | .new t m :: rs,x,dy,s,ι,j,q,F,H,hu,h,hk,hr,hF,cN,ha,af,hv=>by
  simp only [lT] at hu;obtain ⟨r,hx,hu⟩:=bd hu;obtain ⟨s1,hm,hu⟩:=bd hu;obtain ⟨p,aw,hu⟩:=bd hu;obtain rfl:=aW hu;obtain ⟨cj,rfl⟩:=q6 hm;obtain ⟨b,o,ws,ej,G1,G2,rfl,cC,hwr,bE,cp,p3,sS,fl,hI⟩:=hr;have hG:ag.sub G1 F:=fun b o x=>fl b o (.inl x)
  have e6:ag.sub (ag.run b o t.size) F:=fun b o x=>fl b o (.inr x)
  obtain ⟨dD,i1,jt,c1,fX⟩:=ad.oP t m bt x.1 s ι j r ws G1 hx h bE (hF.sub hG) ((hF.sub hG).dt fun d hm=>(af d hm).1) (fun d hm=>(af d hm).2);have hl:=(ad.au.len t _ bE).1;have hcl:=c1.len;have ko:=fX _ (hF.sub e6) (fun b o x y=>sS b o y x);obtain ⟨i2,nW,mQ,nX⟩:=Ls i1 (id:=r.2.2) (o:=.var 0 r.1) (i:=⟨some (at_ b o),0,ag.run b o t.size⟩) (by rw [cj];exact fun h=>h) (fun o'=>by simp) (by rw [cj];exact .made _ _ _) (fun hm=>by refine⟨at_ b o,ws,rfl,rfl,c1.move hm,cC,fun k hk=>⟨hwr k (by omega),rfl,by simp [at_],by simp [at_];omega⟩⟩) ko;have held:gT false w Z s ι w Z _ _ (fun _ _=>True):=(jt.held _).trans nW;have T0:∀id,(s.o id).live→(r.2.1.bV r.2.2 (.var 0 r.1)).o id=s.o id∧bW dD r.2.2 ⟨some (at_ b o),0,ag.run b o t.size⟩ id = ι id:=fun id ck=>by obtain ⟨h1,h2⟩:=jt.keeps id ck;obtain ⟨h3,h4⟩:=nX id (by rw [h1];exact ck);exact⟨h3.trans h1,h4.trans h2⟩
  have hdl:=Aj (dp:=bt) (fun d hm=>(af d hm).1) T0;have Ly:a' w Z _ _ vs us:=a'.held held hv;have Al:∀X,bK w0 F0 s w ι Z X→ag.apart X (G1.or (ag.run b o t.size))→bK w0 F0 (r.2.1.bV r.2.2 (.var 0 r.1)) w (bW dD r.2.2 ⟨some (at_ b o),0,ag.run b o t.size⟩) Z X:=fun X hX fY=>mQ X (fX X hX fun b o x y=>fY b o x (.inl y)) fun b o x y=>fY b o x (.inr y)
  obtain ⟨LA,i3,T1,h7⟩:=xZ rs x.2 ej _ _ _ p G2 H aw i2 (e7.move (held.mono fun _ _ _=>trivial) (fun _ _ h=>h) ps hk) (by rw [hdl.2];exact cp)
   (Al G2 (hF.sub hI) (fun b o x y=>p3 b o y x)) (Al H cN (fun b o x y=>ha b o (fl b o y) x)) (fun b o x y=>ha b o (hI b o x) y)
   (fun d hm=>⟨hdl.1 d hm,by have:=(af d hm).2;unfold eI known kM at *;rw [(T0 d.1 (af d hm).1).1];exact this⟩) Ly
  refine⟨LA,i3,fun x u hx=>T1 x u (held.aF x u hx),?_⟩;simp only [a'];refine⟨_,ej,rfl,T1 _ _ ?_,h7⟩;simp only [aT];refine⟨by show bW r.2.1.o r.2.2 _ r.2.2≠_;rw [cL];simp,_,rfl,rfl,?_⟩;show match (bW r.2.1.o r.2.2 _ r.2.2).core with | .var _ _=>_ | .row .. => _ | _=>_
  rw [cL];exact⟨rfl,at_ b o,by rw [cL],by simp [at_]⟩
 | .any t :: rs,x,dy,s,ι,j,q,F,H,hu,h,hk,hr,hF,cN,ha,af,hv=>by simp only [lT] at hu;obtain ⟨p,aw,hu⟩:=bd hu;obtain rfl:=aW hu;obtain ⟨v,ej,rfl,T2,cp⟩:=hr;obtain ⟨eN,i2,p4,h7⟩:=xZ rs x ej s ι j p F H aw h hk cp hF cN ha af hv;refine⟨eN,i2,p4,?_⟩;simp only [a'];exact⟨_,ej,rfl,by simp only [aT];exact T2,h7⟩
 | .pO t :: rs,x,dy,s,ι,j,q,F,H,hu,h,hk,hr,hF,cN,ha,af,hv=>by
  simp only [lT] at hu;obtain ⟨p,aw,hu⟩:=bd hu;obtain rfl:=aW hu;obtain ⟨v,ej,rfl,ho,cp⟩:=hr;obtain ⟨eN,i2,p4,h7⟩:=xZ rs x.2 ej s ι j p F H aw h hk cp hF cN ha af hv;refine⟨eN,i2,p4,?_⟩;simp only [a'];refine⟨v,ej,rfl,p4 _ _ ?_,h7⟩;simp only [aT];rcases ho with⟨h1,h2⟩ | ⟨y,b,o,bI,h1,h2,h3,h4,a7⟩
  ·exact .inl ⟨by rw [h1];rfl,h2⟩
  ·right;rw [h1];refine⟨rfl,fun d hm=>(af d hm).2,b,o,bI,h2,fun _=>?_⟩;have hc:bL w Z s ι (t.cells bt none y) bI:=ad.q2 t bt none (fun d hm=>(af d hm).2) (fun _=>h4) ⟨_,_,_,h4⟩ .none;refine⟨hc,h3,fun j hj=>?_⟩;have hl:=(ad.au.len t _ h4).1;have d':=hc.len;exact a7 j (by rw [show(I t [y] 0)=y from rfl] at hj;omega)
 | .opt l9 off t :: rs,x,dy,s,ι,j,q,F,H,hu,h,hk,hr,hF,cN,ha,af,hv=>by
  simp only [lT] at hu;obtain ⟨p,aw,hu⟩:=bd hu
  cases eb:qX p.2 vs l9 off with
  | none=>rw [eb] at hu;simp at hu
  | some id=>
   rw [eb] at hu;simp only at hu;cases mS:qY p.2 t id
   ·rw [mS] at hu;cases hu
   rw [mS] at hu;simp only [cond_true] at hu;obtain rfl:=aW hu;obtain ⟨v,ej,rfl,ho,cp⟩:=hr;obtain ⟨eN,i2,p4,h7⟩:=xZ rs x.2 ej s ι j p F H aw h hk cp hF cN ha af hv;refine⟨eN,i2,p4,?_⟩;simp only [a'];refine⟨v,ej,rfl,?_,h7⟩;unfold qX at eb
   cases nR:vs[l9]? with
   | none=>rw [nR] at eb;simp at eb
   | some lV=>
    rw [nR] at eb
    cases lV with
    | ptr pl=>
     simp only at eb
     cases c8:mA p.2 1 { pl with off:=pl.off+off } with
     | none=>rw [c8] at eb;simp at eb
     | some cs=>
      rw [c8] at eb
      have hcs:cs=[.af id none]:=by
       split at eb
       ·rename_i h;obtain rfl:=aW eb;exact aW h
       ·simp at eb
      subst hcs;obtain ⟨u,x0,sW⟩:=hv.get l9 nR;have sW:=p4 _ _ sW;simp only [aT] at sW;obtain ⟨km,A,rfl,nY⟩:=sW;obtain ⟨b,o,sp⟩:=A;have hsp:=nY.1;simp only at hsp;subst hsp;obtain ⟨nH,eT,ws,hA,hc1,hc2,Af⟩:=zV i2 c8 (jI.plus (b:=b) (o:=o) off nY);simp only [at_,Addr.mk.injEq,and_true] at hA;obtain ⟨rfl,rfl⟩:=hA
      match ws,hc1 with
      | [v0],hc1=>
       obtain ⟨hk0,A,m,k,rfl,hh⟩:=hc1.1;simp only [aT];refine⟨hk0,?_⟩;rcases ho with⟨h1,h2⟩ | ⟨h1,oS,e5,jl,dK,fk,c1,h2,h3,h4,a7⟩
       ·exact .inl ⟨h1,h2⟩
       ·right;refine⟨h1,_,a7,rfl,?_⟩;rw [x0] at h2;simp only [Option.some.injEq,Value.pointer.injEq,at_,Addr.mk.injEq,and_true] at h2;obtain ⟨rfl,rfl⟩:=h2;have:=hc2.head;rw [h3] at this;simp only [Option.some.injEq,Value.slice.injEq] at this;obtain ⟨rfl,rfl,rfl⟩:=this;show match (p.2.o id).core with | .var _ _=>_ | .row .. => _ | _=>_
        unfold qY at mS
        cases b0:p.2.o id with
        | row u em ver xs=>
         rw [b0] at mS;have:=ad.eq_of_beq _ _ mS;subst this;obtain ⟨c0,d_,gQ,hp,h5⟩:=hh u em ver xs (lW b0);have c0:fk=xs.length:=c0;rcases h5 with h5 | ⟨a0,nN,nS⟩
         ·omega
         ·simp only [eB,Nat.zero_mul,Nat.add_zero,Option.some.injEq,at_,Addr.mk.injEq,and_true] at nS;refine⟨_,rfl,by omega,a0,nN,?_⟩;simp only [at_,Addr.mk.injEq,and_true];exact⟨nS.1,by omega⟩
        | _=>rw [b0] at mS;cases mS
    | _=>simp at eb
end
end Go.LM
namespace Go.LM
section
variable{P:Program}{Q:Exit→Act→World→Prop}
variable{g:Bool}{w0:World}{F0 Z0:ag}{n:cM}{s av:ar}{a b5:Act}{w w' ch:World}{ι bm eN:Nat→bH}{Z Z' bQ:ag}
variable{E:Env}{o:Oper}{bB : Type}{K:ar→Option bB}{r : bB}{id:Nat}
def DP:List ba→ba
 | [v]=>v
 | l=>.pM l
theorem Calls.mono{P:Program}{f:FuncId}{args:Array Value}{w:World}{R jh:Ending→World→Prop}(h:Calls P f args w R)(e6:∀e w',R e w'→jh e w'):Calls P f args w jh:=by intro cs;obtain ⟨e,w',nZ,h1,h2⟩:=h cs;exact⟨e,w',nZ,e6 e w' h1,h2⟩
theorem xS.mono{P:Program}{f:FuncId}{args:Array Value}{w:World}{R jh:Ending→World→Prop}(h:xS P f args w R)(e6:∀e w',R e w'→jh e w'):xS P f args w jh:=by
 rcases h with⟨h1,h2⟩ | ⟨v,w',h1,h2⟩
 ·exact .inl ⟨h1,Calls.mono h2 e6⟩
 ·exact .inr ⟨v,w',h1,e6 _ _ h2⟩
def DQ(P:Program)(E:Env):Prop:=∀f key e,E.fns f key=some e→ik P f key e
theorem ae7{f:FuncId}{vs:List ba}{us:List Value}{K:ba→ar→Option bB}(de:DQ P E)(h:Inv w0 F0 Z0 n s a w ι Z)(hv:a' w Z s ι vs us)(hk:Kl E id s f vs K=some r) :
  ∃(T:ba→ar→Prop),(∀v av,T v av→K v av=some r)∧(∃v av,T v av)∧xS P f us.toArray w fun e w'=>∃u,e=.returned u∧∀v av,T v av→∃ bm Z',Inv w0 F0 Z0 n av a w' bm Z'∧aT w' Z' av bm v u:=by
 unfold Kl at hk
 cases hf:E.fns f (pQ vs) with
 | none=>rw [hf] at hk;simp at hk
 | some e=>
  rw [hf] at hk;simp only at hk
  cases hm:gq (pQ vs) s e.ps (vs++lU vs) [] with
  | none=>rw [hm] at hk;simp at hk
  | some q=>
   obtain ⟨x,s1,bt⟩:=q;rw [hm] at hk;simp only at hk;cases dF:(alive s1 bt&&oK vs)
   ·rw [dF] at hk;simp at hk
   rw [dF] at hk;simp only [Bool.and_eq_true] at dF;obtain ⟨dF,LB⟩:=dF;simp only [cond_true] at hk;obtain ⟨y,aR,hk⟩:=bd hk
   cases hu:lT (vs++lU vs) e.ps bt e.rs y s1 id with
   | none=>rw [hu] at hk;simp at hk
   | some q=>
    obtain ⟨l,s2⟩:=q;rw [hu] at hk;have LC:=de f _ e hf;have hvc:=hv.append (Lx LB hv);obtain ⟨F,H,cH,i1,g1,bE,k1,f1,h1,a1,_,d1,_⟩:=rf e.ps _ _ s Z [] _ hm h hvc (by simp);simp only at i1 g1 bE k1 f1 h1 d1;have ck:=DO dF
    have hcall:=LC.calls w (cH.or (dt ι bt)) F x us y
     (by
      rintro b o (hz | ⟨d,af,hf⟩)
      ·exact i1.ji b o hz
      ·exact(i1.own d.1 (ck d af) b o hf).2)
     (fun b o hf=>(f1.own b o hf).2)
     (by
      rintro b o hf (hz | hz)
      ·exact f1.db b o hf hz
      ·exact f1.dt ck b o hf hz) bE aR
    refine⟨fun eY av=>eY=DP l∧av=s2,?_,⟨_,s2,rfl,rfl⟩,hcall.mono ?_⟩
    ·rintro eY av ⟨rfl,rfl⟩
     clear hu
     match l,hk with
     | [],hk=>exact hk
     | [_],hk=>exact hk
     | _ :: _ :: _,hk=>exact hk
    ·rintro end_ w' ⟨u,rfl,⟨dy,Z',F',rfl,hx,jL,hz2,hf2,Am,h7⟩⟩
     refine⟨_,rfl,?_⟩
     rintro eY av ⟨rfl,rfl⟩
     let S:ag:=fun b o=>Z' b o∧(F b o∨w.heap.size≤b)
     have mT:=i1.Dr f1 hx
     have T3:∀(X:ag),(∀b o,X b o→(F b o∨w.heap.size≤b)∧b<w'.heap.size)→bK w0 F0 s1 w' ι cH X:=by
      intro X hX;have hsz:=i1.ext.size;refine⟨fun b o hb=>⟨?_,(hX b o hb).2⟩,fun id hl b o hb hi=>?_,fun b o hb hz=>?_⟩
      ·rcases (hX b o hb).1 with hf | hf
       ·exact(f1.own b o hf).1
       ·exact .inr (by omega)
      ·rcases (hX b o hb).1 with hf | hf
       ·exact f1.apart id hl b o hf hi
       ·have:=(i1.own id hl b o hi).2;omega
      ·rcases (hX b o hb).1 with hf | hf
       ·exact f1.db b o hf hz
       ·have:=i1.ji b o hz;omega
     have La:bK w0 F0 s1 w' ι cH S:=T3 S (by
      rintro b o ⟨hz,hf⟩
      refine⟨hf,?_⟩;rcases hz2 b o hz with h1 | h1
      ·have hsz:=hx.size;rcases h1 with h1 | ⟨d,af,h1⟩
       ·have:=i1.ji b o h1;omega
       ·have:=(i1.own d.1 (ck d af) b o h1).2;omega
      ·exact h1.2)
     have e8:=mT.freeze La;have LD:bK w0 F0 s1 w' ι (cH.or S) F':=(T3 F' hf2).freeze (fun b o hb hs=>Am b o hb hs.1)
     have cN:bK w0 F0 s1 w' ι (cH.or S) H:=(h1.ext hx).freeze (by
      rintro b o hb ⟨_,hf | hf⟩
      ·exact a1 b o hf hb
      ·have:=(h1.own b o hb).2;omega)
     have T4:ag.apart cH F:=fun b o hz hf=>f1.db b o hf hz
     have sR:eU w cH s1 ι w' (cH.or S) s1 ι := by
      refine⟨fun id=>.stay _ _,fun _ _ h=>.inl h,cf.jk hx i1.sG ?_⟩
      rintro b o (hz | ⟨id,hl,_,_,hf⟩) hs
      ·exact T4 b o hz hs
      ·exact f1.apart id hl b o hs hf
     have xY:gT false w cH s1 ι w' (cH.or S) s1 ι H:=
      ⟨fun _ _=>aT.move sR,fun _ _=>cr.move sR,sR.dL,fun _ _ _ h=>⟨h,rfl⟩,fun h=>by simp at h,cf.jk hx (fun b o hb=>(h1.own b o hb).2) (fun b o hb hf=>a1 b o hf hb),cf.jk hx i1.ji T4,fun b o hw=>hx.qT hw,fun z b o hw=>hx.kL hw⟩
     have hvs1:a' w' (cH.or S) s1 ι (vs++lU vs) (us++gp us):=a'.move sR (a'.move g1.eC hvc)
     obtain ⟨eN,i2,_,cS⟩:=xZ e.rs y dy s1 ι id (l,av) F' H hu e8 (e7.move xY (fun _ _ h=>h) e.ps k1.mR) (iy.mono (by
      intro b o hz;by_cases hc:(F b o∨w.heap.size≤b)
      ·exact .inl (.inr ⟨hz,hc⟩)
      ·rcases hz2 b o hz with h1 | h1
       ·rcases h1 with h1 | h1
        ·exact .inl (.inl h1)
        ·exact .inr h1
       ·exact absurd h1.1 hc) e.rs (fun _ _ h=>h) h7) LD cN (by
      intro b o hb hh;rcases (hf2 b o hb).1 with hf | hf
      ·exact a1 b o hf hh
      ·have:=(h1.own b o hh).2;omega) (fun d af=>⟨ck d af,d1 d af⟩) hvs1
     refine⟨eN,_,i2,?_⟩;show aT w' _ av eN (DP l) (oX dy);simp only at cS;clear hk hu
     match l,cS with
     | [],cS=>simp only [a'] at cS;subst cS;simp only [DP,aT,oX];exact⟨[],rfl,by simp only [a']⟩
     | [v0],cS=>simp only [a'] at cS;obtain ⟨kR,xF,rfl,h0,rfl⟩:=cS;exact h0
     | v0 :: v1 :: l,cS=>have x1:=cS;simp only [a'] at cS;obtain ⟨kR,xF,rfl,h0,nE,us1,rfl,h1,h2⟩:=cS;simp only [DP,aT,oX];exact⟨_,rfl,x1⟩
theorem T5{m:Nat}{n:Int}{k:Nat}(hx:ix m n=some k):0≤n∧k=n.toNat:=by
 unfold ix at hx;by_cases hc:0≤n∧n<(m:Int)
 ·rw [if_pos hc] at hx;exact⟨hc.1,(aW hx).symm⟩
 ·rw [if_neg hc] at hx;cases hx
theorem DR{bB : Type}{r : bB} : ∀ {vs:List ba} {us:List Value} {K:List ba→Option bB},sw s vs K=some r→a' w Z s ι vs us→∃bI,K bI=some r∧a' w Z s ι bI us
 | [],us,K,hk,hv=>⟨[],hk,hv⟩
 | v :: l,us,K,hk,hv=>by
  simp only [a'] at hv;obtain ⟨u,aX,rfl,h1,h2⟩:=hv;have keep:(sw s l fun l'=>K (v :: l'))=some r→∃bI,K bI=some r∧a' w Z s ι bI (u :: aX):=fun hk=>by obtain ⟨l',k1,k2⟩:=DR (K:=fun l'=>K (v :: l')) hk h2;exact⟨v :: l',k1,by simp only [a'];exact⟨u,aX,rfl,h1,k2⟩⟩
  cases v with
  | opt i n=>
   simp only [sw] at hk;obtain ⟨k,hx,hk⟩:=bd hk;obtain ⟨l',k1,k2⟩:=DR (K:=fun l'=>K (.ptr ⟨i,some k,0⟩ :: l')) hk h2;refine⟨_,k1,?_⟩;simp only [a'];refine⟨u,aX,rfl,?_,k2⟩;simp only [aT] at h1 ⊢;obtain ⟨h0,rfl⟩:=T5 hx;obtain ⟨km,⟨h3,_⟩ | ⟨h3,x2,rfl,h4⟩⟩:=h1
   ·omega
   ·exact⟨km,x2,rfl,h4⟩
  | may b dp cs=>
   simp only [sw] at hk;cases b
   ·cases hk
   obtain ⟨l',k1,k2⟩:=DR (K:=fun l'=>K (.du dp cs 0 :: l')) hk h2;refine⟨_,k1,?_⟩;simp only [a'];refine⟨u,aX,rfl,?_,k2⟩;simp only [aT] at h1 ⊢;rcases h1 with⟨h1,_⟩ | ⟨_,h1⟩
   ·cases h1
   ·exact h1
  | _=>exact keep hk
theorem ae8{f:FuncId}{vs:List ba}{us:List Value}{K:ba→ar→Option bB}(de:DQ P E)(h:Inv w0 F0 Z0 n s a w ι Z)(hv:a' w Z s ι vs us)(hk:Km E id s f vs K=some r) :
  ∃(T:ba→ar→Prop),(∀v av,T v av→K v av=some r)∧(∃v av,T v av)∧xS P f us.toArray w fun e w'=>∃u,e=.returned u∧∀v av,T v av→∃ bm Z',Inv w0 F0 Z0 n av a w' bm Z'∧aT w' Z' av bm v u:=by
 unfold Km at hk;obtain ⟨bI,dO,lX⟩:=DR hk hv;exact ae7 de h lX dO
theorem ae9{c:Call}{cd:Operand}(de:DQ P E)(h:Inv w0 F0 Z0 n s a w ι Z)(af:∀k,o.dst=some k→k<n)(ho:o.op=.call c)(hc:c.callee=.value cd)(hk:cZ E id o s K=some r) :
  ∃av,K av=some r∧o.wp P a w (c5 w0 F0 Z0 n av) Q:=by
 unfold cZ at hk;rw [ho] at hk;simp only [hc] at hk;have hvs:=uR h c.args.toList;have hf:=fe h cd
 cases DS:bZ s cd with
 | fn LF first lR=>
  rw [DS] at hk hf;simp only at hk;simp only [aT] at hf;obtain ⟨cD,cs,LG,lq,hcs⟩:=hf;have LH:a' w Z s ι (first++c.args.toList.map (bZ s)++lR) (cD++c.args.toList.map a.eval++cs):=(lq.append hvs).append hcs;obtain ⟨T,ae_,⟨v,av,b2⟩,x3⟩:=ae8 de h LH hk;refine⟨_,ae_ v av b2,?_⟩;unfold Oper.wp;have hrun:(execOp a.eval o).run P w=(callFunc LF (cD++c.args.toList.map a.eval++cs).toArray).run P w:=by unfold execOp;rw [ho];simp only [run_bind,resolve,hc,LG,Deferred.ofValue,run_pure,invoke];congr 2;apply Array.ext';simp
  rw [hrun];rcases x3 with⟨⟨fn,An,LI,ju⟩,x3⟩ | ⟨u,w',u0,gU,z_,hu⟩
  ·have LJ:(callFunc LF (cD++c.args.toList.map a.eval++cs).toArray).run P w=.ok (.enter LF (cD++c.args.toList.map a.eval++cs).toArray) w:=by
    simp only [callFunc,run_bind,run_pure,program,Sem.run,An];rw [if_neg (by rw [ju];simp),if_neg (by rw [LI];simp)];simp only [run_pure]
   rw [LJ,Oper.upon_enter];refine x3.mono ?_
   rintro e w' ⟨u,rfl,hu⟩
   obtain ⟨bm,Z',hinv,cS⟩:=hu v av b2;exact⟨bm,Z',hinv.dst cS af⟩
  ·rw [u0,Oper.upon_value];cases z_;obtain ⟨bm,Z',hinv,cS⟩:=hu v av b2;exact⟨bm,Z',hinv.dst cS af⟩
 | _=>rw [DS] at hk;simp at hk
structure j5(P:Program)(E:Env):Prop where
 ty:hB P E
 eq:Tb P E
 fns:DQ P E
 mix:P.follows .mixedOrders=true
theorem ae'(bR:j5 P E)(h:Inv w0 F0 Z0 n s a w ι Z)(af:∀k,o.dst=some k→k<n)(hk:cZ E id o s K=some r) :
  ∃av,K av=some r∧o.wp P a w (c5 w0 F0 Z0 n av) Q:=by
 have ft:(∃av,K av=some r∧Pure P o a w (c5 w0 F0 Z0 n av))→∃av,K av=some r∧o.wp P a w (c5 w0 F0 Z0 n av) Q:=fun⟨av,h1,h2⟩=>⟨av,h1,h2.wp⟩
 cases ho:o.op with
 | move x=>exact ft (Dk h af (.inl ho) hk)
 | assign x=>exact ft (Dk h af (.inr ho) hk)
 | pick c x y=>exact ft (SV h af ho hk)
 | alloc t=>exact ad1 bR.ty h af ho hk
 | box t x=>exact ad2 bR.ty h af ho hk
 | build t ps=>exact ft (Tt bR.ty h af ho hk)
 | buildSlice t m ps=>exact aer bR.ty h af ho hk
 | load t x=>exact ad3 bR.ty h af ho hk
 | store t x y=>exact ad5 bR.ty h af ho hk
 | nilCheck x=>exact ft (SX h af ho hk)
 | binOp op t x y Dp=>exact ft (Td bR.ty bR.eq h af ho hk)
 | unOp op t x=>exact ft (Ta h af ho hk)
 | convert st gy x=>exact aeh bR.ty h af ho hk
 | makeFunc f first lR=>
  cases f with
  | func f=>exact ft (S2 h af ho hk)
  | _=>unfold cZ at hk;rw [ho] at hk;simp at hk
 | makeSlice t x y=>exact aed bR.ty h af ho hk
 | slice t x lo hi fH=>exact ft (S8 bR.ty h af ho hk)
 | fieldAddr t x f=>exact ft (SZ bR.ty h af ho hk)
 | field t x f=>exact ft (S0 bR.ty h af ho hk)
 | indexAddr t x i=>exact ft (S3 bR.ty h af ho hk)
 | index t x i=>exact ft (S4 bR.ty h af ho hk)
 | extract x i=>exact ft (S1 h af ho hk)
 | call c=>
  cases hc:c.callee with
  | builtin b=>
   by_cases hb:b=.append
   ·subst hb;exact aeD bR.ty h af ho hc hk
   ·by_cases hb2:b=.clear
    ·subst hb2;exact aeL bR.ty h af ho hc hk
    ·exact ft (Tn bR.ty h af ho hc hb hb2 hk)
  | value f=>exact ae9 bR.fns h af ho hc hk
  | invoke x m=>unfold cZ at hk;rw [ho] at hk;simp [hc] at hk
 | _=>unfold cZ at hk;rw [ho] at hk;simp at hk
end
end Go.LM
namespace Go.LM
mutual
theorem ad.beq_refl:∀t:ad,ad.beq t t=true
 | .int k=>by simp [ad.beq]
 | .bool=>rfl
 | .str=>rfl
 | .raw=>rfl
 | .sl t=>by simp only [ad.beq];exact ad.beq_refl t
 | .st ak=>by simp only [ad.beq];exact aA.beq_refl ak
theorem aA.beq_refl:∀t:aA,aA.beq t t=true
 | .nil=>rfl
 | .cons t ak=>by simp only [aA.beq,ad.beq_refl t,aA.beq_refl ak,cond_true]
end
theorem afa(a:ad)(x:a.D):eR a a x=some x:=by unfold eR;rw [dif_pos (ad.beq_refl a)]
section
variable{w ch:World}{Z bQ:ag}
def T6(w:World)(Z:ag)(t:ad)(z:List t.D)(v:Value)(H1 G1:ag)(R:World→ag→List t.D→Value→ag→Prop):Prop:=
 (ad.sl t).au w Z (.O t.own) z [v] H1∧ag.apart H1 G1∧∀(ch:World) (bQ X:ag) (y:List t.D) (u:Value),cf w ch G1→(ad.sl t).au ch bQ (.O t.own) y [u] X→ag.apart X G1→R ch bQ y u (X.or G1)
mutual
theorem ad.u1:∀(T:ad) (off:Nat) (t:ad) {x:T.D} {z:List t.D} {us:List Value} {G:ag},T.au w Z T.own x us G→T.getAt off t x=some z →
  ∃v H1 G1,us[off]?=some v∧ag.sub H1 G∧ag.sub G1 G∧T6 w Z t z v H1 G1 (fun ch bQ y u eW=>∀bz,T.setAt off t y x=some bz→T.au ch bQ T.own bz (us.set off u) eW)
 | .int _,_,_,_,_,_,_,_,h=>by simp [ad.getAt] at h
 | .bool,_,_,_,_,_,_,_,h=>by simp [ad.getAt] at h
 | .str,_,_,_,_,_,_,_,h=>by simp [ad.getAt] at h
 | .raw,_,_,_,_,_,_,_,h=>by simp [ad.getAt] at h
 | .sl u,off,t,x,z,us,G,hr,h=>by
  simp only [ad.getAt] at h;cases hb:Nat.beq off 0
  ·rw [hb] at h;cases h
  rw [hb] at h;obtain rfl:=Nat.eq_of_beq_eq_true hb;obtain ⟨e,rfl⟩:=hy h;subst e;have iM:=hr;simp only [ad.own,ad.au] at hr;obtain ⟨A,c,rfl,_⟩:=hr;refine⟨_,G,ag.none,rfl,fun _ _ h=>h,fun _ _ h=>h.elim,iM,fun _ _ _ h=>h.elim,fun ch bQ X y kR _ h2 _ bz hs=>?_⟩;simp only [ad.setAt] at hs;obtain ⟨e,rfl⟩:=hy (show eR (.sl u) (.sl u) y=some bz from hs);exact ad.au.mono (fun _ _ h=>h) _ _ (fun _ _ h=>.inl h) h2
 | .st ak,off,t,x,z,us,G,hr,h=>by
  have iw:ak.flat=false:=by
   cases hf:ak.flat
   ·rfl
   ·exact(ad.xQ (.st ak) (by simpa only [ad.flat] using hf) h).elim
  simp only [ad.own,iw,Bool.false_eq_true,if_false,ad.au,bg.parts] at hr;simp only [ad.getAt] at h;obtain ⟨v,H1,G1,h1,h2,h3,h4,a7,bh⟩:=aA.u1 ak off t hr h;refine⟨v,H1,G1,h1,h2,h3,h4,a7,fun ch bQ X y kR k1 k2 k3 bz hs=>?_⟩;simp only [ad.setAt] at hs;simp only [ad.own,iw,Bool.false_eq_true,if_false,ad.au,bg.parts];exact bh ch bQ X y kR k1 k2 k3 bz hs
theorem aA.u1:∀(ak:aA) (off:Nat) (t:ad) {x:ak.D} {z:List t.D} {us:List Value} {G:ag},ak.au w Z ak.own x us G→ak.getAt off t x=some z →
  ∃v H1 G1,us[off]?=some v∧ag.sub H1 G∧ag.sub G1 G∧T6 w Z t z v H1 G1 (fun ch bQ y u eW=>∀bz,ak.setAt off t y x=some bz→ak.au ch bQ ak.own bz (us.set off u) eW)
 | .nil,_,_,_,_,_,_,_,h=>by simp [aA.getAt] at h
 | .cons T ak,off,t,x,z,us,G,hr,h=>by
  simp only [aA.own,aA.au,c3.af,c3.dC] at hr;obtain ⟨nE,jr,nT,nU,rfl,bE,cp,hap,ha,hb⟩:=hr;have hl:=(ad.au.len T _ bE).1;simp only [aA.getAt] at h;cases bO:Nat.blt off T.size
  ·rw [bO] at h
   have xR:T.size≤off:=by
    rcases Nat.lt_or_ge off T.size with h1 | h1
    ·have:Nat.blt off T.size=true:=Nat.ble_eq_true_of_le h1;rw [this] at bO;cases bO
    ·exact h1
   obtain ⟨v,H1,G1,h1,h2,h3,h4,a7,bh⟩:=aA.u1 ak (off-T.size) t cp h;refine⟨v,H1,nT.or G1,?_,fun b o x=>hb b o (h2 b o x),?_,h4,?_,fun ch bQ X y kR k1 k2 k3 bz hs=>?_⟩
   ·rw [List.getElem?_append_right (by omega),hl];exact h1
   ·rintro b o (y | y)
    ·exact ha b o y
    ·exact hb b o (h3 b o y)
   ·rintro b o y (q | q)
    ·exact hap b o q (h2 b o y)
    ·exact a7 b o y q
   ·simp only [aA.setAt,bO,cond_false] at hs;obtain ⟨hH,hz,hs⟩:=bd hs;obtain rfl:=aW hs;simp only [aA.own,aA.au,c3.af,c3.dC];refine⟨nE,jr.set (off-T.size) kR,nT,X.or G1,by rw [List.set_append_right _ _ (by omega),hl],ra T (k1.mono fun _ _ h=>.inl h) bE,bh ch bQ X y kR (k1.mono fun _ _ h=>.inr h) k2 (fun b o p q=>k3 b o p (.inr q)) hH hz,?_,fun _ _ h=>.inr (.inl h),?_⟩
    ·rintro b o p (q | q)
     ·exact k3 b o q (.inl p)
     ·exact hap b o p (h3 b o q)
    ·rintro b o (q | q)
     ·exact .inl q
     ·exact .inr (.inr q)
  ·rw [bO] at h;have xR:off<T.size:=Nat.le_of_ble_eq_true bO;obtain ⟨v,H1,G1,h1,h2,h3,h4,a7,bh⟩:=ad.u1 T off t bE h;refine⟨v,H1,G1.or nU,?_,fun b o x=>ha b o (h2 b o x),?_,h4,?_,fun ch bQ X y kR k1 k2 k3 bz hs=>?_⟩
   ·rw [List.getElem?_append_left (by omega)];exact h1
   ·rintro b o (y | y)
    ·exact ha b o (h3 b o y)
    ·exact hb b o y
   ·rintro b o y (q | q)
    ·exact a7 b o y q
    ·exact hap b o (h2 b o y) q
   ·simp only [aA.setAt,bO,cond_true] at hs;obtain ⟨hH,hz,hs⟩:=bd hs;obtain rfl:=aW hs;simp only [aA.own,aA.au,c3.af,c3.dC];refine⟨nE.set off kR,jr,X.or G1,nU,by rw [List.set_append_left _ _ (by omega)],bh ch bQ X y kR (k1.mono fun _ _ h=>.inl h) k2 (fun b o p q=>k3 b o p (.inl q)) hH hz,TK ak (k1.mono fun _ _ h=>.inr h) cp,?_,?_,fun _ _ h=>.inr (.inr h)⟩
    ·rintro b o (p | p) q
     ·exact k3 b o p (.inr q)
     ·exact hap b o (h3 b o p) q
    ·rintro b o (q | q)
     ·exact .inl q
     ·exact .inr (.inl q)
end
theorem nB.u1{T:ad}{ys:List T.D}{a:Addr}{c:Nat}{F:ag}{i off:Nat}{t:ad}{z:List t.D}(h:nB w (T.au w Z T.own) T.size ys a c F)(hi:i<ys.length)(aC:T.getAt off t (I T ys i)=some z) :
  ∃v H1,w.cell? (at_ a.block (a.off+i*T.size+off))=some v∧(ad.sl t).au w Z (.O t.own) z [v] H1∧ag.sub H1 F∧ag.diff F H1 a.block (a.off+i*T.size+off)∧gb w T.size a.block (a.off+i*T.size+off) ∧
   ∀(ch:World) (bQ X:ag) (y:List t.D) (bz:T.D) (u:Value),cf w ch (fun b o=>ag.diff F H1 b o∧¬(b=a.block∧o=a.off+i*T.size+off))→ch.cell? (at_ a.block (a.off+i*T.size+off))=some u →
    gb ch T.size a.block (a.off+i*T.size+off)→(ad.sl t).au ch bQ (.O t.own) y [u] X→ag.apart X (ag.diff F H1)→T.setAt off t y (I T ys i)=some bz →
    nB ch (T.au ch bQ T.own) T.size (ys.set i bz) a c (X.or (ag.diff F H1)):=by
 rw [c2 hi] at aC ⊢;obtain ⟨G,g1,g2,g3⟩:=h.row;obtain ⟨nT,jq,nU,vs,bE,Lf,hvl,cC,cp,a1,a2,a3,s1,s2,s3⟩:=g1.DA i hi;obtain ⟨v,H1,G1,hv,k1,k2,k3,bs,bp⟩:=ad.u1 T off t Lf aC;have z':ag.sub H1 G:=fun b o x=>s2 b o (k1 b o x)
 have hle:ys.length*T.size≤c*T.size:=Nat.mul_le_mul_right _ h.cap;have mL:(i+1)*T.size≤ys.length*T.size:=Nat.mul_le_mul_right _ hi;rw [Nat.add_one_mul] at mL
 have fM:off<T.size:=by
  rcases Nat.lt_or_ge off T.size with h1 | h1
  ·exact h1
  ·rw [List.getElem?_eq_none (by omega)] at hv;cases hv
 have uT:∀ {A:ag},ag.sub A G→ag.apart A H1→ag.sub A (ag.diff F H1):=fun hA aw b o x=>⟨g3 b o (hA b o x),fun y=>aw b o x y⟩
 have uU:ag.sub nT (ag.diff F H1):=uT s1 fun b o x y=>a1 b o x (k1 b o y)
 have uV:ag.sub nU (ag.diff F H1):=uT s3 fun b o x y=>a3 b o (k1 b o y) x
 have d1:ag.sub G1 (ag.diff F H1):=uT (fun b o x=>s2 b o (k2 b o x)) fun b o x y=>bs b o y x
 have pZ:∀j,j<c*T.size→ag.diff F H1 a.block (a.off+j):=fun j hj=>⟨h.inF j hj,fun y=>g2 j hj (z' _ _ y)⟩
 have hspot:i*T.size+off<c*T.size:=by omega
 have bS:∀ {A:ag},ag.sub A G→∀b o,A b o→¬(b=a.block∧o=a.off+i*T.size+off):=by
  rintro A hA b o x ⟨rfl,rfl⟩
  have:=g2 (i*T.size+off) hspot;rw [← Nat.add_assoc] at this;exact this (hA _ _ x)
 refine⟨v,H1,cC off v hv,k3,fun b o x=>g3 b o (z' b o x),by have:=pZ _ hspot;rwa [← Nat.add_assoc] at this,by have:=h.wr _ hspot;rwa [← Nat.add_assoc] at this,fun ch bQ X y bz u hs hu hwr hr hap Lg=>?_⟩;have afb:cf w ch nT:=fun b o x=>hs b o ⟨uU b o x,bS s1 b o x⟩
 have jM:cf w ch nU:=fun b o x=>hs b o ⟨uV b o x,bS s3 b o x⟩
 have afc:cf w ch G1:=fun b o x=>hs b o ⟨d1 b o x,bS (fun b o x=>s2 b o (k2 b o x)) b o x⟩
 have hcell:∀j,j<c*T.size→j≠i*T.size+off→ch.cell? (at_ a.block (a.off+j))=w.cell? (at_ a.block (a.off+j)):=fun j hj hne=>(hs _ _ ⟨pZ j hj,fun h=>hne (by omega)⟩).1
 have hw2:∀j,j<c*T.size→gb ch T.size a.block (a.off+j):=by
  intro j hj;by_cases hne:j=i*T.size+off
  ·subst hne;rwa [Nat.add_assoc] at hwr
  ·exact hs.kL ⟨pZ j hj,fun h=>hne (by omega)⟩ (h.wr j hj)
 have fF:=bp ch bQ X y u afc hr (fun b o p q=>hap b o p (d1 b o q)) bz Lg;refine⟨h.spot,by simpa using h.cap,hw2,fun j hj=>.inr (pZ j hj),nT.or ((X.or G1).or nU),?_,?_,?_⟩
 ·refine Row.DB i hi (bE.imp (fun y us dv hG hr=>ra T (afb.mono fun b o p=>hG b o p) hr) fun j hj=>hcell j ?_ ?_) fF (by simpa using hvl) ?_ (cp.imp (fun y us dv hG hr=>ra T (jM.mono fun b o p=>hG b o p) hr) fun j hj=>?_) ?_ a2 ?_
  ·simp only [List.length_take] at hj;have:min i ys.length*T.size≤ys.length*T.size:=Nat.mul_le_mul_right _ (Nat.min_le_right _ _);omega
  ·simp only [List.length_take] at hj;have:min i ys.length*T.size≤i*T.size:=Nat.mul_le_mul_right _ (Nat.min_le_left _ _);omega
  ·intro k q hk;by_cases afd:k=off
   ·subst afd;rw [List.getElem?_set_self (by omega)] at hk;rw [← aW hk];exact hu
   ·rw [List.getElem?_set_ne (by omega)] at hk
    have iJ:k<vs.length:=by
     rcases Nat.lt_or_ge k vs.length with h1 | h1
     ·exact h1
     ·rw [List.getElem?_eq_none h1] at hk;cases hk
    have:=hcell (i*T.size+k) (by omega) (by omega);rw [← Nat.add_assoc] at this;rw [this];exact cC k q hk
  ·simp only [List.length_drop] at hj;have e1:(ys.length-(i+1))*T.size=ys.length*T.size-(i*T.size+T.size):=by rw [Nat.sub_mul,Nat.add_one_mul]
   rw [e1] at hj;have:=hcell ((i+1)*T.size+j) (by rw [Nat.add_one_mul];omega) (by rw [Nat.add_one_mul];omega);rwa [← Nat.add_assoc] at this
  ·rintro b o p (q | q)
   ·exact hap b o q (uU b o p)
   ·exact a1 b o p (k2 b o q)
  ·rintro b o (p | p) q
   ·exact hap b o p (uV b o q)
   ·exact a3 b o (k2 b o p) q
 ·rintro j hj (p | (p | p) | p)
  ·exact g2 j hj (s1 _ _ p)
  ·exact hap _ _ p (pZ j hj)
  ·exact g2 j hj (s2 _ _ (k2 _ _ p))
  ·exact g2 j hj (s3 _ _ p)
 ·rintro b o (p | (p | p) | p)
  ·exact .inr (uU b o p)
  ·exact .inl p
  ·exact .inr (d1 b o p)
  ·exact .inr (uV b o p)
end
section
variable{P:Program}{Q:Exit→Act→World→Prop}
variable{w0:World}{F0 Z0:ag}{n:cM}{s av:ar}{a b5:Act}{w w':World}{ι bm:Nat→bH}{Z Z':ag}
variable{E:Env}{bB : Type}{r : bB}
theorem LK(a:Act){d:Nat}(v:Value)(af:d<a.tmps.size):(a.put (some d) v).eval (.tmp d)=v:=by show(a.tmps.setIfInBounds d v).getD d undef=v;rw [KB _ _ _ _ af,if_pos rfl]
theorem Ao(a:Act){d k:Nat}(v:Value)(af:d<a.tmps.size)(hk:d≠k):(a.put (some d) v).eval (.tmp k)=a.eval (.tmp k):=by show(a.tmps.setIfInBounds d v).getD k undef=a.tmps.getD k undef;rw [KB _ _ _ _ af,if_neg hk]
theorem T7(a:Act)(d:Nat)(v:Value):(a.put (some d) v).tmps.size=a.tmps.size:=by show(a.tmps.setIfInBounds d v).size=_;simp
theorem T8{u t:ad}{dp:List (Nat×Nat)}{p:Place}{xs:List u.D}{v:Value}{mU:List t.D}{s0:ar}(h:Inv w0 F0 Z0 n s a w ι Z)(hc:cr w Z s ι (.bM u dp (some p) xs) v)
  (hl:uC t t.own s dp (some p)=some (mU,s0)) :
  ∃(i:Nat) (T:ad) (ver:Nat) (ys:List T.D) (cU dV:Nat) (H1:ag),p.fF=some i∧s.o p.id=.row T T.own ver ys∧s0=s.bV p.id (.cm (.row T T.own ver ys))∧i<ys.length∧(ι p.id).base=some (at_ cU dV) ∧
   Inv w0 F0 Z0 n s0 a w ι Z∧fN s ι Z s0 Z∧bK w0 F0 s0 w ι Z H1∧bK w0 F0 s0 w ι Z (ag.diff (ι p.id).F H1)∧(ad.sl t).au w Z (.O t.own) mU [v] H1∧ag.sub H1 (ι p.id).F ∧
   ag.diff (ι p.id).F H1 cU (dV+i*T.size+p.off)∧gb w T.size cU (dV+i*T.size+p.off) ∧
   ∀(ch:World) (bQ X:ag) (y:List t.D) (bz:T.D) (q:Value),cf w ch (fun b o=>ag.diff (ι p.id).F H1 b o∧¬(b=cU∧o=dV+i*T.size+p.off))→ch.cell? (at_ cU (dV+i*T.size+p.off))=some q →
    gb ch T.size cU (dV+i*T.size+p.off)→(ad.sl t).au ch bQ (.O t.own) y [q] X→ag.apart X (ag.diff (ι p.id).F H1)→T.setAt p.off t y (I T ys i)=some bz →
    nB ch (T.au ch bQ T.own) T.size (ys.set i bz) (at_ cU dV) (ι p.id).cap (X.or (ag.diff (ι p.id).F H1)):=by
 simp only [uC] at hl
 cases ff:p.fF with
 | none=>rw [ff] at hl;simp at hl
 | some i=>
  rw [ff] at hl
  cases ho:s.o p.id with
  | row T em ver ys=>
   rw [ho] at hl;simp only at hl;cases hb:(alive s dp&&bg.beq em T.own&&bg.beq t.own t.own)
   ·rw [hb] at hl;simp at hl
   rw [hb] at hl;simp only [cond_true] at hl;simp only [Bool.and_eq_true] at hb;obtain rfl:=bg.eq_of_beq _ _ hb.1.2;obtain ⟨x,hx,hl⟩:=bd hl;simp only [Option.some.injEq,Prod.mk.injEq] at hl;obtain ⟨rfl,rfl⟩:=hl;obtain ⟨_,_,_,lv⟩:=hc;obtain ⟨_,lv⟩:=lv _ rfl;obtain ⟨jl,dK,⟨_,gl⟩,hcell,hin⟩:=lv hb.1.1;simp only [ho,cB.core] at gl;obtain ⟨ei,hii,lx,a0,eP,nN⟩:=gl;rw [ff] at hii;obtain rfl:=aW hii;have ck:(s.o p.id).live:=by rw [ho];trivial
   have aC:fN s ι Z (s.bV p.id (.cm (.row T T.own ver ys))) Z:=by have:=Aa (s:=s) (ι := ι) (Z:=Z) ck;rw [ho] at this;exact this
   have fs:bK w0 F0 (s.bV p.id (.cm (.row T T.own ver ys))) w ι Z (ι p.id).F:=by have:=h.Ab ck;rw [ho] at this;exact this
   have c7:=h.gf p.id;rw [ho] at c7;rcases c7 with⟨hx0,_⟩ | ⟨a1,hb1,hr⟩
   ·rw [hx0] at lx;simp at lx
   rw [eP] at hb1;obtain rfl:=aW hb1;obtain ⟨ab,ao,sp⟩:=a0;have hsp:=hr.spot;simp only at hsp;subst hsp;obtain ⟨eY,H1,ea,eV,oR,afe,aff,pV⟩:=hr.u1 lx hx;rw [← nN] at ea;have Lk:eY=v:=by rw [hcell] at ea;exact(aW ea).symm
   subst Lk;exact⟨i,T,ver,ys,ab,ao,H1,rfl,rfl,rfl,lx,eP,h.mN aC,aC,fs.sub oR,fs.sub fun _ _ h=>h.1,eV,oR,afe,aff,pV⟩
  | _=>rw [ho] at hl;simp at hl
theorem afg{v:ba}{K:Place→Option bB}(hk:Kq s v K=some r):∃j1,K j1=some r∧∀ {w':World} {Z':ag} {av:ar} {bm:Nat→bH} {x:Value},aT w' Z' av bm v x→∃A,x=.pointer (some A)∧jI av bm j1 A:=by
 unfold Kq at hk;cases v <;> simp only at hk <;> try (cases hk;done)
 ·exact⟨_,hk,fun hv=>by simp only [aT] at hv;exact hv.2⟩
 ·obtain ⟨k,h1,hk⟩:=bd hk;obtain ⟨h2,rfl⟩:=T5 h1;refine⟨_,hk,fun hv=>?_⟩;simp only [aT] at hv;rcases hv.2 with⟨h3,_⟩ | ⟨_,h3⟩
  ·omega
  ·exact h3
theorem afh{dK:Oper}{T:ad}{k1 d0 i ver cU dV:Nat}{p j1:Place}{ys:List T.D}{hv:Value}{s1:ar}(mV:dK.op=.nilCheck (.tmp k1))(gQ:k1≠d0)(jv:d0<n.n)(sX:j1.id=p.id)(DT:j1.fF=some i)(sY:Inv w0 F0 Z0 n s1 a w' ι Z)
  (LL:∀ {w':World} {Z':ag} {av:ar} {bm:Nat→bH} {x:Value},aT w' Z' av bm (s1.t k1) x→∃A,x=.pointer (some A)∧jI av bm j1 A)
  (p5:s1.o p.id=.cm (.row T T.own ver ys)) (eP:(ι p.id).base=some (at_ cU dV)):(execOp (a.put (some d0) hv).eval dK).run P w'=.ok (.value (.pointer (some (at_ cU (dV+i*T.size+j1.off))))) w':=by
 obtain ⟨atx,afi,hsp,nY⟩:=LL (sY.tmps k1);rw [sX,p5] at nY;simp only [cB.core] at nY;obtain ⟨ei,hii,_,a0,gx,LN⟩:=nY;rw [hii] at DT;obtain rfl:=aW DT;rw [eP] at gx;obtain rfl:=aW gx;subst LN;have:(a.put (some d0) hv).eval (.tmp k1)=.pointer (some (at_ cU (dV+ei*T.size+j1.off))):=by rw [Ao _ _ (by rw [sY.size];exact jv) (Ne.symm gQ)];exact afi
 unfold execOp;rw [mV];simp only [this];rfl
theorem T9{dK eT e5:Oper}{ak:aA}{t T u:ad}{d0 d1 d2 nC nD oL k i ver cU dV:Nat}{p:Place}{po:Nat}{ys:List T.D}{y:List t.D}{hv:Value}{G p6:ag}{s1 DU:ar}{A:Option Addr}{x4 afj:Nat}{K:ar→Option bB}(bR:j5 P E)
  (kn:eT.op=.fieldAddr nC (.tmp d1) oL) (rh:e5.op=.store nD (.tmp d2) (.tmp d0)) (gv:dK.dst=some d1) (iQ:eT.dst=some d2) (oY:e5.dst=none)
  (hp:d0≠d1) (h5:d0≠d2) (jv:d0<n.n) (mW:d1<n.n) (mX:d2<n.n) (u2:E.ty nC=some (.st ak)) (u3:E.ty nD=some (.sl t)) (fM:ak.off oL=some (k,u)) (hz:u.size≠0)
  (n0:po+k=p.off) (ff:p.fF=some i) (lx:i<ys.length) (sY:Inv w0 F0 Z0 n s1 a w' ι Z)
  (LO:(execOp (a.put (some d0) hv).eval dK).run P w'=.ok (.value (.pointer (some (at_ cU (dV+i*T.size+po))))) w')
  (p5:s1.o p.id=.cm (.row T T.own ver ys)) (eP:(ι p.id).base=some (at_ cU dV)) (p7:hv=.slice A afj x4) (cS:(ad.sl t).au w' Z (.O t.own) y [hv] G)
  (p8:bK w0 F0 s1 w' ι Z G) (l_:bK w0 F0 s1 w' ι Z p6) (x5:ag.apart G p6) (x6:p6 cU (dV+i*T.size+p.off)) (DV:gb w' T.size cU (dV+i*T.size+p.off))
  (x7:∀(ch:World) (bQ X:ag) (y:List t.D) (bz:T.D) (q:Value),cf w' ch (fun b o=>p6 b o∧¬(b=cU∧o=dV+i*T.size+p.off))→ch.cell? (at_ cU (dV+i*T.size+p.off))=some q→gb ch T.size cU (dV+i*T.size+p.off) →
   (ad.sl t).au ch bQ (.O t.own) y [q] X→ag.apart X p6→T.setAt p.off t y (I T ys i)=some bz→nB ch (T.au ch bQ T.own) T.size (ys.set i bz) (at_ cU dV) (ι p.id).cap (X.or p6))
  (hbk:xn t y (((s1.set d0 .aB).set d1 .aB).set d2 .aB) (some p)=some DU) (hk:K DU=some r) :
  dK.wp P (a.put (some d0) hv) w' (fun a w=>eT.wp P a w (fun a w=>e5.wp P a w (fun a w=>∃av,K av=some r∧c5 w0 F0 Z0 n av a w) Q) Q) Q:=by
 have hcl:hv.cells = #[hv]:=by rw [p7];rfl
 have o1:ep hv=true:=by rw [p7];rfl
 have hsz:=sY.size;have afk:Inv w0 F0 Z0 n (s1.set d0 .aB) (a.put (some d0) hv) w' ι Z:=sY.set (by simp only [aT]) jv;have DW:(a.put (some d0) hv).tmps.size=n.n:=by rw [T7];exact hsz
 unfold Oper.wp;rw [LO,Oper.upon_value,gv];obtain ⟨a2,Ap⟩:∃a2,a2=(a.put (some d0) hv).put (some d1) (.pointer (some (at_ cU (dV+i*T.size+po)))):=⟨_,rfl⟩
 rw [← Ap];have T_:a2.tmps.size=n.n:=by rw [Ap,T7];exact DW
 have ri:a2.eval (.tmp d1)=.pointer (some (at_ cU (dV+i*T.size+po))):=by rw [Ap];exact LK _ _ (by rw [DW];exact mW)
 have afl:a2.eval (.tmp d0)=hv:=by rw [Ap,Ao _ _ (by rw [DW];exact mW) (Ne.symm hp)];exact LK _ _ (by rw [hsz];exact jv)
 obtain ⟨pos,gG⟩:∃pos,pos=dV+i*T.size+p.off:=⟨_,rfl⟩
 rw [← gG] at x6 DV x7;have afm:(execOp a2.eval eT).run P w'=.ok (.value (.pointer (some (at_ cU pos)))) w':=by obtain ⟨cD,hu,lq⟩:=KV (bR.ty.ty nC _ u2);obtain ⟨aty,h1,h2,h3⟩:=aA.Dl lq fM;rw [Array.getElem?_toList] at h1;unfold execOp;rw [kn];refine gk ?_;simp only [Instr.fieldAt,run_bind,run_underlying hu,h1,Instr.sureAddr,ri,run_pure,SY h3 hz,h2,Nat.zero_add];rw [gG,← n0,Nat.add_assoc]
 rw [afm,Oper.upon_value,iQ];obtain ⟨a3,DX⟩:∃a3,a3=a2.put (some d2) (.pointer (some (at_ cU pos))):=⟨_,rfl⟩
 rw [← DX];have afn:a3.eval (.tmp d2)=.pointer (some (at_ cU pos)):=by rw [DX];exact LK _ _ (by rw [T_];exact mX)
 have afo:a3.eval (.tmp d0)=hv:=by rw [DX,Ao _ _ (by rw [T_];exact mX) (Ne.symm h5)];exact afl
 have DY:Inv w0 F0 Z0 n (((s1.set d0 .aB).set d1 .aB).set d2 .aB) a3 w' ι Z:=by rw [DX,Ap];exact(afk.set (by simp only [aT]) mW).set (by simp only [aT]) mX
 have Ua:(execOp a3.eval e5).run P w'=.ok .skip (setCells w' cU pos [hv]):=by
  unfold execOp;rw [rh]
  have:=KS (P:=P) (w:=w') (bR.ty.ty nD _ u3) (b:=cU) (o:=pos) (v:=hv) (by rw [hcl];rfl) (by rw [hcl];intro u hu;simp at hu;rw [hu];exact o1) (fun j hj=>by
   rw [hcl] at hj;have:j=0:=by simp at hj;omega
   subst this;exact DV.1)
  rw [hcl] at this;simp only [Instr.storeAt,Instr.sureAddr,afn,afo,run_bind,run_pure,this]
 have LP:bK w0 F0 (((s1.set d0 .aB).set d1 .aB).set d2 .aB) w' ι Z p6:=⟨l_.own,l_.apart,l_.db⟩;have p8:bK w0 F0 (((s1.set d0 .aB).set d1 .aB).set d2 .aB) w' ι Z G:=⟨p8.own,p8.apart,p8.db⟩;obtain ⟨p9,hw3⟩:∃p9,p9=setCells w' cU pos [hv]:=⟨_,rfl⟩
 rw [← hw3] at Ua
 have hx3:Ext w' p9 (ag.run cU pos 1):=by
  rw [hw3]
  exact oF cU [hv] w' pos fun j hj=>by
   have:j=0:=by simp at hj;omega
   subst this;exact⟨rfl,by omega,by omega⟩
 have Ub:ag.sub (ag.run cU pos 1) p6:=by
  rintro b o ⟨rfl,k2,k3⟩
  rw [show o=pos by omega];exact x6
 have LQ:Inv w0 F0 Z0 n (((s1.set d0 .aB).set d1 .aB).set d2 .aB) a3 p9 ι Z:=DY.Dr (LP.sub Ub) hx3
 have afp:p9.cell? (at_ cU pos)=some hv:=by
  rw [hw3,xy cU [hv] w' pos (fun j hj=>by
   have:j=0:=by simp at hj;omega
   subst this;exact DV.1.1),if_pos ⟨rfl,by omega,by simp⟩]
  simp
 have afq:cf w' p9 G:=cf.jk hx3 (fun b o aC=>(p8.own b o aC).2) fun b o aC hr=>x5 b o aC (Ub b o hr)
 have afr:(ad.sl t).au p9 Z (.O t.own) y [hv] G:=ra (.sl t) afq cS
 have Aq:cf w' p9 (fun b o=>p6 b o∧¬(b=cU∧o=pos)):=by
  refine cf.jk hx3 (fun b o hb=>(LP.own b o hb.1).2) ?_
  rintro b o ⟨_,hne⟩ ⟨rfl,k2,k3⟩
  exact hne ⟨rfl,by omega⟩
 have LR:(((s1.set d0 .aB).set d1 .aB).set d2 .aB).o p.id=.cm (.row T T.own ver ys):=p5;simp only [xn,ff] at hbk;rw [LR] at hbk;simp only at hbk;obtain ⟨z,afs,hbk⟩:=bd hbk;obtain rfl:=aW hbk
 obtain ⟨Uc,Ud,_⟩:=Ag LQ (id:=p.id) (o:=.row T T.own (ver+1) (ys.set i z)) (i:=⟨(ι p.id).base,(ι p.id).cap,G.or p6⟩) (by rw [LR];exact fun h=>h) (fun o'=>by simp) (by rw [LR];exact .sD _ _ _ _ _ _ _ _ _ (by omega) (by simp) rfl rfl)
  (fun hm=>.inr ⟨at_ cU dV,eP,x7 p9 Z G y z hv Aq afp (hx3.kL DV) afr x5 afs⟩) ((p8.ext hx3).or (LP.ext hx3))
 refine Oper.wp_mono (fun a w hs=>⟨_,hk,?_⟩) (wp_skip Ua Ud (fun k hk=>by rw [oY] at hk;cases hk));rw [oY] at hs;exact hs
def x8(s:ar)(ι : Nat→bH)(X:ag):ag:=fun b o=>X b o∨∃id,(s.o id).live∧(ι id).F b o
theorem Inv.here(h:Inv w0 F0 Z0 n s a w ι Z)(X:ag):Inv w (x8 s ι X) Z n s a w ι Z:=
 ⟨Ext.refl _ _,fun _ _ hz=>.inl hz,fun _ _ h=>h,h.ji,h.gf,fun id hl b o hf=>⟨.inl (.inr ⟨id,hl,hf⟩),(h.own id hl b o hf).2⟩,h.apart,h.db,h.tmps,h.size,h.ghost,h.seen,h.defers⟩
theorem DZ(h:Inv w0 F0 Z0 n s a w ι Z){X:ag}(hX:bK w0 F0 s w ι Z X){b o:Nat}(hf:x8 s ι X b o∨w.heap.size≤b):F0 b o∨w0.heap.size≤b:=by
 have hsz:=h.ext.size;rcases hf with(hf | ⟨id,hl,hf⟩) | hf
 ·exact(hX.own b o hf).1
 ·exact(h.own id hl b o hf).1
 ·exact .inr (by omega)
theorem Inv.aft(h:Inv w0 F0 Z0 n s a w ι Z){X:ag}(hX:bK w0 F0 s w ι Z X)(h':Inv w (x8 s ι X) Z n av b5 w' bm Z'):Inv w0 F0 Z0 n av b5 w' bm Z':=by
 refine⟨h.ext.trans' h'.ext fun i o hf=>DZ h hX (.inl hf),fun b o hz=>?_,fun b o hz=>h'.sC b o (h.sC b o hz),h'.ji,h'.gf,fun id hl b o hf=>⟨DZ h hX (h'.own id hl b o hf).1,(h'.own id hl b o hf).2⟩,h'.apart,h'.db,h'.tmps,h'.size,h'.ghost,h'.seen,h'.defers⟩;rcases h'.dL b o hz with h1 | h1
 ·exact h.dL b o h1
 ·exact .inr (DZ h hX h1)
theorem afu{o dK eT e5:Oper}{c:Call}{ak:aA}{t u ul:ad}{d0 d1 d2 nC nD oL k i id:Nat}{p:Place}{po:Nat}{dp:List (Nat×Nat)}{LS:List ul.D}{vb:ba}{cb:bb}{M:ar→Bool}{K:ar→Option bB}(bR:j5 P E)(h:Inv w0 F0 Z0 n s a w ι Z)
  (ho:o.op=.call c) (hc:c.callee=.builtin .append) (l5:c.args.toList.map (bZ s)=[.aV (.bM ul dp (some p) LS),vb]) (gS:xq E c.argTypes.toList=some t) (uS:oneCell t vb=some cb) (u4:o.dst=some d0)
  (kn:eT.op=.fieldAddr nC (.tmp d1) oL) (rh:e5.op=.store nD (.tmp d2) (.tmp d0)) (gv:dK.dst=some d1) (iQ:eT.dst=some d2) (oY:e5.dst=none)
  (hp:d0≠d1) (h5:d0≠d2) (jv:d0<n.n) (mW:d1<n.n) (mX:d2<n.n) (u2:E.ty nC=some (.st ak)) (u3:E.ty nD=some (.sl t)) (fM:ak.off oL=some (k,u)) (hz:u.size≠0)
  (n0:po+k=p.off) (Ar:p.fF=some i)
  (LO:∀ {T:ad} {ver cU dV:Nat} {ys:List T.D} {s1:ar} {dD:Nat→bH} {cH:ag} {n1:World} {hv:Value},Inv w0 F0 Z0 n s1 a n1 dD cH→s1.t=s.t→s1.o p.id=.cm (.row T T.own ver ys)→s.o p.id=.row T T.own ver ys→(dD p.id).base=some (at_ cU dV) →
   (execOp (a.put (some d0) hv).eval dK).run P n1=.ok (.value (.pointer (some (at_ cU (dV+i*T.size+po))))) n1)
  (hk:Ku id t p dp s cb d0 d1 d2 M K=some r) :
  o.wp P a w (fun a w=>(∃oM,M oM=true∧c5 w0 F0 Z0 n oM a w)∧dK.wp P a w (fun a w=>eT.wp P a w (fun a w=>e5.wp P a w (fun a w=>∃av,K av=some r∧c5 w0 F0 Z0 n av a w) Q) Q) Q) Q:=by
 have hvs:=uR h c.args.toList;have Ue:(c.args.map a.eval).toList=c.args.toList.map a.eval:=by simp
 rw [l5] at hvs;simp only [a'] at hvs;obtain ⟨TH,_,he,nR,aeE,_,rfl,Lc,rfl⟩:=hvs;simp only [aT] at nR;obtain ⟨hY,il,rest,e,mM,hu,cl,kq⟩:=TG bR.ty gS;have hb1:=Lb uS Lc;unfold Ku at hk
 cases q_:added s t cb with
 | none=>rw [q_] at hk;cases hk
 | some q=>
 obtain ⟨kO,ys,s1⟩:=q;rw [q_] at hk;simp only at hk;cases mI:bg.beq kO t.own
 ·rw [mI] at hk;cases hk
 rw [mI] at hk;simp only [cond_true] at hk;obtain rfl:=bg.eq_of_beq _ _ mI;obtain ⟨⟨mU,s2⟩,iP,hk⟩:=bd hk;obtain ⟨s3,nL,hk⟩:=bd hk;obtain ⟨hroom,hk⟩:=sM hk;cases jN:M (s3.set d0 .aB)
 ·rw [jN] at hk;cases hk
 rw [jN] at hk;simp only [cond_true] at hk;obtain ⟨DU,hbk,LU⟩:=bd hk;obtain ⟨cj,rfl⟩:=q6 nL;simp only at cj hbk hroom;obtain ⟨vs,hD,hlen,q',hels,h1,hs1,oU⟩:=Ty (P:=P) q_ h hb1;have hc1:cr w Z s1 ι (.bM ul dp (some p) LS) TH:=cr.move hs1.eC nR;obtain ⟨ei,T,ver,As,cU,dV,H1,ff,eb,oV,lx,eP,i0,D0,u5,l_,LV,Uf,x6,LW,x7⟩:=T8 h1 hc1 iP;rw [ff] at Ar;obtain rfl:=aW Ar;have D1:=oU.uW D0;have Ug:(s1.o p.id).live:=by rw [eb];trivial
 have l6:ag.apart H1 hD:=fun b o x y=>oU.apart p.id Ug b o y (Uf b o x)
 have Uh:=u5.or D1;have afv:bK w (x8 s2 ι (H1.or hD)) s2 w ι Z H1:=⟨fun b o x=>⟨.inl (.inl (.inl x)),(u5.own b o x).2⟩,u5.apart,u5.db⟩;have afw:bK w (x8 s2 ι (H1.or hD)) s2 w ι Z hD:=⟨fun b o x=>⟨.inl (.inl (.inr x)),(D1.own b o x).2⟩,D1.apart,D1.db⟩
 obtain ⟨eY,w',mY,hrun,hinv,hcell⟩:=TA (P:=P) (id:=id) (ty:=o.type) (ats:=c.argTypes) (args:=c.args.map a.eval) (by rw [← Array.getElem?_toList,mM];rfl) (by rw [← Array.getElem?_toList,mM];rfl)
  (by rw [← Array.getElem?_toList,Ue,he];rfl) (by rw [← Array.getElem?_toList,Ue,he];rfl) hu cl kq (Nat.le_of_ble_eq_true hroom) (i0.here _) cj LV hels afv afw l6 hlen q'
 have kQ:taken (s2.bV id (.row t t.own 0 (mU++ys))) t (.af id none)=some (t.own,mU++ys,(s2.bV id (.row t t.own 0 (mU++ys))).bV id .dead):=by simp only [taken];rw [show(s2.bV id (.row t t.own 0 (mU++ys))).o id=.row t t.own 0 (mU++ys) from cL _ _ _];simp only [lj];rw [afa];rfl
 obtain ⟨G,Ui,i4,atz,x9,atA⟩:=Tz kQ hinv hcell
 have afx:(s2.bV id (.row t t.own 0 (mU++ys))).bV id .dead=s2.bV id .dead:=by
  show { s2 with o:=bW (bW s2.o id _) id cB.dead } = { s2 with o:=bW s2.o id cB.dead };congr 1
  funext j
  by_cases hj:j=id
  ·subst hj;rw [cL,cL]
  ·rw [su hj,su hj,su hj]
 rw [afx] at i4 x9;have Uj:p.id≠id:=by intro e0;rw [oV] at cj;rw [show(s1.bV p.id (.cm (.row T T.own ver As))).o id=.cm (.row T T.own ver As) from by rw [e0];exact cL _ _ _] at cj;cases cj
 have Uk : bW ι id mY p.id = ι p.id:=su Uj;have i5:=i0.aft Uh i4
 have hcl:∀j,((s2.bV id .dead).o j).live→j≠id∧(s2.o j).live:=by
  intro j hj;by_cases kS:j=id
  ·subst kS;rw [show(s2.bV j .dead).o j=.dead from cL _ _ _] at hj;exact hj.elim
  ·rw [show(s2.bV id .dead).o j=s2.o j from su kS] at hj;exact⟨kS,hj⟩
 have LX:=hinv.ext
 have hap:∀b o,ag.diff (ι p.id).F H1 b o→x8 s2 ι (H1.or hD) b o→False:=by
  rintro b o af ((hf | hf) | ⟨j,hj,hf⟩)
  ·exact af.2 hf
  ·exact oU.apart p.id Ug b o hf af.1
  ·exact l_.apart j hj b o af hf
 have p8:bK w0 F0 (s2.bV id .dead) w' (bW ι id mY) Z G:=⟨fun b o x=>⟨DZ i0 Uh (x9.own b o x).1,(x9.own b o x).2⟩,x9.apart,x9.db⟩;have afy:bK w0 F0 (s2.bV id .dead) w' (bW ι id mY) Z (ag.diff (ι p.id).F H1):=by refine⟨(l_.ext LX).own,fun j hj b o x y=>?_,l_.db⟩;obtain ⟨LY,ma⟩:=hcl j hj;rw [su LY] at y;exact l_.apart j ma b o x y
 have x5:ag.apart G (ag.diff (ι p.id).F H1):=by
  intro b o aC af;rcases (x9.own b o aC).1 with hf | hf
  ·exact hap b o af hf
  ·have:=(l_.own b o af).2;omega
 have Aq:cf w w' (ag.diff (ι p.id).F H1):=cf.jk LX (fun b o hb=>(l_.own b o hb).2) hap;have At:=Ui;simp only [ad.au] at At;obtain ⟨A,x4,p7,_⟩:=At;have p7:eY=.slice A (mU++ys).length x4:=by simpa using p7
 have afz:(execOp a.eval o).run P w=.ok (.value eY) w':=by unfold execOp;rw [ho];simp only [run_bind,resolve,hc,run_pure,invoke];unfold builtin;exact gk hrun
 have ht:(s2.bV id .dead).t=s.t:=by show s2.t=s.t;rw [oV];exact hs1.t
 unfold Oper.wp;rw [afz,Oper.upon_value,u4];have afA:s2.o p.id=.cm (.row T T.own ver As):=by rw [oV];exact cL _ _ _
 have Ul:(s2.bV id .dead).o p.id=.cm (.row T T.own ver As):=by rw [show(s2.bV id .dead).o p.id=s2.o p.id from su Uj];exact afA
 have Um:(bW ι id mY p.id).base=some (at_ cU dV):=by rw [Uk];exact eP
 have D2:s.o p.id=.row T T.own ver As:=by
  rcases hs1.o p.id with h2 | ⟨_,h2⟩
  ·rw [← h2];exact eb
  ·rw [h2] at eb;cases eb
 refine⟨⟨_,jN,bW ι id mY,Z,i5.set (by simp only [aT]) jv⟩,?_⟩
 exact T9 bR kn rh gv iQ oY hp h5 jv mW mX u2 u3 fM hz n0 ff lx i5 (LO i5 ht Ul D2 Um) Ul Um p7 Ui p8 afy x5 x6 (LX.kL LW)
  (by rw [Uk];exact fun ch bQ X y bz q hs=>x7 ch bQ X y bz q ((Aq.mono fun _ _ h=>h.1).trans hs)) hbk LU
set_option maxHeartbeats 1000000 in
theorem afB{o:Oper}{l:List Oper}{K:ar→Option bB}(bR:j5 P E)(hn:E.n=n)(h:Inv w0 F0 Z0 n s a w ι Z)(hk:Kr E s o l K=some r) :
  ∃dK eT e5 l',l=dK :: eT :: e5 :: l'∧o.guard=none∧dK.guard=none∧eT.guard=none∧e5.guard=none ∧
   o.wp P a w (fun a w=>dK.wp P a w (fun a w=>eT.wp P a w (fun a w=>e5.wp P a w (fun a w=>∃av,K av=some r∧c5 w0 F0 Z0 n av a w) Q) Q) Q) Q:=by
 unfold Kr at hk;split at hk
 case h_2=>cases hk
 rename_i dK eT e5 l';refine⟨dK,eT,e5,l',rfl,?_⟩;split at hk
 case h_2=>cases hk
 rename_i c k1 nC e1 oL nD e2 e0 ho mV kn rh;split at hk
 case h_2=>cases hk
 rename_i cd d0 d1 d2 hc u4 gv iQ;cases hb:xv E o dK eT e5 k1 e1 e2 e0 d0 d1 d2
 ·rw [hb] at hk;cases hk
 rw [hb] at hk;simp only [cond_true] at hk;unfold xv at hb;simp only [Bool.and_eq_true,Bool.not_eq_true',Option.isNone_iff_eq_none] at hb;obtain ⟨D3,c0,d_,gQ,hp,h5,g0,g1,g2,g3,oY,jv,mW,mX⟩:=hb;obtain rfl:=Nat.eq_of_beq_eq_true D3;obtain rfl:=Nat.eq_of_beq_eq_true c0;obtain rfl:=Nat.eq_of_beq_eq_true d_;have gQ:k1≠d0:=Nat.ne_of_beq_eq_false gQ;have hp:d0≠d1:=Nat.ne_of_beq_eq_false hp;have h5:d0≠d2:=Nat.ne_of_beq_eq_false h5;have jv:d0<n.n:=by rw [← hn];exact Nat.le_of_ble_eq_true jv
 have mW:d1<n.n:=by rw [← hn];exact Nat.le_of_ble_eq_true mW
 have mX:d2<n.n:=by rw [← hn];exact Nat.le_of_ble_eq_true mX
 refine⟨g0,g1,g2,g3,?_⟩;split at hk
 case h_2=>cases hk
 rename_i g ak t DS u2 u3;split at hk
 case h_2=>cases hk
 rename_i e k u p Un fM lv;obtain ⟨j1,hk,LL⟩:=afg hk;cases gl:(!(Nat.beq u.size 0)&&(Nat.beq j1.id p.id&&Nat.beq (j1.off+k) p.off))
 ·rw [gl] at hk;cases hk
 rw [gl] at hk;simp only [cond_true] at hk;simp only [Bool.and_eq_true,Bool.not_eq_true'] at gl;obtain ⟨hz,sX,n0⟩:=gl;have hz:u.size≠0:=Nat.ne_of_beq_eq_false hz;have sX:j1.id=p.id:=Nat.eq_of_beq_eq_true sX;have n0:j1.off+k=p.off:=Nat.eq_of_beq_eq_true n0;split at hk
 case h_2=>cases hk
 rename_i afC afD DT Ar;cases rj:Nat.beq afC afD
 ·rw [rj] at hk;cases hk
 rw [rj] at hk;simp only [cond_true] at hk;have hvs:=uR h c.args.toList;have hf:=fe h cd;rw [DS] at hf;simp only [aT] at hf;obtain ⟨cD,cs,LG,lq,hcs⟩:=hf;simp only [a'] at lq hcs;subst lq hcs
 cases LZ:c.args.toList.map (bZ s) with
 | nil=>rw [LZ] at lv;cases lv
 | cons v0 bI=>
  rw [LZ] at lv hk hvs
  cases v0 with
  | aV S7=>
   cases S7 with
   | bM dC dp cI xs=>
    simp only [xt] at lv;subst lv;simp only [a'] at hvs;obtain ⟨kR,aX,hus,p2,Uo⟩:=hvs;simp only [aT] at p2;rw [LZ] at Un;obtain ⟨ps,rs,f⟩:=e
    cases hm:xu (pQ (ba.aV (bb.bM dC dp (some p) xs) :: bI)) s t ps (ba.aV (bb.bM dC dp (some p) xs) :: bI++lU (ba.aV (bb.bM dC dp (some p) xs) :: bI)) with
    | none=>rw [hm] at hk;cases hk
    | some X=>
     obtain ⟨x,s1,bt⟩:=X;rw [hm] at hk;simp only at hk;cases dF:(alive s1 bt&&oK (ba.aV (bb.bM dC dp (some p) xs) :: bI))
     ·rw [dF] at hk;cases hk
     rw [dF] at hk;simp only [cond_true] at hk;simp only [Bool.and_eq_true] at dF;obtain ⟨dF,LB⟩:=dF;obtain ⟨a_,eD,hk⟩:=bd hk;obtain ⟨y,aR,hk⟩:=bd hk;obtain ⟨DU,hbk,LU⟩:=bd hk;have LC:=bR.fns g _ _ Un
     cases ps with
     | nil=>simp [xu] at hm
     | cons sp ps=>
      cases sp with
      | val T m=>
       cases T with
       | sl cO=>
        simp only [List.cons_append,xu] at hm;cases D4:(bg.beq m (.O cO.own)&&(ad.beq t cO&&Kp ps))
        ·rw [D4] at hm;cases hm
        rw [D4] at hm;simp only [cond_true] at hm;simp only [Bool.and_eq_true] at D4;obtain ⟨sR,sL,atB⟩:=D4;obtain rfl:=bg.eq_of_beq _ _ sR;obtain rfl:=ad.eq_of_beq _ _ sL;obtain ⟨⟨mU,s0⟩,iP,hm⟩:=bd hm;obtain ⟨q,hq,hm⟩:=bd hm;obtain ⟨c0,atC,nG⟩:=q;simp only [Option.some.injEq,Prod.mk.injEq] at hm;obtain ⟨rfl,rfl,rfl⟩:=hm;obtain ⟨i,T,ver,ys,cU,dV,H1,ff,eb,hs0,lx,eP,i0,D0,u5,l_,LV,Uf,x6,LW,x7⟩:=T8 h p2 iP;have D2:s0.o p.id=.cm (.row T T.own ver ys):=by rw [hs0];exact cL _ _ _
        have afE:a' w Z s ι (lU (ba.aV (bb.bM dC dp (some p) xs) :: bI)) (gp (kR :: aX)):=Lx LB (by simp only [a'];exact⟨kR,aX,rfl,by simpa only [aT] using p2,Uo⟩);have atD:∃A m' c',kR=.slice A m' c':=p2.2.1
        obtain ⟨mT,e8,cH,i1,x_,Up,_,Uq,_,_,_,afF,src⟩:=rf ps _ _ s0 Z [] _ hq i0 (a'.move D0.eC (Uo.append afE)) (by simp);simp only at i1 x_ Up Uq afF src;have afG:=u5.uW x_;have L0:=l_.uW x_;have ck:=DO dF;have u6:bK w0 F0 s1 w ι cH (H1.or mT):=afG.or Uq;have L1:∀ {X:ag},bK w0 F0 s0 w ι Z X→∀b o,X b o→mT b o→False:=by intro X hX b o hx hj;obtain ⟨id,hl,hf⟩:=src b o (.inl hj);exact hX.apart id hl b o hx hf
        have hA:gF w (cH.or (dt ι bt)) (pQ (ba.aV (bb.bM dC dp (some p) xs) :: bI)) (.val (.sl t) (.O t.own) :: ps) (mU,c0) (c.args.toList.map a.eval++gp (c.args.toList.map a.eval)) (H1.or mT):=by rw [hus];exact⟨[kR],aX++gp (kR :: aX),H1,mT,rfl,ad.au.mono (fun b o hz=>.inl (x_.dL b o hz)) _ _ (fun _ _ h=>h) LV,Up,fun b o x y=>L1 u5 b o x y,fun _ _ h=>.inl h,fun _ _ h=>.inr h⟩
        obtain ⟨rfl,rfl⟩:∃e:rs=[.val (.sl t) (.O t.own)],y=(e ▸ a_:(c4.outs [.val (.sl t) (.O t.own)] (bD.ef (.val (.sl t) (.O t.own) :: ps))).D).1:=by
         cases rs with
         | nil=>simp [zR] at aR
         | cons DG rs=>
          cases DG with
          | val jr L2=>
           cases rs with
           | cons=>simp [zR] at aR
           | nil=>
            simp only [zR] at aR;cases mI:bg.beq L2 (.O t.own)
            ·rw [mI] at aR;cases aR
            rw [mI] at aR;obtain rfl:=bg.eq_of_beq _ _ mI;obtain ⟨e,rfl⟩:=C_ aR;subst e;exact⟨rfl,rfl⟩
          | _=>simp [zR] at aR
        have hcall:=LC.calls w (cH.or (dt ι bt)) (H1.or mT) (mU,c0) (c.args.toList.map a.eval) a_
         (by
          rintro b o (hz | ⟨d,af,hf⟩)
          ·exact i1.ji b o hz
          ·exact(i1.own d.1 (ck d af) b o hf).2)
         (fun b o hf=>(u6.own b o hf).2)
         (by
          rintro b o hf (hz | hz)
          ·exact u6.db b o hf hz
          ·exact u6.dt ck b o hf hz) hA eD
        suffices key:∀(eY:Value) (w':World),Ends w (cH.or (dt ι bt)) (H1.or mT) ⟨.val (.sl t) (.O t.own) :: ps,[.val (.sl t) (.O t.own)],f⟩ (c.args.toList.map a.eval) a_ eY w' →
          dK.wp P (a.put o.dst eY) w' (fun a w=>eT.wp P a w (fun a w=>e5.wp P a w (fun a w=>∃av,K av=some r∧c5 w0 F0 Z0 n av a w) Q) Q) Q by
         unfold Oper.wp;have hrun:(execOp a.eval o).run P w=(callFunc g (c.args.toList.map a.eval).toArray).run P w:=by unfold execOp;rw [ho];simp only [run_bind,resolve,hc,LG,Deferred.ofValue,run_pure,invoke];congr 2;apply Array.ext';simp
         rw [hrun];rcases hcall with⟨⟨fn,An,LI,ju⟩,hcall⟩ | ⟨atE,w',u0,gU,z_,hu⟩
         ·have LJ:(callFunc g (c.args.toList.map a.eval).toArray).run P w=.ok (.enter g (c.args.toList.map a.eval).toArray) w:=by
           simp only [callFunc,run_bind,run_pure,program,Sem.run,An];rw [if_neg (by rw [ju];simp),if_neg (by rw [LI];simp)];simp only [run_pure]
          rw [LJ,Oper.upon_enter];refine hcall.mono ?_
          rintro Ur w' ⟨v9,rfl,hu⟩
          exact key v9 w' hu
         ·rw [u0,Oper.upon_value];cases z_;exact key _ w' hu
        rintro eY w' ⟨⟨dy,Z',F',rfl,hx,jL,hz2,hf2,Am,h7⟩⟩
        simp only [iy] at h7;obtain ⟨vs1,ej,G,afH,rfl,cS,⟨rfl,_⟩,_,hGF,_⟩:=h7;have At:=cS;simp only [ad.au] at At;obtain ⟨A,x4,rfl,_⟩:=At;obtain ⟨hv,p7⟩:∃hv,hv=Value.slice A a_.1.length x4:=⟨_,rfl⟩
        rw [← p7] at cS;rw [show oX [dN (.sl t) [Value.slice A a_.1.length x4]]=hv from p7.symm];have sY:Inv w0 F0 Z0 n s1 a w' ι cH:=i1.Dr u6 hx;rw [u4];have D5:s1.t=s.t:=x_.t.trans D0.t
        have p5:s1.o p.id=.cm (.row T T.own ver ys):=by
         rcases x_.o p.id with h1 | ⟨h1,_⟩
         ·rw [h1,D2]
         ·rw [D2] at h1;exact h1.elim
        rw [ff] at Ar;obtain rfl:=aW Ar;obtain rfl:=Nat.eq_of_beq_eq_true rj;have fl:ag.sub G F':=hGF
        have x5:ag.apart G (ag.diff (ι p.id).F H1):=by
         intro b o aC af;rcases (hf2 b o (fl b o aC)).1 with(hf | hf) | hf
         ·exact af.2 hf
         ·exact L1 l_ b o af hf
         ·have:=(L0.own b o af).2;omega
        have p8:bK w0 F0 s1 w' ι cH G:=by
         have atF:=i1.ext.size;refine⟨fun b o aC=>⟨?_,(hf2 b o (fl b o aC)).2⟩,fun id hl b o aC hi=>?_,fun b o aC hz=>?_⟩
         ·rcases (hf2 b o (fl b o aC)).1 with hf | hf
          ·exact(u6.own b o hf).1
          ·exact .inr (by omega)
         ·rcases (hf2 b o (fl b o aC)).1 with hf | hf
          ·exact u6.apart id hl b o hf hi
          ·have:=(i1.own id hl b o hi).2;omega
         ·rcases (hf2 b o (fl b o aC)).1 with hf | hf
          ·exact u6.db b o hf hz
          ·have:=i1.ji b o hz;omega
        have Aq:cf w w' (ag.diff (ι p.id).F H1):=cf.jk hx (fun b o hb=>(L0.own b o hb).2) (by
         rintro b o af (hf | hf)
         ·exact af.2 hf
         ·exact L1 l_ b o af hf)
        exact T9 bR kn rh gv iQ oY hp h5 jv mW mX u2 u3 fM hz n0 ff lx sY (afh mV gQ jv sX DT sY (by rw [D5];exact LL) p5 eP) p5 eP p7 (ra (.sl t) (cf.refl _ _) cS) p8 (L0.ext hx) x5 x6 (hx.kL LW)
         (fun ch bQ X y bz q hs=>x7 ch bQ X y bz q ((Aq.mono fun _ _ h=>h.1).trans hs)) hbk LU
       | _=>simp [xu] at hm
      | _=>simp [xu] at hm
   | _=>simp [xt] at lv
  | _=>simp [xt] at lv
theorem afI{dK:Oper}{T:ad}{xw k1 k2 d0 i m ver cU dV:Nat}{p:Place}{sub:Option (Nat×Nat)}{ys:List T.D}{q:Int}{hv:Value}{s1:ar}(b2:hB P E)(gS:E.ty xw=some (.sl T))(mV:dK.op=.indexAddr xw (.tmp k1) (.tmp k2))(gQ:k1≠d0)(L3:k2≠d0)(jv:d0<n.n)
  (hx:s1.t k1=.aV (.af p.id sub)) (hq:kN (s1.t k2)=some q) (hm:ix (lS sub ys) q=some m) (hi:eB sub+m=i) (h:Inv w0 F0 Z0 n s1 a w ι Z)
  (p5:s1.o p.id=.cm (.row T T.own ver ys)) (eP:(ι p.id).base=some (at_ cU dV)):(execOp (a.put (some d0) hv).eval dK).run P w=.ok (.value (.pointer (some (at_ cU (dV+i*T.size+0))))) w:=by
 obtain ⟨e,hu,jJ⟩:=l3 (b2.ty xw _ gS);have h1:=h.tmps k1;have h2:=h.tmps k2;rw [hx] at h1;simp only [aT] at h1;obtain ⟨_,A,len,c,iv,hh⟩:=h1;obtain ⟨g1,g2,g3,g4,g5⟩:=hh T T.own ver ys (by rw [p5];rfl);obtain ⟨dj,xG⟩:=sK hq h2
 have hl:lS sub ys=len:=by
  cases sub with
  | none=>simp [lS,g1]
  | some p=>obtain ⟨lo,l⟩:=p;simp [lS,g1]
 rw [hl] at hm;obtain ⟨h2,h3,rfl,h4⟩:=zW hm;rcases g5 with g5 | ⟨a0,gx,rfl⟩
 ·omega
 rw [eP] at gx;obtain rfl:=aW gx;unfold execOp;rw [mV];refine gk ?_;rw [Ao _ _ (by rw [h.size];exact jv) (Ne.symm gQ),Ao _ _ (by rw [h.size];exact jv) (Ne.symm L3)];have e1:a.eval (.tmp k1)=a.tmps.getD k1 undef:=rfl;have e2:a.eval (.tmp k2)=a.tmps.getD k2 undef:=rfl;rw [e1,e2,iv,xG];have:=KZ (P:=P) (w:=w) (A:=at_ cU (dV+eB sub*T.size)) (b:=cU) (o:=dV+eB sub*T.size) (c:=c) (k:=dj) hu jJ h2 h3;rw [← hi,Nat.add_zero,Nat.add_mul,← Nat.add_assoc];exact this
theorem afJ{o dK eT e5:Oper}{id:Nat}{M:ar→Bool}{K:ar→Option bB}(bR:j5 P E)(hn:E.n=n)(h:Inv w0 F0 Z0 n s a w ι Z)(hk:Kv E id s o dK eT e5 M K=some r) :
  o.guard=none∧dK.guard=none∧eT.guard=none∧e5.guard=none ∧
   o.wp P a w (fun a w=>(∃oM,M oM=true∧c5 w0 F0 Z0 n oM a w)∧dK.wp P a w (fun a w=>eT.wp P a w (fun a w=>e5.wp P a w (fun a w=>∃av,K av=some r∧c5 w0 F0 Z0 n av a w) Q) Q) Q) Q:=by
 unfold Kv at hk;split at hk
 case h_2=>cases hk
 rename_i c xw k1 k2 nC e1 oL nD e2 e0 ho mV kn rh;split at hk
 case h_2=>cases hk
 rename_i d0 d1 d2 hc u4 gv iQ;cases hb:(xv E o dK eT e5 k1 e1 e2 e0 d0 d1 d2 && !(Nat.beq k2 d0))
 ·rw [hb] at hk;cases hk
 rw [hb] at hk;simp only [cond_true] at hk;unfold xv at hb;simp only [Bool.and_eq_true,Bool.not_eq_true',Option.isNone_iff_eq_none] at hb;obtain ⟨⟨D3,c0,d_,gQ,hp,h5,g0,g1,g2,g3,oY,jv,mW,mX⟩,L3⟩:=hb;obtain rfl:=Nat.eq_of_beq_eq_true D3;obtain rfl:=Nat.eq_of_beq_eq_true c0;obtain rfl:=Nat.eq_of_beq_eq_true d_;have jv:d0<n.n:=by rw [← hn];exact Nat.le_of_ble_eq_true jv
 have mW:d1<n.n:=by rw [← hn];exact Nat.le_of_ble_eq_true mW
 have mX:d2<n.n:=by rw [← hn];exact Nat.le_of_ble_eq_true mX
 refine⟨g0,g1,g2,g3,?_⟩;split at hk
 case h_2=>cases hk
 rename_i nE ak t hY ul dp p LS vb afK u2 u3 gS l5;split at hk
 case h_2=>cases hk
 rename_i k u cb i sub q v em ver xs j fM uS hx1 oQ eb ff;cases gl:(ad.beq hY t&&(ad.beq nE v&&(!(Nat.beq u.size 0)&&(Nat.beq i p.id&&Nat.beq k p.off))))
 ·rw [gl] at hk;cases hk
 rw [gl] at hk;simp only [cond_true] at hk;simp only [Bool.and_eq_true,Bool.not_eq_true'] at gl;obtain ⟨ht,x0,hz,sX,n0⟩:=gl;obtain rfl:=ad.eq_of_beq _ _ ht;obtain rfl:=ad.eq_of_beq _ _ x0;obtain rfl:=Nat.eq_of_beq_eq_true sX;obtain ⟨m,hm,hk⟩:=bd hk;cases rj:Nat.beq (eB sub+m) j
 ·rw [rj] at hk;cases hk
 rw [rj] at hk;simp only [cond_true] at hk;have rj:=Nat.eq_of_beq_eq_true rj;refine afu (po:=0) bR h ho hc l5 gS uS u4 kn rh gv iQ oY (Nat.ne_of_beq_eq_false hp) (Nat.ne_of_beq_eq_false h5) jv mW mX u2 u3 fM (Nat.ne_of_beq_eq_false hz) (by rw [Nat.zero_add];exact Nat.eq_of_beq_eq_true n0) ff ?_ hk;intro T nM cU dV ys s1 dD cH n1 hv h1 D5 p5 Us hb1;rw [eb] at Us;obtain ⟨rfl,_,_,h4⟩:=cB.row.inj Us;have h4:=eq_of_heq h4;subst h4;exact afI bR.ty afK mV (Nat.ne_of_beq_eq_false gQ) (Nat.ne_of_beq_eq_false L3) jv (by rw [D5];exact hx1) (by rw [D5];exact oQ) hm rj h1 p5 hb1
end
end Go.LM
