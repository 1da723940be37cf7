/- Calls are what the interpreter says. Conditions: each theorem's own hypotheses. -/
import Derived.Test.YtlkbjdmfbadhaaaGreatDoorTLmb
set_option linter.unusedVariables false
set_option linter.unusedSimpArgs false
namespace Go.LM
def f':List Value→List Value
 | []=>[]
 | .func _ a b :: l=>a.toList++b.toList++f' l
 | _ :: l=>f' l
def gm(w:World)(Z:ag)(key:Nat):(ps:List bt)→(bt.ins ps).D→List Value→ag→Prop
 | [],_,us,_=>us=[]
 | .fn lR oL :: ps,x,us,F=>∃a b aV,us=.func (.func key) a b :: aV∧(a.size=lR∧b.size=oL)∧gm w Z key ps x aV F
 | .val t m :: ps,x,us,F=>∃vs aV G H,us=dD t vs :: aV∧t.an w Z m x.1 vs G∧gm w Z key ps x.2 aV H∧ag.apart G H∧ag.sub G F∧ag.sub H F
 | .gZ t :: ps,x,us,F=>∃vs aV G H,us=dD t vs :: aV∧t.an w Z .R x.1 vs G∧gm w Z key ps x.2 aV H∧ag.apart G H∧ag.sub G F∧ag.sub H F
 | .gI t m :: ps,x,us,F=>∃vs aV G H,us=dD t vs :: aV∧t.an w Z m x.1 vs G∧gm w Z key ps x.2 aV H∧ag.apart G H∧ag.sub G F∧ag.sub H F
 | .ref t :: ps,x,us,F=>∃b o vs aV,us=.pointer (some (at_ b o)) :: aV∧b2 w b o vs∧t.an w Z .R x.1 vs ag.none∧(∀j,j<t.size→Z b (o+j))∧gm w Z key ps x.2 aV F
 | .mut t m _ :: ps,x,us,F=>∃b o vs aV G H,us=.pointer (some (at_ b o)) :: aV∧b2 w b o vs∧(∀j,j<t.size→fa w b (o+j))∧t.an w Z m x.1 vs G∧gm w Z key ps x.2 aV H ∧
   ag.apart (G.or (ag.run b o t.size)) H∧ag.apart G (ag.run b o t.size)∧ag.sub (G.or (ag.run b o t.size)) F∧ag.sub H F
def h7(w:World)(Z:ag):(ps:List bt)→List Value→(bt.dM ps).D→ag→Prop
 | [],_,_,_=>True
 | .mut t _ m' :: ps,us,x,F=>∃b o vs aV G H,us=.pointer (some (at_ b o)) :: aV∧b2 w b o vs∧t.an w Z m' x.1 vs G∧h7 w Z ps aV x.2 H ∧
   ag.apart (G.or (ag.run b o t.size)) H∧ag.apart G (ag.run b o t.size)∧ag.sub (G.or (ag.run b o t.size)) F∧ag.sub H F
 | .gI t m :: ps,us,x,F=>∃vs aV G H,us=dD t vs :: aV∧t.an w Z m x.1 vs G∧h7 w Z ps aV x.2 H∧ag.apart G H∧ag.sub G F∧ag.sub H F
 | .val _ _ :: ps,us,x,F=>∃u aV,us=u :: aV∧h7 w Z ps aV x F
 | .gZ _ :: ps,us,x,F=>∃u aV,us=u :: aV∧h7 w Z ps aV x F
 | .ref _ :: ps,us,x,F=>∃u aV,us=u :: aV∧h7 w Z ps aV x F
 | .fn _ _ :: ps,us,x,F=>∃u aV,us=u :: aV∧h7 w Z ps aV x F
def J6(w:World)(us:List Value)(a off size:Nat)(x:Int)(v:Value):Prop :=
 (x<0∧v=.pointer none)∨(0≤x∧∃b o iF dB n c,us[a]?=some (.pointer (some (at_ b o)))∧w.cell? (at_ b (o+off))=some (.slice (some (at_ iF dB)) n c)∧x.toNat<n∧v=.pointer (some (at_ iF (dB+x.toNat*size))))
def hS(w:World)(Z:ag)(ps:List bt)(us:List Value):(rs:List cO)→(cO.outs rs (bt.dM ps)).D→List Value→ag→Prop
 | [],x,dk,F=>dk=[]∧h7 w Z ps us x F
 | .val t m :: rs,x,dk,F=>∃vs dR G H,dk=dD t vs :: dR∧t.an w Z m x.1 vs G∧hS w Z ps us rs x.2 dR H∧ag.apart G H∧ag.sub G F∧ag.sub H F
 | .opt a off t :: rs,x,dk,F=>∃v dR,dk=v :: dR∧J6 w us a off t.size x.1 v∧hS w Z ps us rs x.2 dR F
 | .any t :: rs,x,dk,F=>∃v dR,dk=v :: dR∧(v.cells.toList.length=t.size∧∀u∈v.cells.toList,dS u=true)∧hS w Z ps us rs x dR F
 | .oM t :: rs,x,dk,F=>∃v dR,dk=v :: dR∧((x.1=[]∧v=.pointer none)∨∃y b o vs,x.1=[y]∧v=.pointer (some (at_ b o))∧b2 w b o vs∧t.an w Z .R y vs ag.none∧∀j,j<t.size→Z b (o+j))∧hS w Z ps us rs x.2 dR F
 | .new t m :: rs,x,dk,F=>∃b o vs dR G H,dk=.pointer (some (at_ b o)) :: dR∧b2 w b o vs∧(∀j,j<t.size→fa w b (o+j))∧t.an w Z m x.1 vs G∧hS w Z ps us rs x.2 dR H ∧
   ag.apart (G.or (ag.run b o t.size)) H∧ag.apart G (ag.run b o t.size)∧ag.sub (G.or (ag.run b o t.size)) F∧ag.sub H F
def n5:List Value→Value
 | [v]=>v
 | l=>.tuple l.toArray
structure Ends(w:World)(Z F:ag)(e:Entry)(us:List Value)(r:(cO.outs e.rs (bt.dM e.ps)).D)(v:Value)(w':World):Prop where
 out:∃dk Z' F',v=n5 dk∧Ext w w' F∧ag.sub Z Z'∧(∀b o,Z' b o→Z b o∨((F b o∨w.heap.size≤b)∧b<w'.heap.size))∧(∀b o,F' b o→(F b o∨w.heap.size≤b)∧b<w'.heap.size) ∧
  ag.apart F' Z'∧hS w' Z' e.ps (us++f' us) e.rs r dk F'
structure Sound(P:Program)(f:FuncId)(key:Nat)(e:Entry):Prop where
 fn:∃fn,P.funcs[f]?=some fn∧fn.body.isNone=false∧(fn.name == "runtime.NumGoroutine")=false
 calls:∀(w:World) (Z F:ag) (x:(bt.ins e.ps).D) (us:List Value) (r:(cO.outs e.rs (bt.dM e.ps)).D),
  (∀b o,Z b o→b<w.heap.size)→(∀b o,F b o→b<w.heap.size)→ag.apart F Z→gm w Z key e.ps x (us++f' us) F→e.f x=some r →
  Calls P f us.toArray w fun end_ w'=>∃v,end_=.returned v∧Ends w Z F e us r v w'
def w6(P:Program)(f:FuncId)(us:Array Value)(w:World)(R:Ending→World→Prop):Prop :=
 ((∃fn,P.funcs[f]?=some fn∧fn.body.isNone=false∧(fn.name == "runtime.NumGoroutine")=false)∧Calls P f us w R)∨∃v w',(callFunc f us).run P w=.ok (.value v) w'∧R (.returned v) w'
structure hK(P:Program)(f:FuncId)(key:Nat)(e:Entry):Prop where
 calls:∀(w:World) (Z F:ag) (x:(bt.ins e.ps).D) (us:List Value) (r:(cO.outs e.rs (bt.dM e.ps)).D),
  (∀b o,Z b o→b<w.heap.size)→(∀b o,F b o→b<w.heap.size)→ag.apart F Z→gm w Z key e.ps x (us++f' us) F→e.f x=some r →
  w6 P f us.toArray w fun end_ w'=>∃v,end_=.returned v∧Ends w Z F e us r v w'
theorem Sound.x{P:Program}{f:FuncId}{key:Nat}{e:Entry}(h:Sound P f key e):hK P f key e :=
 ⟨fun w Z F x us r h1 h2 h3 h4 a7=>.inl ⟨h.fn,h.calls w Z F x us r h1 h2 h3 h4 a7⟩⟩
instance {P:Program} {f:FuncId} {key:Nat} {e:Entry} : Coe (Sound P f key e) (hK P f key e):=⟨Sound.x⟩
section
variable{P:Program}{Q:Exit→Act→World→Prop}
variable{w0:World}{F0 Z0:ag}{n:cB}{s aq:al}{a b6:Act}{w w':World}{ι bh:Nat→bC}{Z Z':ag}
theorem gm.mono{key:Nat}(hZ:ag.sub Z Z'):∀(ps:List bt) {x:(bt.ins ps).D} {us:List Value} {F F':ag},ag.sub F F'→gm w Z key ps x us F→gm w Z' key ps x us F'
 | [],_,_,_,_,_,h=>h
 | .fn _ _ :: ps,_,_,_,_,hF,h=>by
  obtain ⟨a,b,aV,h1,h0,h2⟩:=h
  exact⟨a,b,aV,h1,h0,gm.mono hZ ps hF h2⟩
 | .val t m :: ps,_,_,_,_,hF,h=>by
  obtain ⟨vs,aV,G,H,h1,h2,h3,h4,a7,bp⟩:=h
  exact⟨vs,aV,G,H,h1,aa.an.mono hZ _ _ (fun _ _ h=>h) h2,gm.mono hZ ps (fun _ _ h=>h) h3,h4,fun b o h=>hF b o (a7 b o h),fun b o h=>hF b o (bp b o h)⟩
 | .gZ t :: ps,_,_,_,_,hF,h=>by
  obtain ⟨vs,aV,G,H,h1,h2,h3,h4,a7,bp⟩:=h
  exact⟨vs,aV,G,H,h1,aa.an.mono hZ _ _ (fun _ _ h=>h) h2,gm.mono hZ ps (fun _ _ h=>h) h3,h4,fun b o h=>hF b o (a7 b o h),fun b o h=>hF b o (bp b o h)⟩
 | .gI t m :: ps,_,_,_,_,hF,h=>by
  obtain ⟨vs,aV,G,H,h1,h2,h3,h4,a7,bp⟩:=h
  exact⟨vs,aV,G,H,h1,aa.an.mono hZ _ _ (fun _ _ h=>h) h2,gm.mono hZ ps (fun _ _ h=>h) h3,h4,fun b o h=>hF b o (a7 b o h),fun b o h=>hF b o (bp b o h)⟩
 | .ref t :: ps,_,_,_,_,hF,h=>by
  obtain ⟨b,o,vs,aV,h1,h2,h3,h4,a7⟩:=h
  exact⟨b,o,vs,aV,h1,h2,aa.an.mono hZ _ _ (fun _ _ h=>h) h3,fun j hj=>hZ _ _ (h4 j hj),gm.mono hZ ps hF a7⟩
 | .mut t m m' :: ps,_,_,_,_,hF,h=>by
  obtain ⟨b,o,vs,aV,G,H,h1,h2,h3,h4,a7,bp,bI,c7,lq⟩:=h
  exact⟨b,o,vs,aV,G,H,h1,h2,h3,aa.an.mono hZ _ _ (fun _ _ h=>h) h4,gm.mono hZ ps (fun _ _ h=>h) a7,bp,bI,fun b o h=>hF b o (c7 b o h),fun b o h=>hF b o (lq b o h)⟩
structure fl(s:al)(ι : Nat→bC)(Z:ag)(aq:al)(Z':ag):Prop where
 o:∀id,aq.o id=s.o id∨((s.o id).live∧(aq.o id=.dead∨aq.o id=.b_ (s.o id)))
 t:aq.t=s.t
 g:aq.g=s.g
 dC:ag.sub Z Z'
 oQ:∀b o,Z' b o→Z b o∨∃id,(s.o id).live∧¬(aq.o id).live∧(ι id).F b o
theorem eU.l2(h:eU s ι Z aq Z'):fl s ι Z aq Z' :=
 ⟨fun id=>(h.o id).imp (fun h=>h) fun h=>⟨h.1,.inl h.2⟩,h.t,h.g,h.dC,fun b o hz=>(h.oQ b o hz).imp (fun h=>h) fun⟨id,h1,h2,h3⟩=>⟨id,h1,by rw [h2];exact acZ,h3⟩⟩
where acZ:¬cj.live .dead:=fun h=>h
theorem fl.refl:fl s ι Z s Z:=eU.l2 .refl
theorem fl.live(h:fl s ι Z aq Z'){id:Nat}(hl:(aq.o id).live):(s.o id).live∧aq.o id=s.o id:=by
 rcases h.o id with h1 | ⟨_,h1 | h1⟩
 ·exact⟨h1 ▸ hl,h1⟩
 ·rw [h1] at hl;exact hl.elim
 ·rw [h1] at hl;exact hl.elim
theorem fl.trans{s2:al}{bJ:ag}(h:fl s ι Z aq Z')(k:fl aq ι Z' s2 bJ):fl s ι Z s2 bJ:=by
 refine⟨fun id=>?_,k.t.trans h.t,k.g.trans h.g,fun b o hz=>k.dC b o (h.dC b o hz),fun b o hz=>?_⟩
 ·rcases k.o id with h1 | ⟨h0,h1⟩
  ·rw [h1];exact h.o id
  ·obtain ⟨h2,h3⟩:=h.live h0
   rw [h3] at h1
   exact .inr ⟨h2,h1⟩
 ·rcases k.oQ b o hz with h1 | ⟨id,h1,h2,h3⟩
  ·rcases h.oQ b o h1 with h1 | ⟨id,h1,h2,h3⟩
   ·exact .inl h1
   ·exact .inr ⟨id,h1,fun hl=>h2 (k.live hl).1,h3⟩
  ·exact .inr ⟨id,(h.live h1).1,h2,h3⟩
theorem fl.d'(h:fl s ι Z aq Z'):eA w Z s ι w Z' aq ι := by
 refine⟨fun id=>?_,h.dC,b4.refl _ _⟩
 rcases h.o id with h1 | ⟨h0,h1 | h1⟩
 ·rw [h1];exact .stay _ _
 ·rw [h1];exact .dead _ _ _
 ·rw [h1];exact .fc _ _ h0
theorem bE.tY{F:ag}(hf:bE w0 F0 s w ι Z F)(h:fl s ι Z aq Z'):bE w0 F0 aq w ι Z' F:=by
 refine⟨hf.own,fun id hl=>hf.apart id (h.live hl).1,fun b o h1 h2=>?_⟩
 rcases h.oQ b o h2 with h3 | ⟨id,h3,_,h4⟩
 ·exact hf.cW b o h1 h3
 ·exact hf.apart id h3 b o h1 h4
theorem y1{id:Nat}(hl:(s.o id).live):fl s ι Z (s.bL id (.b_ (s.o id))) Z:=by
 refine⟨fun j=>?_,rfl,rfl,fun _ _ h=>h,fun _ _ h=>.inl h⟩
 by_cases hj:id=j
 ·subst hj;exact .inr ⟨hl,.inr (cz _ _ _)⟩
 ·exact .inl (cK hj)
theorem Inv.l2(h:Inv w0 F0 Z0 n s a w ι Z)(aD:fl s ι Z aq Z'):Inv w0 F0 Z0 n aq a w ι Z':=by
 have hm:eA w Z s ι w Z' aq ι := aD.d'
 refine h.next hm (Ext.refl _ ag.none) (fun _ _ h=>h.elim) ?_ ?_ ?_ (fun k=>by rw [aD.t];exact(h.tmps k).move hm) h.size h.defers aD.g
 ·intro b o hz
  rcases aD.oQ b o hz with h1 | ⟨id,h1,_,h3⟩
  ·exact .inl h1
  ·exact .inr (h.own id h1 b o h3)
 ·intro id hl hne;exact absurd ⟨(aD.live hl).2,rfl⟩ hne
 ·intro id hl b o h1 h2
  obtain ⟨eB,_⟩:=aD.live hl
  rcases aD.oQ b o h2 with h3 | ⟨j,h3,h4,a7⟩
  ·exact h.cW id eB b o h1 h3
  ·have hne:id≠j:=fun e=>h4 (e ▸ hl)
   exact h.apart id j eB h3 hne b o h1 a7
theorem Inv.y2(h:Inv w0 F0 Z0 n s a w ι Z){id:Nat}(hl:(s.o id).live):bE w0 F0 (s.bL id (.b_ (s.o id))) w ι Z (ι id).F:=by
 refine⟨h.own id hl,fun j hj=>?_,h.cW id hl⟩
 have hj':(bP s.o id (cj.b_ (s.o id)) j).live:=hj
 by_cases hne:id=j
 ·subst hne;rw [cz] at hj';exact hj'.elim
 ·rw [cK hne] at hj'
  exact h.apart id j hl hj' hne
def w7(g:Bool)(w:World)(Z:ag)(s:al)(ι : Nat→bC)(t:aa)(p:Place)(u:Value)(H:ag):Prop :=
 ∃ver old b o vs,(g=true→¬(s.o p.id).live)∧(∀eo,s.o p.id=.b_ eo→eo=.var ver old∧(ι p.id).base=some (at_ b o))∧p.fb=none∧u=.pointer (some (at_ b (o+p.off)))∧p.off+t.size≤old.length∧bF w Z s ι old vs ∧
  (∀j,j<old.length→fa w b (o+j))∧(∀j,j<old.length→(j<p.off∨p.off+t.size≤j)→H b (o+j)) ∧
  (∀(j:Nat) (v:Value),vs[j]?=some v→(j<p.off∨p.off+t.size≤j)→w.cell? (at_ b (o+j))=some v)
def w8(g:Bool)(w:World)(Z:ag)(s:al)(ι : Nat→bC)(t:aa)(m:bg)(p:Place)(u:Value)(H:ag):Prop :=
 ∃ver xs i b o c G1 G2,(g=true→¬(s.o p.id).live)∧(∀eo,s.o p.id=.b_ eo→eo=.row t m ver xs∧(ι p.id).base=some (at_ b o)∧(ι p.id).cap=c)∧p.fb=some i∧i<xs.length∧u=.pointer (some (at_ b (o+i*t.size)))∧xs.length≤c ∧
  (∀j,j<c*t.size→fO w t.size b (o+j))∧(∀j,j<c*t.size→(j<i*t.size∨(i+1)*t.size≤j)→H b (o+j)) ∧
  Row w (t.an w Z m) t.size (xs.take i) b o G1∧Row w (t.an w Z m) t.size (xs.drop (i+1)) b (o +(i+1)*t.size) G2∧ag.apart G1 G2∧ag.sub G1 H∧ag.sub G2 H ∧
  (∀j,j<c*t.size→¬G1 b (o+j)∧¬G2 b (o+j))
def ac0(g:Bool)(s:al)(ι : Nat→bC)(t:aa)(e:bg)(ct:Option Place)(v:Value)(H:ag)(w:World):Prop :=
 ∃(p:Place) (i:Nat) (T:aa) (ver:Nat) (ys:List T.D) (b o c:Nat),ct=some p∧p.fb=some i∧(g=true→¬(s.o p.id).live)∧(∀eo,s.o p.id=.b_ eo→eo=.row T T.own ver ys∧(ι p.id).base=some (at_ b o)∧(ι p.id).cap=c)∧i<ys.length∧e=t.own ∧
  ∀(b7:World) (bJ X:ag) (y:List t.D) (cl:T.D),b4 w b7 H→(aa.sl t).an b7 bJ (.O t.own) y [v] X→ag.apart X H→T.setAt p.off t y (J T ys i)=some cl→mG b7 (T.an b7 bJ T.own) T.size (ys.set i cl) (at_ b o) c (X.or H)
mutual
def cR(g:Bool)(w:World)(Z:ag)(s:al)(ι : Nat→bC):(t:aa)→bg→List bb→List Value→ag→Prop
 | .sl t,.O e,cs,vs,H=>∃c v,cs=[c]∧vs=[v]∧match c with
  | .nil _=>v=.slice none 0 0
  | .ah id none=>∃ver xs A k c,(g=true→¬(s.o id).live)∧(∀eo,s.o id=.b_ eo→eo=.row t e ver xs∧(ι id).cap=c∧Jk (ι id) t.size none xs.length A xs.length k)∧v=.slice A xs.length k ∧
    ((xs=[]∧c=0)∨∃b o,(∀eo,s.o id=.b_ eo→(ι id).base=some (at_ b o))∧xs.length≤c∧k≤c∧(k=0∨A=some (at_ b o))∧(∀j,j<c*t.size→fO w t.size b (o+j))∧(∀j,k*t.size≤j→j<c*t.size→H b (o+j)))
  | .bA _ _ ct _=>ac0 g s ι t e ct v H w
  | _=>False
 | .sl _,_,_,_,_=>False
 | .st aj,m,cs,vs,H=>fB g w Z s ι aj m.parts cs vs H
 | _,_,cs,vs,_=>cs.length=1∧vs.length=1
def fB(g:Bool)(w:World)(Z:ag)(s:al)(ι : Nat→bC):(aj:az)→cM→List bb→List Value→ag→Prop
 | .nil,_,cs,vs,_=>cs=[]∧vs=[]
 | .cons t aj,m,cs,vs,H=>∃c1 gv v1 v2 H1 H2,cs=c1++gv∧vs=v1++v2∧cR g w Z s ι t m.ah c1 v1 H1∧fB g w Z s ι aj m.du gv v2 H2∧ag.apart H1 H2∧ag.sub H1 H∧ag.sub H2 H
end
def eO(g:Bool)(w:World)(Z:ag)(s:al)(ι : Nat→bC):(ps:List bt)→List a'→List Value→ag→Prop
 | [],_,_,_=>True
 | .mut t m m' :: ps,vs,us,H=>∃p bD u aV H1 H2,vs=.ptr p :: bD∧us=u :: aV∧(w7 g w Z s ι t p u H1∨(m'=m∧m=t.own∧w8 g w Z s ι t m p u H1))∧eO g w Z s ι ps bD aV H2∧ag.apart H1 H2∧ag.sub H1 H∧ag.sub H2 H
 | .gI t m :: ps,vs,us,H=>∃v bD u aV cs H1 H2,vs=v :: bD∧us=u :: aV∧iy t v=some cs∧m=t.own∧cR g w Z s ι t m cs u.cells.toList H1∧eO g w Z s ι ps bD aV H2∧ag.apart H1 H2∧ag.sub H1 H∧ag.sub H2 H
 | _ :: ps,vs,us,H=>∃v bD u aV,vs=v :: bD∧us=u :: aV∧eO g w Z s ι ps bD aV H
end
end Go.LM
namespace Go.LM
section
variable{P:Program}{Q:Exit→Act→World→Prop}
variable{g:Bool}{w0:World}{F0 Z0:ag}{n:cB}{s aq:al}{a b6:Act}{w w':World}{ι bh:Nat→bC}{Z Z':ag}
structure gy(g:Bool)(w:World)(Z:ag)(s:al)(ι : Nat→bC)(w':World)(Z':ag)(aq:al)(bh:Nat→bC)(H:ag):Prop where
 aF:∀x v,aT w Z s ι x v→aT w' Z' aq bh x v
 cell:∀c v,cc w Z s ι c v→cc w' Z' aq bh c v
 dC:ag.sub Z Z'
 b_:∀id o',(g=true→¬(s.o id).live)→aq.o id=.b_ o'→s.o id=.b_ o' ∧ bh id = ι id
 nl:g=true→∀id,¬(s.o id).live→¬(aq.o id).live
 same:b4 w w' H
 B':b4 w w' Z
 wr:∀b o,fa w b o→fa w' b o
 y3:∀z b o,fO w z b o→fO w' z b o
theorem gy.mono{H fT:ag}(h:gy g w Z s ι w' Z' aq bh H)(hs:ag.sub fT H):gy g w Z s ι w' Z' aq bh fT:=⟨h.aF,h.cell,h.dC,h.b_,h.nl,h.same.mono hs,h.B',h.wr,h.y3⟩
theorem w7.move{t:aa}{p:Place}{u:Value}{H fT:ag}(h:gy g w Z s ι w' Z' aq bh H)(cD:ag.sub H fT)(hk:w7 g w Z s ι t p u H):w7 g w' Z' aq bh t p u fT:=by
 obtain ⟨ver,old,b,o,vs,h0,h1,h2,h4,a7,bp,bI,c7,lq⟩:=hk
 have hl:=bp.len
 refine⟨ver,old,b,o,vs,fun aD=>h.nl aD _ (h0 aD),fun eo bU=>?_,h2,h4,a7,bF.mono h.cell bp,fun j hj=>h.wr _ _ (bI j hj),fun j hj hh=>cD _ _ (c7 j hj hh),fun j v hv hh=>?_⟩
 ·obtain ⟨dn,eh⟩:=h.b_ _ _ h0 bU
  rw [eh];exact h1 eo dn
 have hj:j<old.length:=by
  rcases Nat.lt_or_ge j vs.length with h | h
  ·omega
  ·rw [List.getElem?_eq_none h] at hv;simp at hv
 rw [(h.same _ _ (c7 j hj hh)).1]
 exact lq j v hv hh
theorem w8.move{t:aa}{m:bg}{p:Place}{u:Value}{H fT:ag}(h:gy g w Z s ι w' Z' aq bh H)(cD:ag.sub H fT)(hk:w8 g w Z s ι t m p u H):w8 g w' Z' aq bh t m p u fT:=by
 obtain ⟨ver,xs,i,b,o,c,G1,G2,h0,h1,h2,h3,a7,bp,bI,c7,lq,y4,qj,kp,w9,w_⟩:=hk
 have cH:∀(G:ag),ag.sub G H→∀y us df,ag.sub df G→t.an w Z m y us df→t.an w' Z' m y us df:=fun G hG y us df Jx hr =>
  aa.an.mono h.dC _ _ (fun _ _ h=>h) (aa.an.same h.B' _ _ (h.same.mono fun b o aD=>hG b o (Jx b o aD)) hr)
 have hcap:(i+1)*t.size≤c*t.size:=Nat.mul_le_mul_right _ (by omega)
 have hcell:∀j,j<c*t.size→(j<i*t.size∨(i+1)*t.size≤j)→w'.cell? (at_ b (o+j))=w.cell? (at_ b (o+j)):=fun j hj hh=>(h.same _ _ (c7 j hj hh)).1
 refine⟨ver,xs,i,b,o,c,G1,G2,fun aD=>h.nl aD _ (h0 aD),fun eo bU=>?_,h2,h3,a7,bp,fun j hj=>h.y3 _ _ _ (bI j hj),fun j hj hh=>cD _ _ (c7 j hj hh),?_,?_,qj,fun b o aD=>cD b o (kp b o aD),fun b o aD=>cD b o (w9 b o aD),w_⟩
 ·obtain ⟨dn,eh⟩:=h.b_ _ _ h0 bU
  rw [eh];exact h1 eo dn
 ·refine lq.imp (cH G1 kp) fun j hj=>hcell j ?_ (.inl ?_)
  all_goals
   have:(xs.take i).length=i:=by simp;omega
   rw [this] at hj
   rw [Nat.add_one_mul] at hcap
   omega
 ·refine y4.imp (cH G2 w9) fun j hj=>?_
  have hle:xs.length*t.size≤c*t.size:=Nat.mul_le_mul_right _ bp
  have e1:(xs.drop (i+1)).length=xs.length-(i+1):=by simp
  rw [e1,Nat.sub_mul] at hj
  have:=hcell ((i+1)*t.size+j) (by omega) (.inr (by omega))
  rwa [← Nat.add_assoc] at this
mutual
theorem cR.move{H fT:ag}(h:gy g w Z s ι w' Z' aq bh H)(cD:ag.sub H fT):∀(t:aa) (m:bg) {cs:List bb} {vs:List Value},cR g w Z s ι t m cs vs H→cR g w' Z' aq bh t m cs vs fT
 | .int _,_,_,_,hk=>by simp only [cR] at hk ⊢;exact hk
 | .bool,_,_,_,hk=>by simp only [cR] at hk ⊢;exact hk
 | .str,_,_,_,hk=>by simp only [cR] at hk ⊢;exact hk
 | .raw,_,_,_,hk=>by simp only [cR] at hk ⊢;exact hk
 | .sl t,.R,_,_,hk=>by simp only [cR] at hk
 | .sl t,.S _,_,_,hk=>by simp only [cR] at hk
 | .sl t,.O e,_,_,hk=>by
  simp only [cR] at hk ⊢
  obtain ⟨c,v,h1,h2,hk⟩:=hk
  refine⟨c,v,h1,h2,?_⟩
  cases c with
  | nil=>exact hk
  | ah id sub =>
   cases sub with
   | some=>exact hk
   | none =>
    obtain ⟨ver,xs,A,k,c,jY,k1,k2,bf⟩:=hk
    refine⟨ver,xs,A,k,c,fun aD=>h.nl aD _ (jY aD),fun eo bU=>?_,k2,?_⟩
    ·obtain ⟨dn,eh⟩:=h.b_ _ _ jY bU
     rw [eh];exact k1 eo dn
    rcases bf with bf | ⟨b,o,cP,dU,gJ,hP,h9,oZ⟩
    ·exact .inl bf
    ·right
     refine⟨b,o,fun eo bU=>?_,dU,gJ,hP,fun j hj=>h.y3 _ _ _ (h9 j hj),fun j h1 h2=>cD _ _ (oZ j h1 h2)⟩
     obtain ⟨dn,eh⟩:=h.b_ _ _ jY bU
     rw [eh];exact cP eo dn
  | bA u dp ct xs =>
   obtain ⟨p,i,T,ver,ys,b,o,c,av,hi,jY,k1,k2,k3,bf⟩:=hk
   refine⟨p,i,T,ver,ys,b,o,c,av,hi,fun aD=>h.nl aD _ (jY aD),fun eo bU=>?_,k2,k3,fun b7 bJ X y cl cP dU gJ hP=>?_⟩
   ·obtain ⟨dn,eh⟩:=h.b_ _ _ jY bU
    rw [eh];exact k1 eo dn
   ·have:=bf b7 bJ X y cl (h.same.trans (cP.mono cD)) dU (fun b o x y=>gJ b o x (cD b o y)) hP
    obtain ⟨G,g1,g2,g3⟩:=this.row
    exact⟨this.spot,this.cap,this.wr,fun j hj=>(this.inF j hj).imp (fun h=>h) (cD _ _),G,g1,g2,fun b o x=>(g3 b o x).imp (fun h=>h) (cD b o)⟩
  | _=>exact hk
 | .st aj,m,_,_,hk=>by simp only [cR] at hk ⊢;exact fB.move h cD aj m.parts hk
theorem fB.move{H fT:ag}(h:gy g w Z s ι w' Z' aq bh H)(cD:ag.sub H fT):∀(aj:az) (m:cM) {cs:List bb} {vs:List Value},fB g w Z s ι aj m cs vs H→fB g w' Z' aq bh aj m cs vs fT
 | .nil,_,_,_,hk=>by simp only [fB] at hk ⊢;exact hk
 | .cons t aj,m,_,_,hk=>by
  simp only [fB] at hk ⊢
  obtain ⟨c1,gv,v1,v2,H1,H2,h1,h2,h3,h4,a7,bp,bI⟩:=hk
  exact⟨c1,gv,v1,v2,H1,H2,h1,h2,cR.move (h.mono bp) (fun _ _ h=>h) t m.ah h3,fB.move (h.mono bI) (fun _ _ h=>h) aj m.du h4,a7,fun b o x=>cD b o (bp b o x),fun b o x=>cD b o (bI b o x)⟩
end
theorem eO.move{H fT:ag}(h:gy g w Z s ι w' Z' aq bh H)(cD:ag.sub H fT):∀(ps:List bt) {vs:List a'} {us:List Value},eO g w Z s ι ps vs us H→eO g w' Z' aq bh ps vs us fT
 | [],_,_,_=>trivial
 | .mut t m m' :: ps,_,_,⟨p,bD,u,aV,H1,H2,h1,h2,h3,h4,a7,bp,bI⟩=>⟨p,bD,u,aV,H1,H2,h1,h2,h3.imp (w7.move (h.mono bp) (fun _ _ h=>h)) (fun hk=>⟨hk.1,hk.2.1,w8.move (h.mono bp) (fun _ _ h=>h) hk.2.2⟩),eO.move (h.mono bI) (fun _ _ h=>h) ps h4,a7,fun b o x=>cD b o (bp b o x),fun b o x=>cD b o (bI b o x)⟩
 | .gI t m :: ps,_,_,⟨v,bD,u,aV,cs,H1,H2,h1,h2,h3,qk,h4,a7,bp,bI,c7⟩=>⟨v,bD,u,aV,cs,H1,H2,h1,h2,h3,qk,cR.move (h.mono bI) (fun _ _ h=>h) t m h4,eO.move (h.mono c7) (fun _ _ h=>h) ps a7,bp,fun b o x=>cD b o (bI b o x),fun b o x=>cD b o (c7 b o x)⟩
 | .val _ _ :: ps,_,_,⟨v,bD,u,aV,h1,h2,h3⟩=>⟨v,bD,u,aV,h1,h2,eO.move h cD ps h3⟩
 | .gZ _ :: ps,_,_,⟨v,bD,u,aV,h1,h2,h3⟩=>⟨v,bD,u,aV,h1,h2,eO.move h cD ps h3⟩
 | .ref _ :: ps,_,_,⟨v,bD,u,aV,h1,h2,h3⟩=>⟨v,bD,u,aV,h1,h2,eO.move h cD ps h3⟩
 | .fn _ _ :: ps,_,_,⟨v,bD,u,aV,h1,h2,h3⟩=>⟨v,bD,u,aV,h1,h2,eO.move h cD ps h3⟩
theorem fl.held(h:fl s ι Z aq Z')(H:ag):gy true w Z s ι w Z' aq ι H:=by
 refine⟨fun _ _=>aT.move h.d',fun _ _=>cc.move h.d',h.dC,fun id o' hn ho=>⟨?_,rfl⟩,fun _ id hn hl=>hn (h.live hl).1,b4.refl _ _,b4.refl _ _,fun _ _ h=>h,fun _ _ _ h=>h⟩
 rcases h.o id with h1 | ⟨h0,_⟩
 ·rw [← h1,ho]
 ·exact absurd h0 (hn rfl)
def J7(w0:World)(F0 Z0:ag)(n:cB)(s:al)(a:Act)(w:World)(ι : Nat→bC)(Z:ag)(R:List Value→ag→Prop)(Ca:al→List bb→List Value→ag→Prop)(cs:List bb)(vs:List Value)(cs':List bb)(aq:al):Prop :=
 ∃c1 us bD F H,cs=c1++cs'∧vs=us++bD∧Inv w0 F0 Z0 n aq a w ι Z∧fl s ι Z aq Z∧bF w Z aq ι cs' bD∧bE w0 F0 aq w ι Z F∧bE w0 F0 aq w ι Z H∧ag.apart F H ∧
  R us F∧Ca aq c1 us H∧∀b o,F b o∨H b o→∃id,(s.o id).live∧(ι id).F b o
theorem Cb{R:List Value→ag→Prop}{Ca:al→List bb→List Value→ag→Prop}{c:bb}{v:Value}{cs':List bb}{bD:List Value}(h:Inv w0 F0 Z0 n s a w ι Z)(hc:bF w Z s ι cs' bD)
  (eM:R [v] ag.none) (J8:Ca s [c] [v] ag.none):J7 w0 F0 Z0 n s a w ι Z R Ca (c :: cs') (v :: bD) cs' s :=
 ⟨[c],[v],bD,ag.none,ag.none,rfl,rfl,h,.refl,hc,.none,.none,fun _ _ h=>h.elim,eM,J8,fun _ _ h=>h.elim (fun h=>h.elim) fun h=>h.elim⟩
mutual
theorem aa.y5:∀(t:aa) (m:bg) (cs:List bb) (s:al) (r:t.D×List bb×al) (vs:List Value),t.fc m cs s=some r→Inv w0 F0 Z0 n s a w ι Z→bF w Z s ι cs vs →
  J7 w0 F0 Z0 n s a w ι Z (fun us F=>t.an w Z m r.1 us F) (fun s c us H=>cR true w Z s ι t m c us H) cs vs r.2.1 r.2.2
 | .int k,m,cs,s,r,vs,hi,h,hc=>by
  match cs,vs,hc with
  | [],_,_=>simp [aa.fc] at hi
  | _ :: _,[],hc=>exact hc.elim
  | c :: cs,v :: vs,hc =>
   cases c <;> simp only [aa.fc] at hi <;> try (simp at hi;done)
   rename_i k' x
   cases hb:Nat.beq (dj k) (dj k')
   ·rw [hb] at hi;simp at hi
   rw [hb] at hi
   obtain rfl:=aX hi
   have:=BV hb
   subst this
   have hv:v=.int k x:=hc.1
   exact Cb h hc.2 (by simp only [aa.an];rw [hv]) (by simp only [cR];exact⟨rfl,rfl⟩)
 | .bool,m,cs,s,r,vs,hi,h,hc=>by
  match cs,vs,hc with
  | [],_,_=>simp [aa.fc] at hi
  | _ :: _,[],hc=>exact hc.elim
  | c :: cs,v :: vs,hc =>
   cases c <;> simp only [aa.fc] at hi <;> try (simp at hi;done)
   obtain rfl:=aX hi
   have hv:=hc.1
   simp only [cc] at hv
   exact Cb h hc.2 (by simp only [aa.an];rw [hv]) (by simp only [cR];exact⟨rfl,rfl⟩)
 | .str,m,cs,s,r,vs,hi,h,hc=>by
  match cs,vs,hc with
  | [],_,_=>simp [aa.fc] at hi
  | _ :: _,[],hc=>exact hc.elim
  | c :: cs,v :: vs,hc =>
   cases c <;> simp only [aa.fc] at hi <;> try (simp at hi;done)
   obtain rfl:=aX hi
   have hv:=hc.1
   obtain ⟨ji,hv,hx⟩:=hv
   exact Cb h hc.2 (by simp only [aa.an];exact⟨ji,by rw [hv],hx⟩) (by simp only [cR];exact⟨rfl,rfl⟩)
 | .raw,m,cs,s,r,vs,hi,h,hc=>by cases cs <;> cases m <;> simp [aa.fc] at hi
 | .sl t,m,cs,s,r,vs,hi,h,hc=>by
  match cs,vs,hc with
  | [],_,_=>cases m <;> simp [aa.fc] at hi
  | _ :: _,[],hc=>exact hc.elim
  | c :: cs,v :: vs,hc =>
   cases m with
   | R=>simp [aa.fc] at hi
   | S=>simp [aa.fc] at hi
   | O e =>
    cases c with
    | nil u =>
     simp only [aa.fc] at hi
     obtain ⟨x,hx,hi⟩:=bj hi
     obtain ⟨e1,rfl⟩:=gK hx
     subst e1
     obtain rfl:=aX hi
     have hv:v=.slice none 0 0:=hc.1
     refine Cb h hc.2 ?_ ?_
     ·simp only [aa.an];exact⟨none,0,by rw [hv];rfl,.inl (by simp)⟩
     ·simp only [cR];exact⟨_,_,rfl,rfl,hv⟩
    | ah id sub =>
     cases sub with
     | some=>simp [aa.fc] at hi
     | none =>
      simp only [aa.fc] at hi
      cases ho:s.o id with
      | row u em ver xs =>
       rw [ho] at hi
       simp only at hi
       cases hb:bg.beq em e
       ·rw [hb] at hi;simp at hi
       rw [hb] at hi
       simp only [cond_true] at hi
       have:=bg.eq_of_beq _ _ hb
       subst this
       obtain ⟨x,hx,hi⟩:=bj hi
       obtain ⟨e1,rfl⟩:=gK hx
       subst e1
       obtain rfl:=aX hi
       have b8:(s.o id).live:=by rw [ho];trivial
       have aD:fl s ι Z (s.bL id (.b_ (.row u em ver xs))) Z:=by have:=y1 (s:=s) (ι := ι) (Z:=Z) b8;rw [ho] at this;exact this
       have fS:bE w0 F0 (s.bL id (.b_ (.row u em ver xs))) w ι Z (ι id).F:=by have:=h.y2 b8;rw [ho] at this;exact this
       have cU:=h.fP id
       rw [ho] at cU
       obtain ⟨_,A,m',k,hv,hh⟩:=hc.1
       have hh:=hh u em ver xs (k8 ho)
       have mW:=wN cU hh
       have o0:m'=xs.length:=hh.Rw
       subst o0
       have l3:(s.bL id (.b_ (.row u em ver xs))).o id=.b_ (.row u em ver xs):=cz _ _ _
       simp only [aa.an,kE] at mW
       obtain ⟨mQ,k',k9,mW⟩:=mW
       simp only [List.cons.injEq,Value.slice.injEq,and_true,true_and] at k9
       obtain ⟨rfl,rfl⟩:=k9
       rcases cU with⟨hx0,ac1⟩ | ⟨⟨b,o,sp⟩,ep,hr⟩
       ·refine⟨[.ah id none],[v],vs,ag.none,ag.none,rfl,rfl,h.l2 aD,aD,hc.2.move aD.d',.none,.none,fun _ _ h=>h.elim,?_,?_,fun _ _ h=>h.elim (fun h=>h.elim) fun h=>h.elim⟩
        ·simp only [aa.an]
         have hk0:k=0:=by have:=hh.cap;omega
         exact⟨A,k,by rw [hv],.inl ⟨hx0,hk0⟩⟩
        ·simp only [cR]
         exact⟨_,_,rfl,rfl,ver,xs,A,k,_,fun _=>by rw [l3];exact fun h=>h,fun eo bU=>by rw [l3] at bU;exact⟨(cj.b_.inj bU).symm,rfl,hh⟩,hv,.inl ⟨hx0,ac1⟩⟩
       ·have hsp:=hr.spot
        simp only at hsp
        subst hsp
        have ac2:k*u.size≤(ι id).cap*u.size:=Nat.mul_le_mul_right _ (by have:=hh.cap;simp only [d_] at this;omega)
        let T:ag:=ag.run b (o+k*u.size) ((ι id).cap*u.size-k*u.size)
        refine⟨[.ah id none],[v],vs,ag.diff (ι id).F T,fun b o=>(ι id).F b o∧T b o,rfl,rfl,h.l2 aD,aD,hc.2.move aD.d',fS.sub fun _ _ h=>h.1,fS.sub fun _ _ h=>h.1,fun b o h1 h2=>h1.2 h2.2,?_,?_,?_⟩
        ·simp only [aa.an]
         refine⟨A,k,by rw [hv],?_⟩
         rcases mW with mW | ⟨⟨b',o',sp⟩,hA,jC⟩
         ·exact .inl mW
         ·rcases hh.at_ with hk0 | ⟨a1,mZ,y6⟩
          ·exact .inl ⟨List.eq_nil_of_length_eq_zero (by have:=hh.le;omega),hk0⟩
          ·right
           rw [ep] at mZ
           obtain rfl:=aX mZ
           rw [hA] at y6
           simp only [d_,Nat.zero_mul,Nat.add_zero,Option.some.injEq,at_,Addr.mk.injEq] at y6
           obtain ⟨rfl,rfl,rfl⟩:=y6
           obtain ⟨G,g1,g2,g3⟩:=hr.row
           refine⟨_,hA,rfl,jC.cap,jC.wr,fun j hj=>⟨jC.inF j hj,?_⟩,G,g1,fun j hj=>g2 j (by omega),fun b o aD=>⟨g3 b o aD,?_⟩⟩
           ·rintro ⟨_,h1,_⟩;simp only at h1;omega
           ·rintro ⟨rfl,h1,h2⟩
            have:=g2 (o-o') (by omega)
            simp only at this
            rw [show o' +(o-o')=o by omega] at this
            exact this aD
        ·simp only [cR]
         refine⟨_,_,rfl,rfl,ver,xs,A,k,(ι id).cap,fun _=>by rw [l3];exact fun h=>h,fun eo bU=>by rw [l3] at bU;exact⟨(cj.b_.inj bU).symm,rfl,hh⟩,hv,.inr ⟨b,o,fun _ _=>ep,hr.cap,by have:=hh.cap;simp only [d_] at this;omega,?_,hr.wr,fun j h1 h2=>⟨hr.inF j h2,rfl,by omega,by omega⟩⟩⟩
         rcases hh.at_ with h0 | ⟨a1,mZ,y6⟩
         ·exact .inl h0
         ·rw [ep] at mZ
          obtain rfl:=aX mZ
          right;rw [y6];simp [d_,at_]
        ·rintro b o (hf | hf)
         ·exact⟨id,b8,hf.1⟩
         ·exact⟨id,b8,hf.1⟩
      | _=>rw [ho] at hi;simp at hi
    | bA u dp ct xs =>
     simp only [aa.fc] at hi
     obtain ⟨Cc,ic,hi⟩:=bj hi
     obtain rfl:=aX hi
     cases ct with
     | none=>simp [tz] at ic
     | some p =>
      simp only [tz] at ic
      cases eS:p.fb with
      | none=>rw [eS] at ic;simp at ic
      | some i =>
       rw [eS] at ic
       cases ho:s.o p.id with
       | row T em ver ys =>
        rw [ho] at ic
        simp only at ic
        cases hb:(alive s dp&&bg.beq em T.own&&bg.beq e t.own)
        ·rw [hb] at ic;simp at ic
        rw [hb] at ic
        simp only [cond_true] at ic
        simp only [Bool.and_eq_true] at hb
        obtain rfl:=bg.eq_of_beq _ _ hb.1.2
        obtain rfl:=bg.eq_of_beq _ _ hb.2
        obtain ⟨x,hx,ic⟩:=bj ic
        obtain rfl:=aX ic
        obtain ⟨_,_,_,kK⟩:=hc.1
        obtain ⟨_,kK⟩:=kK _ rfl
        obtain ⟨cJ,dF,⟨_,fV⟩,hcell,hin⟩:=kK hb.1.1
        simp only [ho,cj.core] at fV
        obtain ⟨dP,hii,kL,a0,ep,mT⟩:=fV
        rw [eS] at hii
        obtain rfl:=aX hii
        have b8:(s.o p.id).live:=by rw [ho];trivial
        have aD:fl s ι Z (s.bL p.id (.b_ (.row T T.own ver ys))) Z:=by have:=y1 (s:=s) (ι := ι) (Z:=Z) b8;rw [ho] at this;exact this
        have fS:bE w0 F0 (s.bL p.id (.b_ (.row T T.own ver ys))) w ι Z (ι p.id).F:=by have:=h.y2 b8;rw [ho] at this;exact this
        have cU:=h.fP p.id
        rw [ho] at cU
        rcases cU with⟨hx0,_⟩ | ⟨a1,hb1,hr⟩
        ·rw [hx0] at kL;simp at kL
        rw [ep] at hb1
        obtain rfl:=aX hb1
        obtain ⟨ab,ao,sp⟩:=a0
        have hsp:=hr.spot
        simp only at hsp
        subst hsp
        obtain ⟨eG,H1,dn,eh,nZ,oU⟩:=hr.lens kL hx
        rw [← mT] at dn
        have J9:eG=v:=by rw [hcell] at dn;exact(aX dn).symm
        subst J9
        have l3:(s.bL p.id (.b_ (.row T T.own ver ys))).o p.id=.b_ (.row T T.own ver ys):=cz _ _ _
        refine⟨[.bA u dp (some p) xs],[eG],vs,H1,ag.diff (ι p.id).F H1,rfl,rfl,h.l2 aD,aD,hc.2.move aD.d',fS.sub nZ,fS.sub fun _ _ h=>h.1,fun b o h1 h2=>h2.2 h1,eh,?_,?_⟩
        ·simp only [cR]
         exact⟨_,_,rfl,rfl,p,i,T,ver,ys,ab,ao,(ι p.id).cap,rfl,eS,fun _=>by rw [l3];exact fun h=>h,fun eo bU=>by rw [l3] at bU;exact⟨(cj.b_.inj bU).symm,ep,rfl⟩,kL,rfl,oU⟩
        ·rintro b o (hf | hf)
         ·exact⟨p.id,b8,nZ b o hf⟩
         ·exact⟨p.id,b8,hf.1⟩
       | _=>rw [ho] at ic;simp at ic
    | _=>simp [aa.fc] at hi
 | .st aj,m,cs,s,r,vs,hi,h,hc=>by
  simp only [aa.fc] at hi
  have:=az.y5 aj m.parts cs s r vs hi h hc
  simpa only [aa.an,cR] using this
theorem az.y5:∀(aj:az) (m:cM) (cs:List bb) (s:al) (r:aj.D×List bb×al) (vs:List Value),aj.fc m cs s=some r→Inv w0 F0 Z0 n s a w ι Z→bF w Z s ι cs vs →
  J7 w0 F0 Z0 n s a w ι Z (fun us F=>aj.an w Z m r.1 us F) (fun s c us H=>fB true w Z s ι aj m c us H) cs vs r.2.1 r.2.2
 | .nil,m,cs,s,r,vs,hi,h,hc=>by
  simp only [az.fc] at hi
  obtain rfl:=aX hi
  exact⟨[],[],vs,ag.none,ag.none,rfl,rfl,h,.refl,hc,.none,.none,fun _ _ h=>h.elim,by simp only [az.an],by simp [fB],fun _ _ h=>h.elim (fun h=>h.elim) fun h=>h.elim⟩
 | .cons t aj,m,cs,s,r,vs,hi,h,hc=>by
  simp only [az.fc] at hi
  obtain ⟨bw,h1,hi⟩:=bj hi
  obtain ⟨b9,h2,hi⟩:=bj hi
  obtain rfl:=aX hi
  obtain ⟨c1,us1,vs1,F1,H1,e1,e2,i1,g1,cP,f1,y7,a1,dQ,k1,dn⟩:=aa.y5 t m.ah cs s bw vs h1 h hc
  obtain ⟨gv,us2,vs2,dE,H2,d1,d2,i2,g2,dU,f2,ac3,a2,e5,k2,eh⟩:=az.y5 aj m.du bw.2.1 bw.2.2 b9 vs1 h2 i1 cP
  have hap:∀ {X:ag},bE w0 F0 bw.2.2 w ι Z X→∀b o,X b o→(dE b o∨H2 b o)→False:=by
   intro X hX b o hx hh
   obtain ⟨id,hl,hf⟩:=eh b o hh
   exact hX.apart id hl b o hx hf
  refine⟨c1++gv,us1++us2,vs2,F1.or dE,H1.or H2,by rw [e1,d1,List.append_assoc],by rw [e2,d2,List.append_assoc],i2,g1.trans g2,dU,(f1.tY g2).or f2,(y7.tY g2).or ac3,?_,?_,?_,?_⟩
  ·rintro b o (hf | hf) (hh | hh)
   ·exact a1 b o hf hh
   ·exact hap f1 b o hf (.inr hh)
   ·exact hap y7 b o hh (.inl hf)
   ·exact a2 b o hf hh
  ·simp only [az.an]
   exact⟨us1,us2,F1,dE,rfl,dQ,e5,fun b o h1 h2=>hap f1 b o h1 (.inl h2),fun _ _ h=>.inl h,fun _ _ h=>.inr h⟩
  ·simp only [fB]
   exact⟨c1,gv,us1,us2,H1,H2,rfl,rfl,cR.move (g2.held H1) (fun _ _ h=>h) t m.ah k1,k2,fun b o h1 h2=>hap y7 b o h1 (.inr h2),fun _ _ h=>.inl h,fun _ _ h=>.inr h⟩
  ·rintro b o ((hf | hf) | (hf | hf))
   ·exact dn b o (.inl hf)
   ·obtain ⟨id,hl,ql⟩:=eh b o (.inl hf);exact⟨id,(g1.live hl).1,ql⟩
   ·exact dn b o (.inr hf)
   ·obtain ⟨id,hl,ql⟩:=eh b o (.inr hf);exact⟨id,(g1.live hl).1,ql⟩
end
end
end Go.LM
namespace Go.LM
section
variable{P:Program}{Q:Exit→Act→World→Prop}
variable{w0:World}{F0 Z0:ag}{n:cB}{s aq:al}{a b6:Act}{w w':World}{ι bh:Nat→bC}{Z Z':ag}
theorem Cd{t:aa}{x:a'}{v:Value}(hf:nP t x=true)(hv:aT w Z s ι x v):v=dD t v.cells.toList:=by
 cases t <;> cases x <;> simp only [nP] at hf <;> try (simp at hf;done)
 all_goals simp only [aT] at hv
 all_goals first
  | (rw [JC hv.dS];rfl)
  | (subst hv;rfl)
  | (obtain ⟨vs,rfl,_⟩:=hv;simp [dD,Value.cells])
theorem SD(h:Inv w0 F0 Z0 n s a w ι Z){k:Nat}{p:Place}{cs:List bb}{A:Addr}(hr:lS s k p=some cs)(av:je s ι p A) :
  ∃b o vs,A=at_ b o∧bF w Z s ι cs vs∧b2 w b o vs∧vs.length=k∧(s.o p.id).live∧∀j,j<k→(ι p.id).F b (o+j):=by
 obtain ⟨b,o,vs,rfl,h1,h2,h3⟩:=yR h hr av
 refine⟨b,o,vs,rfl,h1,h2,h3,?_⟩
 obtain ⟨hs,av⟩:=av
 unfold lS at hr
 cases ho:s.o p.id with
 | var ver old =>
  rw [ho] at hr av
  obtain ⟨he,a0,hb,hA⟩:=av
  rw [he] at hr
  obtain ⟨hle,rfl⟩:=oS hr
  have cU:=h.fP p.id
  rw [ho] at cU
  obtain ⟨wO,bD,dV,hsp,hc,cm,hF⟩:=cU
  rw [hb] at dV
  obtain rfl:=aX dV
  simp only [at_,Addr.mk.injEq,and_true] at hA
  obtain ⟨rfl,rfl⟩:=hA
  refine⟨trivial,fun j hj=>?_⟩
  have:=(hF (p.off+j) (by omega)).2
  rwa [← Nat.add_assoc] at this
 | row t em ver xs =>
  rw [ho] at hr av
  obtain ⟨i,he,hi,a0,hb,hA⟩:=av
  rw [he] at hr
  obtain ⟨hle,rfl⟩:=oS hr
  have cU:=h.fP p.id
  rw [ho] at cU
  obtain ⟨wO,bD,dV,hsp,hc,cm,hl⟩:=RB h ho hi
  rcases cU with⟨rfl,_⟩ | ⟨a1,hb1,hrow⟩
  ·simp at hi
  rw [hb] at hb1
  obtain rfl:=aX hb1
  simp only [at_,Addr.mk.injEq,and_true] at hA
  obtain ⟨rfl,rfl⟩:=hA
  refine⟨trivial,fun j hj=>?_⟩
  have hcl:=hc.len
  have Jv:(i+1)*t.size≤(ι p.id).cap*t.size:=Nat.mul_le_mul_right _ (by have:=hrow.cap;omega)
  rw [Nat.add_one_mul] at Jv
  have:=hrow.inF (i*t.size+p.off+j) (by omega)
  rwa [show a0.off +(i*t.size+p.off+j)=a0.off+i*t.size+p.off+j by omega] at this
 | none=>rw [ho] at hr;simp at hr
 | dead=>rw [ho] at hr;simp at hr
 | b_=>rw [ho] at hr;simp at hr
def Ce(w0:World)(F0 Z0:ag)(n:cB)(s:al)(a:Act)(w:World)(ι : Nat→bC)(Z:ag)(key:Nat)(bq:List (Nat×Nat))(ps:List bt)(vs:List a')(us:List Value)(q:(bt.ins ps).D×al×List (Nat×Nat)):Prop :=
 ∃F H cr,Inv w0 F0 Z0 n q.2.1 a w ι cr∧fl s ι Z q.2.1 cr∧gm w (cr.or (dd ι q.2.2)) key ps q.1 us F∧eO true w cr q.2.1 ι ps vs us H∧bE w0 F0 q.2.1 w ι cr F∧bE w0 F0 q.2.1 w ι cr H∧ag.apart F H ∧
  (∃nb,q.2.2=nb++bq)∧(∀d,d∈q.2.2→eg q.2.1 d)∧∀b o,F b o∨H b o→∃id,(s.o id).live∧(ι id).F b o
theorem J_(h:fl s ι Z aq Z'){d:Nat×Nat}(ah:eg s d):eg aq d:=(h.d' (w:=default)).turns.dep ah
theorem xa{key:Nat}{sp:bt}{ps:List bt}{v:a'}{vs:List a'}{u:Value}{us:List Value}{bq J' nb:List (Nat×Nat)}{s1:al}{cr F1 H1:ag}{q:(bt.ins ps).D×al×List (Nat×Nat)}{x:(bt.ins (sp :: ps)).D}
  (g1:fl s ι Z s1 cr) (f1:bE w0 F0 s1 w ι cr F1) (h1:bE w0 F0 s1 w ι cr H1) (a1:ag.apart F1 H1) (src:∀b o,F1 b o∨H1 b o→∃id,(s.o id).live∧(ι id).F b o) (xb:J'=nb++bq)
  (hr:Ce w0 F0 Z0 n s1 a w ι cr key J' ps vs us q)
  (hA:∀(bJ dE:ag),ag.sub (cr.or (dd ι J')) bJ→gm w bJ key ps q.1 us dE→ag.apart F1 dE→gm w bJ key (sp :: ps) x (u :: us) (F1.or dE))
  (J8:∀(s2:al) (bJ H2:ag),fl s1 ι cr s2 bJ→eO true w bJ s2 ι ps vs us H2→ag.apart H1 H2→eO true w bJ s2 ι (sp :: ps) (v :: vs) (u :: us) (H1.or H2)) :
  Ce w0 F0 Z0 n s a w ι Z key bq (sp :: ps) (v :: vs) (u :: us) (x,q.2):=by
 obtain ⟨dE,H2,bJ,i2,g2,b9,k2,f2,h2,a2,⟨Jt,la⟩,d2,s2⟩:=hr
 have hap:∀ {X:ag},bE w0 F0 s1 w ι cr X→∀b o,X b o→(dE b o∨H2 b o)→False:=by
  intro X hX b o hx hh
  obtain ⟨id,hl,hf⟩:=s2 b o hh
  exact hX.apart id hl b o hx hf
 refine⟨F1.or dE,H1.or H2,bJ,i2,g1.trans g2,hA _ _ ?_ b9 (fun b o h1 h2=>hap f1 b o h1 (.inl h2)),J8 _ _ _ g2 k2 (fun b o x y=>hap h1 b o x (.inr y)),(f1.tY g2).or f2,(h1.tY g2).or h2,?_,⟨Jt++nb,by show q.2.2=_;rw [la,xb,List.append_assoc]⟩,d2,?_⟩
 ·rintro b o (hz | hz)
  ·exact .inl (g2.dC b o hz)
  ·show bJ b o∨dd ι q.2.2 b o
   rw [la];exact .inr (Jp _ _ _ b o hz)
 ·rintro b o (hf | hf) (hh | hh)
  ·exact a1 b o hf hh
  ·exact hap f1 b o hf (.inr hh)
  ·exact hap h1 b o hh (.inl hf)
  ·exact a2 b o hf hh
 ·rintro b o ((hf | hf) | (hf | hf))
  ·exact src b o (.inl hf)
  ·obtain ⟨id,hl,ql⟩:=s2 b o (.inl hf);exact⟨id,(g1.live hl).1,ql⟩
  ·exact src b o (.inr hf)
  ·obtain ⟨id,hl,ql⟩:=s2 b o (.inr hf);exact⟨id,(g1.live hl).1,ql⟩
theorem Ka{sp:bt}{ps:List bt}{v:a'}{vs:List a'}{u:Value}{us:List Value}{H fT:ag}(hsp:(∃t m,sp=.val t m)∨(∃t,sp=.ref t)∨(∃a b,sp=.fn a b)∨∃t,sp=.gZ t)(cD:ag.sub H fT)
  (h:eO true w Z s ι ps vs us H) (hz:gy true w Z s ι w Z s ι H):eO true w Z s ι (sp :: ps) (v :: vs) (u :: us) fT:=by
 have:=eO.move hz cD ps h
 rcases hsp with⟨t,m,rfl⟩ | ⟨t,rfl⟩ | ⟨a,b,rfl⟩ | ⟨t,rfl⟩ <;> exact⟨v,vs,u,us,rfl,rfl,this⟩
theorem Kb:∀ {x:List a'} {us:List Value},a8 w Z s ι x us→us.length=x.length
 | [],_,h=>by simp only [a8] at h;rw [h];rfl
 | _ :: _,_,h=>by
  simp only [a8] at h
  obtain ⟨u,aV,rfl,_,h2⟩:=h
  simp [Kb h2]
theorem qm{key:Nat} : ∀(ps:List bt) (vs:List a') (us:List Value) (s:al) (Z:ag) (bq:List (Nat×Nat)) (q:(bt.ins ps).D×al×List (Nat×Nat)),gb key s ps vs bq=some q→Inv w0 F0 Z0 n s a w ι Z →
  a8 w Z s ι vs us→(∀d,d∈bq→eg s d)→Ce w0 F0 Z0 n s a w ι Z key bq ps vs us q
 | [],vs,us,s,Z,bq,q,hm,h,hv,hb=>by
  cases vs with
  | cons=>simp [gb] at hm
  | nil =>
   simp only [gb,Option.some.injEq] at hm
   subst hm
   simp only [a8] at hv
   exact⟨ag.none,ag.none,Z,h,.refl,hv,trivial,.none,.none,fun _ _ h=>h.elim,⟨[],rfl⟩,hb,fun _ _ h=>h.elim (fun h=>h.elim) fun h=>h.elim⟩
 | .fn lR oL :: ps,vs,us,s,Z,bq,q,hm,h,hv,hb=>by
  cases vs with
  | nil=>simp [gb] at hm
  | cons v vs =>
   cases v <;> simp only [gb] at hm <;> try (simp at hm;done)
   rename_i g ac4 J0
   cases aD:(Nat.beq g key&&Nat.beq ac4.length lR&&Nat.beq J0.length oL)
   ·rw [aD] at hm;cases hm
   rw [aD] at hm
   simp only [Bool.and_eq_true] at aD
   obtain ⟨⟨aD,SE⟩,Cf⟩:=aD
   have aD:=Nat.eq_of_beq_eq_true aD
   have SE:=Nat.eq_of_beq_eq_true SE
   have Cf:=Nat.eq_of_beq_eq_true Cf
   subst aD
   simp only [a8,aT] at hv
   obtain ⟨u,aV,rfl,⟨x,y,hx,ac5,Sd⟩,fR⟩:=hv
   have aqZ:=Kb ac5
   have aq0:=Kb Sd
   obtain ⟨F,H,cr,i1,g1,bw,k1,f1,h1,a1,fj,d1,s1⟩:=qm ps vs aV s Z bq q hm h fR hb
   exact⟨F,H,cr,i1,g1,⟨_,_,aV,by rw [hx],⟨by simp;omega,by simp;omega⟩,bw⟩,⟨_,_,_,_,rfl,rfl,k1⟩,f1,h1,a1,fj,d1,s1⟩
 | .val t m :: ps,vs,us,s,Z,bq,q,hm,h,hv,hb=>by
  cases vs with
  | nil=>simp [gb] at hm
  | cons v vs =>
   simp only [gb] at hm
   cases hf:nP t v
   ·rw [hf] at hm;simp at hm
   rw [hf] at hm
   simp only [cond_true] at hm
   cases hcs:iy t v with
   | none=>rw [hcs] at hm;simp at hm
   | some cs =>
    rw [hcs] at hm
    simp only at hm
    obtain ⟨r,hr,hm⟩:=bj hm
    cases ea:r.2.1 with
    | cons=>rw [ea] at hm;simp at hm
    | nil =>
     rw [ea] at hm
     simp only at hm
     obtain ⟨p,av,hm⟩:=bj hm
     obtain rfl:=aX hm
     simp only [a8] at hv
     obtain ⟨u,aV,rfl,hu,fR⟩:=hv
     obtain ⟨us1,vs1,F1,cr,e1,i1,s1,c1,f1,bw,⟨nb,fj⟩,_,d1,g1⟩:=aa.k_ t true m cs s bq r _ Z hr h (rL hcs hu) hb
     rw [ea] at c1
     have hvs1:vs1=[]:=by cases vs1 with | nil=>rfl | cons=>exact c1.elim
     subst hvs1
     rw [List.append_nil] at e1
     have hw:=Cd hf hu
     rw [e1] at hw
     have m2:=qm ps vs aV r.2.2.1 cr r.2.2.2 p av i1 (a8.move s1.d' fR) d1
     refine xa s1.l2 f1 .none (fun _ _ _ h=>h) (fun b o hf=>hf.elim (g1 b o) fun h=>h.elim) fj m2 ?_ ?_
     ·intro bJ dE hZ hA hap
      exact⟨us1,aV,F1,dE,by rw [← hw],aa.an.mono hZ _ _ (fun _ _ h=>h) bw,hA,hap,fun _ _ h=>.inl h,fun _ _ h=>.inr h⟩
     ·intro s2 bJ H2 aD hk kM
      exact Ka (.inl ⟨_,_,rfl⟩) (fun _ _ h=>.inr h) hk (fl.refl.held H2)
 | .gZ t :: ps,vs,us,s,Z,bq,q,hm,h,hv,hb=>by
  cases vs with
  | nil=>simp [gb] at hm
  | cons v vs =>
   simp only [gb] at hm
   cases hf:nP t v
   ·rw [hf] at hm;simp at hm
   rw [hf] at hm
   simp only [cond_true] at hm
   cases hcs:iy t v with
   | none=>rw [hcs] at hm;simp at hm
   | some cs =>
    rw [hcs] at hm
    simp only at hm
    obtain ⟨r,hr,hm⟩:=bj hm
    cases ea:r.2.1 with
    | cons=>rw [ea] at hm;simp at hm
    | nil =>
     rw [ea] at hm
     simp only at hm
     obtain ⟨p,av,hm⟩:=bj hm
     obtain rfl:=aX hm
     simp only [a8] at hv
     obtain ⟨u,aV,rfl,hu,fR⟩:=hv
     obtain ⟨us1,vs1,F1,cr,e1,i1,s1,c1,f1,bw,⟨nb,fj⟩,_,d1,g1⟩:=aa.k_ t false .R cs s bq r _ Z hr h (rL hcs hu) hb
     rw [ea] at c1
     have hvs1:vs1=[]:=by cases vs1 with | nil=>rfl | cons=>exact c1.elim
     subst hvs1
     rw [List.append_nil] at e1
     have hw:=Cd hf hu
     rw [e1] at hw
     have m2:=qm ps vs aV r.2.2.1 cr r.2.2.2 p av i1 (a8.move s1.d' fR) d1
     refine xa s1.l2 f1 .none (fun _ _ _ h=>h) (fun b o hf=>hf.elim (g1 b o) fun h=>h.elim) fj m2 ?_ ?_
     ·intro bJ dE hZ hA hap
      exact⟨us1,aV,F1,dE,by rw [← hw],aa.an.mono hZ _ _ (fun _ _ h=>h) bw,hA,hap,fun _ _ h=>.inl h,fun _ _ h=>.inr h⟩
     ·intro s2 bJ H2 aD hk kM
      exact Ka (.inr (.inr (.inr ⟨_,rfl⟩))) (fun _ _ h=>.inr h) hk (fl.refl.held H2)
 | .gI t m :: ps,vs,us,s,Z,bq,q,hm,h,hv,hb=>by
  cases vs with
  | nil=>simp [gb] at hm
  | cons v vs =>
   simp only [gb] at hm
   cases hf:(nP t v&&bg.beq m t.own)
   ·rw [hf] at hm;simp at hm
   rw [hf] at hm
   simp only [cond_true] at hm
   simp only [Bool.and_eq_true] at hf
   obtain ⟨hf,qk⟩:=hf
   have qk:=bg.eq_of_beq _ _ qk
   cases hcs:iy t v with
   | none=>rw [hcs] at hm;simp at hm
   | some cs =>
    rw [hcs] at hm
    simp only at hm
    obtain ⟨r,hr,hm⟩:=bj hm
    cases ea:r.2.1 with
    | cons=>rw [ea] at hm;simp at hm
    | nil =>
     rw [ea] at hm
     simp only at hm
     obtain ⟨p,av,hm⟩:=bj hm
     obtain rfl:=aX hm
     simp only [a8] at hv
     obtain ⟨u,aV,rfl,hu,fR⟩:=hv
     obtain ⟨c1,us1,vs1,F1,H1,e0,e1,i1,g1,cP,f1,y7,a1,bw,k1,dn⟩:=aa.y5 t m cs s r _ hr h (rL hcs hu)
     rw [ea] at cP e0
     have hvs1:vs1=[]:=by cases vs1 with | nil=>rfl | cons=>exact cP.elim
     subst hvs1
     rw [List.append_nil] at e1 e0
     subst e0
     have hw:=Cd hf hu
     have m2:=qm ps vs aV r.2.2 Z bq p av i1 (a8.move g1.d' fR) (fun d ah=>J_ g1 (hb d ah))
     refine xa (nb:=[]) g1 f1 y7 a1 dn rfl m2 ?_ ?_
     ·intro bJ dE hZ hA hap
      exact⟨us1,aV,F1,dE,by rw [← e1,← hw],aa.an.mono (fun b o hz=>hZ b o (.inl hz)) _ _ (fun _ _ h=>h) bw,hA,hap,fun _ _ h=>.inl h,fun _ _ h=>.inr h⟩
     ·intro s2 bJ H2 aD hk kM
      refine⟨v,vs,u,aV,cs,H1,H2,rfl,rfl,hcs,qk,?_,hk,kM,fun _ _ h=>.inl h,fun _ _ h=>.inr h⟩
      rw [e1]
      exact cR.move (aD.held H1) (fun _ _ h=>h) t m k1
 | .ref t :: ps,vs,us,s,Z,bq,q,hm,h,hv,hb=>by
  cases vs with
  | nil=>simp [gb] at hm
  | cons v vs =>
   simp only [a8] at hv
   obtain ⟨u,aV,rfl,hu,fR⟩:=hv
   have go:∀(cs:List bb) (mL:List (Nat×Nat)) (b o:Nat) (ws:List Value),bF w Z s ι cs ws→b2 w b o ws→ws.length=t.size→u=.pointer (some (at_ b o))→(∃nb,mL=nb++bq)→(∀d,d∈mL→eg s d) →
     (∀j,j<t.size→Z.or (dd ι mL) b (o+j)) →
     ((t.imp true .R cs s mL).bind fun r=>match r.2.1 with | []=>(gb key r.2.2.1 ps vs r.2.2.2).bind fun q=>some ((r.1,q.1),q.2) | _=>none)=some q→Ce w0 F0 Z0 n s a w ι Z key bq (.ref t :: ps) (v :: vs) (u :: aV) q:=by
    intro cs mL b o ws tM cm tL jg ⟨ac6,ac7⟩ ac8 hin hm
    obtain ⟨r,hr,hm⟩:=bj hm
    cases ea:r.2.1 with
    | cons=>rw [ea] at hm;simp at hm
    | nil =>
     rw [ea] at hm
     simp only at hm
     obtain ⟨p,av,hm⟩:=bj hm
     obtain rfl:=aX hm
     obtain ⟨us1,vs1,F1,cr,e1,i1,s1,c1,f1,bw,⟨nb,fj⟩,_,d1,g1⟩:=aa.k_ t true .R cs s mL r _ Z hr h tM ac8
     rw [ea] at c1
     have hvs1:vs1=[]:=by cases vs1 with | nil=>rfl | cons=>exact c1.elim
     subst hvs1
     rw [List.append_nil] at e1
     subst e1
     have m2:=qm ps vs aV r.2.2.1 cr r.2.2.2 p av i1 (a8.move s1.d' fR) d1
     refine xa (nb:=nb++ac6) s1.l2 .none .none (fun _ _ h=>h.elim) (fun b o hf=>hf.elim (fun h=>h.elim) fun h=>h.elim) (by rw [fj,ac7,List.append_assoc]) m2 ?_ ?_
     ·intro bJ dE hZ hA hap
      refine⟨b,o,ws,aV,by rw [jg],cm,aa.an.mono hZ _ _ (fun _ _ h=>h) (rC bw),fun j hj=>hZ _ _ ?_,gm.mono (fun _ _ h=>h) ps (fun _ _ h=>.inr h) hA⟩
      rcases hin j hj with hz | hz
      ·exact .inl (s1.dC _ _ hz)
      ·rw [fj];exact .inr (Jp _ _ _ _ _ hz)
     ·intro s2 bJ H2 aD hk kM
      exact Ka (.inr (.inl ⟨_,rfl⟩)) (fun _ _ h=>.inr h) hk (fl.refl.held H2)
   cases v <;> simp only [gb] at hm <;> try (simp at hm;done)
   ·rename_i p
    cases hr:lS s t.size p with
    | none=>rw [hr] at hm;simp at hm
    | some cs =>
     rw [hr] at hm
     simp only [aT] at hu
     obtain ⟨hk,A,hu,av⟩:=hu
     obtain ⟨b,o,ws,rfl,h1,h2,h3,h4,a7⟩:=SD h hr av
     refine go cs ((p.id,km s p.id) :: bq) b o ws h1 h2 h3 hu ⟨[_],rfl⟩ ?_ (fun j hj=>.inr ⟨_,List.mem_cons_self,a7 j hj⟩) hm
     intro d ah
     rcases List.mem_cons.1 ah with rfl | ah
     ·exact⟨hk,.inr (Nat.le_refl _)⟩
     ·exact hb d ah
   ·rename_i dp cs off
    cases ht:takeN off t.size cs with
    | none=>rw [ht] at hm;simp at hm
    | some ds =>
     rw [ht] at hm
     simp only at hm
     cases dq:alive s dp
     ·rw [dq] at hm;simp at hm
     rw [dq] at hm
     simp only [cond_true] at hm
     obtain ⟨hle,rfl⟩:=oS ht
     simp only [aT] at hu
     obtain ⟨ah,b,o,ws,hu,hx⟩:=hu
     obtain ⟨h1,h2,h3⟩:=hx dq
     have hl:=h1.len
     refine go _ (dp++bq) b (o+off) ((ws.drop off).take t.size) ((h1.drop off).take _) (h2.part off _) (by simp;omega) hu ⟨dp,rfl⟩ ?_ ?_ hm
     ·intro d lW
      rcases List.mem_append.1 lW with h | h
      ·exact ah d h
      ·exact hb d h
     ·intro j hj
      have:=h3 (off+j) (by omega)
      rw [← Nat.add_assoc] at this
      rcases this with hz | ⟨d,ah,hf⟩
      ·exact .inl hz
      ·exact .inr ⟨d,List.mem_append.2 (.inl ah),hf⟩
 | .mut t m m' :: ps,vs,us,s,Z,bq,q,hm,h,hv,hb=>by
  cases vs with
  | nil=>simp [gb] at hm
  | cons v vs =>
   simp only [a8] at hv
   obtain ⟨u,aV,rfl,hu,fR⟩:=hv
   cases v <;> simp only [gb] at hm <;> try (simp at hm;done)
   rename_i p
   simp only [aT] at hu
   obtain ⟨hk,A,hu,av⟩:=hu
   obtain ⟨aq1,av⟩:=av
   cases ho:s.o p.id with
   | none=>rw [ho] at hm;simp at hm
   | dead=>rw [ho] at hm;simp at hm
   | b_=>rw [ho] at hm;simp at hm
   | var ver old =>
    rw [ho] at hm av
    obtain ⟨he,a0,ep,hA⟩:=av
    rw [he] at hm
    simp only at hm
    cases ht:takeN p.off t.size old with
    | none=>rw [ht] at hm;simp at hm
    | some cs =>
     rw [ht] at hm
     simp only at hm
     obtain ⟨hle,rfl⟩:=oS ht
     obtain ⟨r,hr,hm⟩:=bj hm
     cases ea:r.2.1 with
     | cons=>rw [ea] at hm;simp at hm
     | nil =>
      rw [ea] at hm
      simp only at hm
      obtain ⟨Kc,hq,hm⟩:=bj hm
      obtain rfl:=aX hm
      have b8:(s.o p.id).live:=by rw [ho];trivial
      have aD:fl s ι Z (s.bL p.id (.b_ (.var ver old))) Z:=by have:=y1 (s:=s) (ι := ι) (Z:=Z) b8;rw [ho] at this;exact this
      have fS:bE w0 F0 (s.bL p.id (.b_ (.var ver old))) w ι Z (ι p.id).F:=by have:=h.y2 b8;rw [ho] at this;exact this
      have cU:=h.fP p.id
      rw [ho] at cU
      obtain ⟨⟨b,o,sp⟩,ws,dV,hsp,hc,cm,hF⟩:=cU
      simp only at hsp
      subst hsp
      rw [ep] at dV
      obtain rfl:=aX dV
      have hl:=hc.len
      have l3:(s.bL p.id (.b_ (.var ver old))).o p.id=.b_ (.var ver old):=cz _ _ _
      have SF:=hc.move aD.d'
      obtain ⟨us1,vs1,F1,cr,e1,i1,s1,c1,f1,bw,⟨nb,fj⟩,_,d1,g1⟩:=aa.k_ t true m _ _ bq r _ Z hr (h.l2 aD) ((SF.drop p.off).take t.size) (fun d ah=>J_ aD (hb d ah))
      rw [ea] at c1
      have hvs1:vs1=[]:=by cases vs1 with | nil=>rfl | cons=>exact c1.elim
      subst hvs1
      rw [List.append_nil] at e1
      have m2:=qm ps vs aV r.2.2.1 cr r.2.2.2 Kc hq i1 (a8.move s1.d' (a8.move aD.d' fR)) d1
      have yP:=aD.trans s1.l2
      have hrun:ag.sub (ag.run b (o+p.off) t.size) (ι p.id).F:=by
       rintro b' o' ⟨rfl,h1,h2⟩
       have:=(hF (o'-o) (by omega)).2
       simp only at this
       rwa [show o +(o'-o)=o' by omega] at this
      have SG:=fS.shrink s1
      have SH:ag.apart F1 (ι p.id).F:=by
       intro b o h1 h2
       obtain ⟨id,hl,hf⟩:=g1 b o h1
       exact fS.apart id hl b o h2 hf
      refine xa (F1:=F1.or (ag.run b (o+p.off) t.size)) (H1:=ag.diff (ι p.id).F (ag.run b (o+p.off) t.size)) yP (f1.or (SG.sub hrun)) (SG.sub fun _ _ h=>h.1) ?_ ?_ fj m2 ?_ ?_
      ·rintro b o (hf | hf) hh
       ·exact SH b o hf hh.1
       ·exact hh.2 hf
      ·rintro b' o' ((hf | hf) | hh)
       ·obtain ⟨id,hl,ql⟩:=g1 b' o' hf;exact⟨id,(aD.live hl).1,ql⟩
       ·exact⟨p.id,b8,hrun b' o' hf⟩
       ·exact⟨p.id,b8,hh.1⟩
      ·intro bJ dE hZ o1 hap
       refine⟨b,o+p.off,us1,aV,F1,dE,by rw [hu,hA],?_,?_,aa.an.mono hZ _ _ (fun _ _ h=>h) bw,o1,hap,fun b o h1 h2=>SH b o h1 (hrun b o h2),fun _ _ h=>.inl h,fun _ _ h=>.inr h⟩
       ·rw [← e1];exact cm.part p.off t.size
       ·intro j hj
        have:=(hF (p.off+j) (by omega)).1
        rwa [← Nat.add_assoc] at this
      ·intro s2 bJ H2 Kd hkk kM
       refine⟨p,vs,u,aV,_,H2,rfl,rfl,.inl ?_,hkk,kM,fun _ _ h=>.inl h,fun _ _ h=>.inr h⟩
       refine w7.move ((s1.l2.trans Kd).held (ag.diff (ι p.id).F (ag.run b (o+p.off) t.size))) (fun _ _ h=>h) ?_
       refine⟨ver,old,b,o,ws,fun _=>by rw [l3];exact fun h=>h,fun eo bU=>by rw [l3] at bU;exact⟨(cj.b_.inj bU).symm,ep⟩,he,by rw [hu,hA],hle,SF,fun j hj=>(hF j hj).1,fun j hj hh=>⟨(hF j hj).2,?_⟩,fun j v hv hh=>cm j v hv⟩
       rintro ⟨_,h1,h2⟩
       omega
   | row gz em ver xs =>
    rw [ho] at hm av
    obtain ⟨i,he,hi,a0,ep,hA⟩:=av
    rw [he] at hm
    simp only at hm
    cases Cg:(Nat.beq p.off 0&&bg.beq em m&&bg.beq m' em&&bg.beq m t.own)
    ·rw [Cg] at hm;simp at hm
    rw [Cg] at hm
    simp only [Bool.and_eq_true] at Cg
    obtain ⟨⟨⟨hc1,hc2⟩,y8⟩,Ke⟩:=Cg
    have Ke:=bg.eq_of_beq _ _ Ke
    have hc1:=Nat.eq_of_beq_eq_true hc1
    have hc2:=bg.eq_of_beq _ _ hc2
    have y8:=bg.eq_of_beq _ _ y8
    subst hc2
    subst y8
    simp only [cond_true] at hm
    obtain ⟨x,hx,hm⟩:=bj hm
    obtain ⟨e1,rfl⟩:=BG hx
    subst e1
    obtain ⟨Kc,hq,hm⟩:=bj hm
    obtain rfl:=aX hm
    have b8:(s.o p.id).live:=by rw [ho];trivial
    have aD:fl s ι Z (s.bL p.id (.b_ (.row gz m' ver xs))) Z:=by have:=y1 (s:=s) (ι := ι) (Z:=Z) b8;rw [ho] at this;exact this
    have fS:bE w0 F0 (s.bL p.id (.b_ (.row gz m' ver xs))) w ι Z (ι p.id).F:=by have:=h.y2 b8;rw [ho] at this;exact this
    have cU:=h.fP p.id
    rw [ho] at cU
    rcases cU with⟨rfl,_⟩ | ⟨⟨b,o,sp⟩,dV,hrow⟩
    ·simp at hi
    have hsp:=hrow.spot
    simp only at hsp
    subst hsp
    rw [ep] at dV
    obtain rfl:=aX dV
    obtain ⟨G,g1,g2,g3⟩:=hrow.row
    obtain ⟨G1,iJ,G2,ws,k1,k2,k3,bf,bm,dJ,dG,cY,eb,dr,cC⟩:=g1.B9 i hi
    have l3:(s.bL p.id (.b_ (.row gz m' ver xs))).o p.id=.b_ (.row gz m' ver xs):=cz _ _ _
    have hcap:(i+1)*gz.size≤(ι p.id).cap*gz.size:=Nat.mul_le_mul_right _ (by have:=hrow.cap;omega)
    rw [Nat.add_one_mul] at hcap
    have hrun:ag.sub (ag.run b (o+i*gz.size) gz.size) (ι p.id).F:=by
     rintro b' o' ⟨rfl,h1,h2⟩
     have:=hrow.inF (o'-o) (by omega)
     simp only at this
     rwa [show o +(o'-o)=o' by omega] at this
    have Ch:∀ {X:ag},ag.sub X G→∀j,j<(ι p.id).cap*gz.size→¬X b (o+j):=fun hX j hj hh=>g2 j hj (hX _ _ hh)
    have rT:∀ {X:ag},ag.sub X G→ag.apart X (ag.run b (o+i*gz.size) gz.size):=by
     rintro X hX b' o' hx ⟨rfl,h1,h2⟩
     have:=Ch hX (o'-o) (by omega)
     rw [show o +(o'-o)=o' by omega] at this
     exact this hx
    have m2:=qm ps vs aV _ Z bq Kc hq (h.l2 aD) (a8.move aD.d' fR) (fun d ah=>J_ aD (hb d ah))
    have SI:ag.sub (iJ.or (ag.run b (o+i*gz.size) gz.size)) (ι p.id).F:=fun b o h=>h.elim (fun h=>g3 b o (dr b o h)) (hrun b o)
    have jg:u=.pointer (some (at_ b (o+i*gz.size))):=by rw [hu,hA,hc1];rfl
    refine xa (nb:=[]) (F1:=iJ.or (ag.run b (o+i*gz.size) gz.size)) (H1:=ag.diff (ι p.id).F (iJ.or (ag.run b (o+i*gz.size) gz.size))) aD (fS.sub SI) (fS.sub fun _ _ h=>h.1) (fun b o h1 h2=>h2.2 h1) ?_ rfl m2 ?_ ?_
    ·rintro b' o' (hf | hf)
     ·exact⟨p.id,b8,SI b' o' hf⟩
     ·exact⟨p.id,b8,hf.1⟩
    ·intro bJ dE hZ o1 hap
     refine⟨b,o+i*gz.size,ws,aV,iJ,dE,by rw [jg],bf,fun j hj=>?_,?_,o1,hap,rT dr,fun _ _ h=>.inl h,fun _ _ h=>.inr h⟩
     ·have:=(hrow.wr (i*gz.size+j) (by omega)).1
      rwa [← Nat.add_assoc] at this
     ·rw [di hi]
      exact aa.an.mono (fun b o hz=>hZ b o (.inl hz)) _ _ (fun _ _ h=>h) k2
    ·intro s2 bJ H2 Kd hkk kM
     refine⟨p,vs,u,aV,_,H2,rfl,rfl,.inr ⟨rfl,Ke,?_⟩,hkk,kM,fun _ _ h=>.inl h,fun _ _ h=>.inr h⟩
     refine w8.move (Kd.held (ag.diff (ι p.id).F (iJ.or (ag.run b (o+i*gz.size) gz.size)))) (fun _ _ h=>h) ?_
     refine⟨ver,xs,i,b,o,_,G1,G2,fun _=>by rw [l3];exact fun h=>h,fun eo bU=>by rw [l3] at bU;exact⟨(cj.b_.inj bU).symm,ep,rfl⟩,he,hi,jg,hrow.cap,hrow.wr,fun j hj hh=>⟨hrow.inF j hj,?_⟩,k1,bm,dG,fun b o aD=>⟨g3 b o (eb b o aD),?_⟩,fun b o aD=>⟨g3 b o (cC b o aD),?_⟩,fun j hj=>⟨Ch eb j hj,Ch cC j hj⟩⟩
     ·rintro (ac9 | ⟨_,h1,h2⟩)
      ·exact Ch dr j hj ac9
      ·rw [Nat.add_one_mul] at hh;omega
     ·rintro (hh | hh)
      ·exact dJ b o aD hh
      ·exact rT eb b o aD hh
     ·rintro (hh | hh)
      ·exact cY b o hh aD
      ·exact rT cC b o aD hh
end
end Go.LM
namespace Go.LM
section
variable{P:Program}{Q:Exit→Act→World→Prop}
variable{g:Bool}{w0:World}{F0 Z0:ag}{n:cB}{s aq:al}{a b6:Act}{w w' b7:World}{ι bh en:Nat→bC}{Z Z' bJ:ag}
theorem gy.trans{s2:al}{H:ag}(h:gy g w Z s ι w' Z' aq bh H)(k:gy g w' Z' aq bh b7 bJ s2 en H):gy g w Z s ι b7 bJ s2 en H:=by
 refine⟨fun x v hx=>k.aF x v (h.aF x v hx),fun c v hc=>k.cell c v (h.cell c v hc),fun b o hz=>k.dC b o (h.dC b o hz),fun id o' hn ho=>?_,fun aD id hn=>k.nl aD id (h.nl aD id hn),h.same.trans k.same,h.B'.trans ?_,fun b o hw=>k.wr b o (h.wr b o hw),fun z b o hw=>k.y3 z b o (h.y3 z b o hw)⟩
 ·obtain ⟨h1,h2⟩:=k.b_ id o' (fun aD=>h.nl aD id (hn aD)) ho
  obtain ⟨h3,h4⟩:=h.b_ id o' hn h1
  exact⟨h3,h2.trans h4⟩
 ·exact k.B'.mono h.dC
theorem Inv.ac_(h:Inv w0 F0 Z0 n s a w ι Z){id:Nat}{o:cj}{i:bC}(hnl:¬(s.o id).live)(ht:iD (s.o id) (ι id) o i)
  (cH:eA w Z s ι w Z (s.bL id o) (bP ι id i)→hO w Z (s.bL id o) (bP ι id i) i o) (hF:bE w0 F0 s w ι Z i.F) :
  Inv w0 F0 Z0 n (s.bL id o) a w (bP ι id i) Z∧eA w Z s ι w Z (s.bL id o) (bP ι id i):=by
 have hm:eA w Z s ι w Z (s.bL id o) (bP ι id i):=by
  refine⟨fun j=>?_,fun _ _ h=>h,b4.refl _ _⟩
  show iD (s.o j) (ι j) (bP s.o id o j) (bP ι id i j)
  by_cases hj:id=j
  ·subst hj;rw [cz,cz];exact ht
  ·rw [cK hj,cK hj];exact .stay _ _
 refine⟨?_,hm⟩
 refine h.next hm (Ext.refl _ ag.none) (fun _ _ h=>h.elim) (fun _ _ h=>.inl h) ?_ ?_ (fun k=>(h.tmps k).move hm) h.size h.defers
 ·intro j hl hne
  by_cases hj:id=j
  ·subst hj
   rw [cz]
   refine⟨by show hO _ _ _ _ _ (bP s.o id o id);rw [cz];exact cH hm,hF.own,fun nV gf jB=>?_⟩
   rw [cK jB]
   have eB:(s.o nV).live:=by
    have:(bP s.o id _ nV).live:=gf
    rwa [cK jB] at this
   exact hF.apart nV eB
  ·exact absurd ⟨cK hj,cK hj⟩ hne
 ·intro j hl
  by_cases hj:id=j
  ·subst hj;rw [cz];exact hF.cW
  ·rw [cK hj]
   have eB:(s.o j).live:=by
    have:(bP s.o id _ j).live:=hl
    rwa [cK hj] at this
   exact h.cW j eB
def n6(w0:World)(F0 Z0:ag)(n:cB)(s:al)(a:Act)(w:World)(ι : Nat→bC)(Z:ag)(aq:al)(eC:ag):Prop :=
 ∃ bh,Inv w0 F0 Z0 n aq a w bh Z∧gy false w Z s ι w Z aq bh (fun _ _=>True)∧(∀X,bE w0 F0 s w ι Z X→ag.apart X eC→bE w0 F0 aq w bh Z X)∧∀id,(s.o id).live→aq.o id=s.o id ∧ bh id = ι id
theorem tZ(h:Inv w0 F0 Z0 n s a w ι Z)(eC:ag):n6 w0 F0 Z0 n s a w ι Z s eC :=
 ⟨ι,h,⟨fun _ _ h=>h,fun _ _ h=>h,fun _ _ h=>h,fun _ _ _ h=>⟨h,rfl⟩,fun h=>by simp at h,b4.refl _ _,b4.refl _ _,fun _ _ h=>h,fun _ _ _ h=>h⟩,fun _ h _=>h,fun _ _=>⟨rfl,rfl⟩⟩
theorem Kf(h:Inv w0 F0 Z0 n s a w ι Z){id:Nat}{o:cj}{i:bC}(hnl:¬(s.o id).live)(ho:∀o',o≠.b_ o')(ht:iD (s.o id) (ι id) o i)
  (cH:eA w Z s ι w Z (s.bL id o) (bP ι id i)→hO w Z (s.bL id o) (bP ι id i) i o) (hF:bE w0 F0 s w ι Z i.F) :
  Inv w0 F0 Z0 n (s.bL id o) a w (bP ι id i) Z∧gy false w Z s ι w Z (s.bL id o) (bP ι id i) (fun _ _=>True)∧(∀X,bE w0 F0 s w ι Z X→ag.apart X i.F→bE w0 F0 (s.bL id o) w (bP ι id i) Z X) ∧
  ∀j,(s.o j).live→(s.bL id o).o j=s.o j∧bP ι id i j = ι j:=by
 obtain ⟨h1,hm⟩:=h.ac_ hnl ht cH hF
 refine⟨h1,⟨fun _ _=>aT.move hm,fun _ _=>cc.move hm,fun _ _ h=>h,fun j o' _ hj=>?_,fun h=>by simp at h,b4.refl _ _,b4.refl _ _,fun _ _ h=>h,fun _ _ _ h=>h⟩,fun X hX ha=>⟨hX.own,fun j hl=>?_,hX.cW⟩,fun j hl=>?_⟩
 ·have hj':bP s.o id o j=.b_ o':=hj
  by_cases hne:id=j
  ·subst hne;rw [cz] at hj';exact absurd hj' (ho o')
  ·rw [cK hne] at hj'
   exact⟨hj',cK hne⟩
 ·by_cases hne:id=j
  ·subst hne;rw [cz];exact ha
  ·rw [cK hne]
   have eB:(s.o j).live:=by
    have:(bP s.o id _ j).live:=hl
    rwa [cK hne] at this
   exact hX.apart j eB
 ·have hne:id≠j:=fun e=>hnl (e ▸ hl)
  exact⟨cK hne,cK hne⟩
theorem y9(h:Inv w0 F0 Z0 n s a w ι Z){id:Nat}{o:cj}{i:bC}(hnl:¬(s.o id).live)(ho:∀o',o≠.b_ o')(ht:iD (s.o id) (ι id) o i)
  (cH:eA w Z s ι w Z (s.bL id o) (bP ι id i)→hO w Z (s.bL id o) (bP ι id i) i o) (hF:bE w0 F0 s w ι Z i.F):n6 w0 F0 Z0 n s a w ι Z (s.bL id o) i.F:=⟨_,Kf h hnl ho ht cH hF⟩
mutual
theorem cR.len:∀(t:aa) (m:bg) {cs:List bb} {vs:List Value} {H:ag},cR g w Z s ι t m cs vs H→vs.length=t.size
 | .int _,_,_,_,_,hk=>by simp only [cR] at hk;rw [hk.2];rfl
 | .bool,_,_,_,_,hk=>by simp only [cR] at hk;rw [hk.2];rfl
 | .str,_,_,_,_,hk=>by simp only [cR] at hk;rw [hk.2];rfl
 | .raw,_,_,_,_,hk=>by simp only [cR] at hk;rw [hk.2];rfl
 | .sl t,.R,_,_,_,hk=>by simp only [cR] at hk
 | .sl t,.S _,_,_,_,hk=>by simp only [cR] at hk
 | .sl t,.O e,_,_,_,hk=>by simp only [cR] at hk;obtain ⟨c,v,_,rfl,_⟩:=hk;rfl
 | .st aj,m,_,_,_,hk=>by simp only [cR] at hk;simpa only [aa.size] using fB.len aj m.parts hk
theorem fB.len:∀(aj:az) (m:cM) {cs:List bb} {vs:List Value} {H:ag},fB g w Z s ι aj m cs vs H→vs.length=aj.size
 | .nil,_,_,_,_,hk=>by simp only [fB] at hk;rw [hk.2];rfl
 | .cons t aj,m,_,_,_,hk=>by
  simp only [fB] at hk
  obtain ⟨c1,gv,v1,v2,H1,H2,_,rfl,h1,h2,_⟩:=hk
  rw [List.length_append,cR.len t m.ah h1,fB.len aj m.du h2];rfl
end
mutual
theorem aa.y_:∀(t:aa) (m:bg) (x:t.D) (c1 rest:List bb) (s:al) (ι : Nat→bC) (r:List bb×al) (us:List Value) (F H:ag),t.back x (c1++rest) s=some r→Inv w0 F0 Z0 n s a w ι Z →
  cR false w Z s ι t m c1 us H→t.an w Z m x us F→bE w0 F0 s w ι Z F→bE w0 F0 s w ι Z H→ag.apart F H→r.1=rest∧n6 w0 F0 Z0 n s a w ι Z r.2 (F.or H)
 | .int k,m,x,c1,rest,s,ι,r,us,F,H,hb,h,hk,hr,hF,cD,ha=>by
  simp only [cR] at hk
  obtain ⟨hk,_⟩:=hk
  match c1,hk with
  | [c],_ =>
   simp only [aa.back,List.cons_append,List.nil_append,Option.some.injEq] at hb
   subst hb;exact⟨rfl,tZ h _⟩
 | .bool,m,x,c1,rest,s,ι,r,us,F,H,hb,h,hk,hr,hF,cD,ha=>by
  simp only [cR] at hk
  obtain ⟨hk,_⟩:=hk
  match c1,hk with
  | [c],_ =>
   simp only [aa.back,List.cons_append,List.nil_append,Option.some.injEq] at hb
   subst hb;exact⟨rfl,tZ h _⟩
 | .str,m,x,c1,rest,s,ι,r,us,F,H,hb,h,hk,hr,hF,cD,ha=>by
  simp only [cR] at hk
  obtain ⟨hk,_⟩:=hk
  match c1,hk with
  | [c],_ =>
   simp only [aa.back,List.cons_append,List.nil_append,Option.some.injEq] at hb
   subst hb;exact⟨rfl,tZ h _⟩
 | .raw,m,x,c1,rest,s,ι,r,us,F,H,hb,h,hk,hr,hF,cD,ha=>by
  simp only [cR] at hk
  obtain ⟨hk,_⟩:=hk
  match c1,hk with
  | [c],_ =>
   simp only [aa.back,List.cons_append,List.nil_append,Option.some.injEq] at hb
   subst hb;exact⟨rfl,tZ h _⟩
 | .sl t,.R,x,c1,rest,s,ι,r,us,F,H,hb,h,hk,hr,hF,cD,ha=>by
  simp only [cR] at hk
 | .sl t,.S _,x,c1,rest,s,ι,r,us,F,H,hb,h,hk,hr,hF,cD,ha=>by
  simp only [cR] at hk
 | .sl t,.O e,x,c1,rest,s,ι,r,us,F,H,hb,h,hk,hr,hF,cD,ha=>by
  simp only [cR] at hk
  obtain ⟨c,v,rfl,rfl,hk⟩:=hk
  cases c with
  | nil u =>
   simp only [aa.back,List.cons_append,List.nil_append,Option.some.injEq] at hb
   subst hb;exact⟨rfl,tZ h _⟩
  | ah id sub =>
   cases sub with
   | some=>exact hk.elim
   | none =>
    simp only at hk
    obtain ⟨ver,xs,A,k,rR,_,hl,hv,hk⟩:=hk
    simp only [aa.back,List.cons_append,List.nil_append] at hb
    cases ho:s.o id with
    | b_ eo =>
     rw [ho] at hb
     obtain ⟨rfl,hcap,hh⟩:=hl eo ho
     simp only at hb
     obtain ⟨y,a_,hb2⟩:=bj hb
     obtain ⟨e1,t_⟩:=gK a_
     have t_:x=y:=t_.symm
     subst t_
     obtain rfl:=aX hb2
     refine⟨rfl,?_⟩
     simp only [aa.an] at hr
     obtain ⟨mQ,k',k9,hr⟩:=hr
     rw [hv] at k9
     simp only [List.cons.injEq,Value.slice.injEq,and_true] at k9
     obtain ⟨rfl,hlen,rfl⟩:=k9
     have y':=y9 h (id:=id) (o:=.row t e (ver+1) x) (i:=⟨(ι id).base,(ι id).cap,F.or H⟩) (by rw [ho];exact fun h=>h) (fun o'=>by simp) (by rw [ho];exact .rF _ _ _ _ _ _ _ _ _ (by omega) hlen.symm rfl rfl) ?_ (hF.or cD)
     ·exact y'
     intro hm
     rcases hk with⟨rfl,o2⟩ | ⟨b,o,ep,Kg,ac2,hA,hwr,hd⟩
     ·left
      refine⟨List.eq_nil_of_length_eq_zero (by rw [← hlen];rfl),?_⟩
      show(ι id).cap=0
      rw [hcap,o2]
     ·right
      refine⟨at_ b o,ep _ ho,?_⟩
      rcases hr with⟨rfl,rfl⟩ | ⟨⟨b',o',sp⟩,o1,hr⟩
      ·refine⟨rfl,Nat.zero_le _,?_,?_,ag.none,trivial,fun _ _ h=>h,fun _ _ h=>h.elim⟩
       ·show ∀j,j<(ι id).cap*t.size→_
        rw [hcap];exact hwr
       ·show ∀j,j<(ι id).cap*t.size→_
        rw [hcap];exact fun j hj=>.inr (hd j (by omega) hj)
      ·have hx0:=hr.cap
       by_cases hk0:k=0
       ·subst hk0
        have:x=[]:=List.eq_nil_of_length_eq_zero (by omega)
        subst this
        refine⟨rfl,Nat.zero_le _,?_,?_,ag.none,trivial,fun _ _ h=>h,fun _ _ h=>h.elim⟩
        ·show ∀j,j<(ι id).cap*t.size→_
         rw [hcap];exact hwr
        ·show ∀j,j<(ι id).cap*t.size→_
         rw [hcap];exact fun j hj=>.inr (hd j (by omega) hj)
       ·have hA:=hA.resolve_left hk0
        rw [o1] at hA
        simp only [at_,Option.some.injEq,Addr.mk.injEq] at hA
        obtain ⟨rfl,rfl,rfl⟩:=hA
        obtain ⟨G,g1,g2,g3⟩:=hr.row
        refine⟨rfl,?_,?_,?_,G,g1,?_,fun b o aD=>.inl (g3 b o aD)⟩
        ·show x.length≤(ι id).cap
         rw [hcap,← hlen];exact Kg
        ·show ∀j,j<(ι id).cap*t.size→_
         rw [hcap];exact hwr
        ·show ∀j,j<(ι id).cap*t.size→_
         rw [hcap]
         intro j hj
         by_cases o3:j<k*t.size
         ·exact .inl (hr.inF j o3)
         ·exact .inr (hd j (by omega) hj)
        ·show ∀j,j<(ι id).cap*t.size→_
         rw [hcap]
         intro j hj aD
         by_cases o3:j<k*t.size
         ·exact g2 j o3 aD
         ·exact ha _ _ (g3 _ _ aD) (hd j (by omega) hj)
    | _=>rw [ho] at hb;simp at hb
  | bA u dp ct xs =>
   simp only at hk
   obtain ⟨p,i,T,ver,ys,b,o,rR,rfl,eS,_,hl,kL,rfl,ac'⟩:=hk
   simp only [aa.back,List.cons_append,List.nil_append] at hb
   obtain ⟨s1,ll,hb2⟩:=bj hb
   obtain rfl:=aX hb2
   simp only [wB,eS] at ll
   cases ho:s.o p.id with
   | b_ eo =>
    rw [ho] at ll
    obtain ⟨rfl,ep,hcap⟩:=hl eo ho
    simp only at ll
    obtain ⟨z,hz,ll⟩:=bj ll
    obtain rfl:=aX ll
    refine⟨rfl,?_⟩
    exact y9 h (id:=p.id) (o:=.row T T.own (ver+1) (ys.set i z)) (i:=⟨(ι p.id).base,(ι p.id).cap,F.or H⟩) (by rw [ho];exact fun h=>h) (fun o'=>by simp) (by rw [ho];exact .rF _ _ _ _ _ _ _ _ _ (by omega) (by simp) rfl rfl)
     (fun hm=>.inr ⟨at_ b o,ep,by
      have:=ac' w Z F x z (b4.refl _ _) hr ha hz
      rw [← hcap] at this
      exact this⟩) (hF.or cD)
   | _=>rw [ho] at ll;simp at ll
  | _=>exact hk.elim
 | .st aj,m,x,c1,rest,s,ι,r,us,F,H,hb,h,hk,hr,hF,cD,ha=>by
  simp only [aa.back] at hb
  simp only [cR] at hk
  simp only [aa.an] at hr
  exact az.y_ aj m.parts x c1 rest s ι r us F H hb h hk hr hF cD ha
theorem az.y_:∀(aj:az) (m:cM) (x:aj.D) (c1 rest:List bb) (s:al) (ι : Nat→bC) (r:List bb×al) (us:List Value) (F H:ag),aj.back x (c1++rest) s=some r→Inv w0 F0 Z0 n s a w ι Z →
  fB false w Z s ι aj m c1 us H→aj.an w Z m x us F→bE w0 F0 s w ι Z F→bE w0 F0 s w ι Z H→ag.apart F H→r.1=rest∧n6 w0 F0 Z0 n s a w ι Z r.2 (F.or H)
 | .nil,m,x,c1,rest,s,ι,r,us,F,H,hb,h,hk,hr,hF,cD,ha=>by
  simp only [fB] at hk
  obtain ⟨rfl,rfl⟩:=hk
  simp only [az.back,List.nil_append,Option.some.injEq] at hb
  subst hb
  exact⟨rfl,tZ h _⟩
 | .cons t aj,m,x,c1,rest,s,ι,r,us,F,H,hb,h,hk,hr,hF,cD,ha=>by
  simp only [fB] at hk
  obtain ⟨d1,d2,v1,v2,H1,H2,rfl,rfl,k1,k2,kM,iL,hd⟩:=hk
  simp only [az.an] at hr
  obtain ⟨us1,us2,G1,G2,he,bw,b9,o4,eV,gO⟩:=hr
  have hlen:v1.length=us1.length:=by rw [cR.len t m.ah k1,(aa.an.len t m.ah bw).1]
  obtain ⟨rfl,rfl⟩:=List.append_inj he hlen
  simp only [az.back,List.append_assoc] at hb
  obtain ⟨q,hq,hb⟩:=bj hb
  obtain ⟨e1,dw,i1,rU,fC,za⟩:=aa.y_ t m.ah x.1 d1 (d2++rest) s ι q v1 G1 H1 hq h k1 bw (hF.sub eV) (cD.sub iL) (fun b o h1 h2=>ha b o (eV b o h1) (iL b o h2))
  rw [e1] at hb
  obtain ⟨e2,en,i2,m3,l4,m4⟩:=az.y_ aj m.du x.2 d2 rest q.2 dw r v2 G2 H2 hb i1 (fB.move (rU.mono fun _ _ _=>trivial) (fun _ _ h=>h) aj m.du k2) b9
   (fC G2 (hF.sub gO) (by rintro b o h1 (h2 | h2);exact o4 b o h2 h1;exact ha b o (gO b o h1) (iL b o h2)))
   (fC H2 (cD.sub hd) (by rintro b o h1 (h2 | h2);exact ha b o (eV b o h2) (hd b o h1);exact kM b o h2 h1))
   (fun b o h1 h2=>ha b o (gO b o h1) (hd b o h2))
  refine⟨e2,en,i2,rU.trans m3,fun X hX fD=>l4 X (fC X hX ?_) ?_,fun id hl=>?_⟩
  ·rintro b o h1 (h2 | h2)
   ·exact fD b o h1 (.inl (eV b o h2))
   ·exact fD b o h1 (.inr (iL b o h2))
  ·rintro b o h1 (h2 | h2)
   ·exact fD b o h1 (.inl (gO b o h2))
   ·exact fD b o h1 (.inr (hd b o h2))
  ·obtain ⟨dQ,e5⟩:=za id hl
   obtain ⟨fA,jf⟩:=m4 id (dQ ▸ hl)
   exact⟨fA.trans dQ,jf.trans e5⟩
end
end
end Go.LM
namespace Go.LM
section
variable{P:Program}{Q:Exit→Act→World→Prop}
variable{g:Bool}{w0:World}{F0 Z0:ag}{n:cB}{s aq:al}{a b6:Act}{w w' b7:World}{ι bh en:Nat→bC}{Z Z' bJ:ag}
theorem ld.held(h:ld s ι aq bh)(H:ag):gy false w Z s ι w Z aq bh H:=by
 have hm:eA w Z s ι w Z aq bh:=h.d'
 refine⟨fun _ _=>aT.move hm,fun _ _=>cc.move hm,fun _ _ h=>h,fun id o' _ ho=>?_,fun h=>by simp at h,b4.refl _ _,b4.refl _ _,fun _ _ h=>h,fun _ _ _ h=>h⟩
 by_cases hn:s.o id=.none
 ·exact absurd ho (h.nl id o' hn)
 ·obtain ⟨h1,h2⟩:=h.o id hn
  exact⟨by rw [← h1,ho],h2⟩
theorem zb{dp:List (Nat×Nat)}(hl:∀d,d∈dp→(s.o d.1).live)(hk:∀id,(s.o id).live→aq.o id=s.o id ∧ bh id = ι id):(∀d,d∈dp→(aq.o d.1).live)∧dd bh dp=dd ι dp:=by
 refine⟨fun d ah=>by rw [(hk d.1 (hl d ah)).1];exact hl d ah,?_⟩
 funext b o
 apply propext
 constructor
 ·rintro ⟨d,ah,hf⟩;exact⟨d,ah,by rw [← (hk d.1 (hl d ah)).2];exact hf⟩
 ·rintro ⟨d,ah,hf⟩;exact⟨d,ah,by rw [(hk d.1 (hl d ah)).2];exact hf⟩
theorem ld.keeps(h:ld s ι aq bh):∀id,(s.o id).live→aq.o id=s.o id ∧ bh id = ι id:=fun id hl=>h.o id (fun e=>by rw [e] at hl;exact hl)
theorem bE.dd{F:ag}{dp:List (Nat×Nat)}(hF:bE w0 F0 s w ι Z F)(hl:∀d,d∈dp→(s.o d.1).live):ag.apart F (LM.dd ι dp):=by
 rintro b o h ⟨d,ah,hf⟩
 exact hF.apart d.1 (hl d ah) b o h hf
theorem n6.trans{s1 s2:al}{dw:Nat→bC}{SJ SK eC:ag}(h1:Inv w0 F0 Z0 n s1 a w dw Z)(hh:gy false w Z s ι w Z s1 dw (fun _ _=>True))(hf:∀X,bE w0 F0 s w ι Z X→ag.apart X SJ→bE w0 F0 s1 w dw Z X)
  (hl:∀id,(s.o id).live→s1.o id=s.o id ∧ dw id = ι id) (k:n6 w0 F0 Z0 n s1 a w dw Z s2 SK) (gA:ag.sub (SJ.or SK) eC):n6 w0 F0 Z0 n s a w ι Z s2 eC:=by
 obtain ⟨en,i2,m3,l4,m4⟩:=k
 refine⟨en,i2,hh.trans m3,fun X hX fD=>l4 X (hf X hX fun b o x y=>fD b o x (gA b o (.inl y))) fun b o x y=>fD b o x (gA b o (.inr y)),fun id cd=>?_⟩
 obtain ⟨dQ,e5⟩:=hl id cd
 obtain ⟨fA,jf⟩:=m4 id (dQ ▸ cd)
 exact⟨fA.trans dQ,jf.trans e5⟩
theorem h7.mono(hZ:ag.sub Z Z'):∀(ps:List bt) {us:List Value} {x:(bt.dM ps).D} {F F':ag},ag.sub F F'→h7 w Z ps us x F→h7 w Z' ps us x F'
 | [],_,_,_,_,_,_=>trivial
 | .mut t m m' :: ps,_,_,_,_,hF,⟨b,o,vs,aV,G,H,h1,h2,h3,h4,a7,bp,bI,c7⟩=>⟨b,o,vs,aV,G,H,h1,h2,aa.an.mono hZ _ _ (fun _ _ h=>h) h3,h7.mono hZ ps (fun _ _ h=>h) h4,a7,bp,fun b o h=>hF b o (bI b o h),fun b o h=>hF b o (c7 b o h)⟩
 | .gI t m :: ps,_,_,_,_,hF,⟨vs,aV,G,H,h1,h2,h3,h4,a7,bp⟩=>⟨vs,aV,G,H,h1,aa.an.mono hZ _ _ (fun _ _ h=>h) h2,h7.mono hZ ps (fun _ _ h=>h) h3,h4,fun b o h=>hF b o (a7 b o h),fun b o h=>hF b o (bp b o h)⟩
 | .val _ _ :: ps,_,_,_,_,hF,⟨u,aV,h1,h2⟩=>⟨u,aV,h1,h7.mono hZ ps hF h2⟩
 | .gZ _ :: ps,_,_,_,_,hF,⟨u,aV,h1,h2⟩=>⟨u,aV,h1,h7.mono hZ ps hF h2⟩
 | .ref _ :: ps,_,_,_,_,hF,⟨u,aV,h1,h2⟩=>⟨u,aV,h1,h7.mono hZ ps hF h2⟩
 | .fn _ _ :: ps,_,_,_,_,hF,⟨u,aV,h1,h2⟩=>⟨u,aV,h1,h7.mono hZ ps hF h2⟩
theorem rV{dp:List (Nat×Nat)} : ∀(ps:List bt) (vs:List a') (us:List Value) (x:(bt.dM ps).D) (s:al) (ι : Nat→bC) (j:Nat) (q:al×Nat) (F H:ag),lT dp ps vs x s j=some q→Inv w0 F0 Z0 n s a w ι Z →
  eO false w Z s ι ps vs us H→h7 w (Z.or (dd ι dp)) ps us x F→bE w0 F0 s w ι Z F→bE w0 F0 s w ι Z H→ag.apart F H→(∀d,d∈dp→(s.o d.1).live∧eg s d)→n6 w0 F0 Z0 n s a w ι Z q.1 (F.or H)
 | [],vs,us,x,s,ι,j,q,F,H,hu,h,hk,hr,hF,cD,ha,ah=>by
  simp only [lT,Option.some.injEq] at hu
  subst hu
  exact tZ h _
 | .val t m :: ps,vs,us,x,s,ι,j,q,F,H,hu,h,hk,hr,hF,cD,ha,ah=>by
  obtain ⟨v,bD,u,aV,rfl,rfl,hk⟩:=hk
  obtain ⟨iK,us2,he,hr⟩:=hr
  simp only [List.cons.injEq] at he
  obtain ⟨rfl,rfl⟩:=he
  exact rV ps bD aV x s ι j q F H (by simpa only [lT] using hu) h hk hr hF cD ha ah
 | .gZ t :: ps,vs,us,x,s,ι,j,q,F,H,hu,h,hk,hr,hF,cD,ha,ah=>by
  obtain ⟨v,bD,u,aV,rfl,rfl,hk⟩:=hk
  obtain ⟨iK,us2,he,hr⟩:=hr
  simp only [List.cons.injEq] at he
  obtain ⟨rfl,rfl⟩:=he
  exact rV ps bD aV x s ι j q F H (by simpa only [lT] using hu) h hk hr hF cD ha ah
 | .ref t :: ps,vs,us,x,s,ι,j,q,F,H,hu,h,hk,hr,hF,cD,ha,ah=>by
  obtain ⟨v,bD,u,aV,rfl,rfl,hk⟩:=hk
  obtain ⟨iK,us2,he,hr⟩:=hr
  simp only [List.cons.injEq] at he
  obtain ⟨rfl,rfl⟩:=he
  exact rV ps bD aV x s ι j q F H (by simpa only [lT] using hu) h hk hr hF cD ha ah
 | .fn _ _ :: ps,vs,us,x,s,ι,j,q,F,H,hu,h,hk,hr,hF,cD,ha,ah=>by
  obtain ⟨v,bD,u,aV,rfl,rfl,hk⟩:=hk
  obtain ⟨iK,us2,he,hr⟩:=hr
  simp only [List.cons.injEq] at he
  obtain ⟨rfl,rfl⟩:=he
  exact rV ps bD aV x s ι j q F H (by simpa only [lT] using hu) h hk hr hF cD ha ah
 | .gI t m :: ps,vs,us,x,s,ι,j,q,F,H,hu,h,hk,hr,hF,cD,ha,ah=>by
  obtain ⟨v,bD,u,aV,cs,H1,H2,rfl,rfl,hcs,rfl,k1,k2,kM,iL,hd⟩:=hk
  obtain ⟨ws,us2,G1,G2,he,bw,b9,o4,eV,gO⟩:=hr
  simp only [List.cons.injEq] at he
  obtain ⟨rfl,rfl⟩:=he
  simp only [lT,hcs] at hu
  obtain ⟨r,hb,hu⟩:=bj hu
  have hl:=aa.an.len t _ bw
  rw [JE hl.1 hl.2] at k1
  have Kh:t.an w Z t.own x.1 ws G1:=tG t bw
  obtain ⟨e1,dw,i1,rU,fC,za⟩:=aa.y_ t t.own x.1 cs [] s ι r ws G1 H1 (by rw [List.append_nil];exact hb) h k1 Kh (hF.sub eV) (cD.sub iL) (fun b o x y=>ha b o (eV b o x) (iL b o y))
  have hdl:=zb (dp:=dp) (fun d hm=>(ah d hm).1) za
  have zc:=rV ps bD aV x.2 r.2 dw j q G2 H2 hu i1 (eO.move (rU.mono fun _ _ _=>trivial) (fun _ _ h=>h) ps k2) (by rw [hdl.2];exact b9)
   (fC G2 (hF.sub gO) (by rintro b o x (y | y);exact o4 b o y x;exact ha b o (gO b o x) (iL b o y)))
   (fC H2 (cD.sub hd) (by rintro b o x (y | y);exact ha b o (eV b o y) (hd b o x);exact kM b o y x))
   (fun b o x y=>ha b o (gO b o x) (hd b o y)) (fun d hm=>⟨hdl.1 d hm,by have:=(ah d hm).2;unfold eg known km at *;rw [(za d.1 (ah d hm).1).1];exact this⟩)
  refine n6.trans i1 rU fC za zc ?_
  rintro b o ((y | y) | (y | y))
  ·exact .inl (eV b o y)
  ·exact .inr (iL b o y)
  ·exact .inl (gO b o y)
  ·exact .inr (hd b o y)
 | .mut t m m' :: ps,vs,us,x,s,ι,j,q,F,H,hu,h,hk,hr,hF,cD,ha,ah=>by
  obtain ⟨p,bD,u,aV,H1,H2,rfl,rfl,k1,k2,kM,iL,hd⟩:=hk
  obtain ⟨b,o,ws,us2,G,fT,he,cm,bw,b9,o4,rT,eV,gO⟩:=hr
  simp only [List.cons.injEq] at he
  obtain ⟨rfl,rfl⟩:=he
  have hGF:ag.sub G F:=fun b o x=>eV b o (.inl x)
  have ada:ag.sub (ag.run b o t.size) F:=fun b o x=>eV b o (.inr x)
  have tL:=aa.an.len t _ bw
  simp only [lT] at hu
  cases ho:s.o p.id with
  | b_ eo =>
   rw [ho] at hu
   cases eS:p.fb with
   | none =>
    rw [eS] at hu
    cases eo with
    | var ver old =>
     simp only at hu
     obtain ⟨r,hx,hu⟩:=bj hu
     rcases k1 with k1 | ⟨_,_,_,_,_,_,_,_,_,_,_,_,hk2,_⟩
     case inr=>rw [eS] at hk2;simp at hk2
     obtain ⟨mS,aq2,b',o',Ci,_,hl,_,jg,hle,SL,hwr,Cj,hcell⟩:=k1
     obtain ⟨bU,ep⟩:=hl _ ho
     simp only [cj.var.injEq] at bU
     obtain ⟨rfl,rfl⟩:=bU
     simp only [Value.pointer.injEq,Option.some.injEq,at_,Addr.mk.injEq,and_true] at jg
     obtain ⟨rfl,rfl⟩:=jg
     obtain ⟨dw,i1,iM,c1,fC⟩:=aa.nW t m' dp x.1 s ι j r ws G hx h bw (hF.sub hGF) ((hF.sub hGF).dd fun d hm=>(ah d hm).1) (fun d hm=>(ah d hm).2)
     obtain ⟨hs1,adb⟩:=iM.o p.id (by rw [ho];simp)
     have hcl:=c1.len
     have hol:=SL.len
     have aq3:=tL.1
     have ade:=iM.keeps
     have Ki:bE w0 F0 r.2.1 w dw Z ((ag.run b (o'+p.off) t.size).or H1):=(fC _ (hF.sub ada) (fun b o x y=>rT b o y x)).or (fC _ (cD.sub iL) (fun b o x y=>ha b o (hGF b o y) (iL b o x)))
     have y':=y9 i1 (id:=p.id) (o:=.var (ver+1) (old.take p.off++r.1++old.drop (p.off+t.size))) (i:=⟨(dw p.id).base,(dw p.id).cap,(ag.run b (o'+p.off) t.size).or H1⟩)
      (by rw [hs1,ho];exact fun h=>h) (fun o'=>by simp) (by rw [hs1,ho];exact .yO _ _ _ _ _ _ (by omega) rfl) (fun hm=>by
       refine⟨at_ b o',c9 Ci p.off ws,by rw [adb];exact ep,rfl,?_,?_,?_⟩
       ·have adf:bF w Z r.2.1 dw old Ci:=SL.move iM.d'
        have:=(bF.c9 adf c1 p.off).move hm
        rwa [show p.off+r.1.length=p.off+t.size by omega] at this
       ·intro i v hv
        unfold c9 at hv
        show w.cell? (at_ b (o'+i))=some v
        by_cases h1:i<p.off
        ·rw [List.append_assoc,List.getElem?_append_left (by simp;omega),List.getElem?_take,if_pos h1] at hv
         exact hcell i v hv (.inl h1)
        ·by_cases h2:i<p.off+t.size
         ·rw [List.getElem?_append_left (by simp;omega),List.getElem?_append_right (by simp;omega)] at hv
          simp only [List.length_take] at hv
          have:=cm _ v hv
          rwa [show o'+p.off +(i-min p.off Ci.length)=o'+i by omega] at this
         ·rw [List.getElem?_append_right (by simp;omega)] at hv
          simp only [List.length_append,List.length_take,List.getElem?_drop] at hv
          rw [show p.off+ws.length +(i-(min p.off Ci.length+ws.length))=i by omega] at hv
          exact hcell i v hv (.inr (by omega))
       ·intro i hi
        have c6:i<old.length:=by simp only [List.length_append,List.length_take,List.length_drop] at hi;omega
        refine⟨hwr i c6,?_⟩
        show(ag.run b (o'+p.off) t.size).or H1 b (o'+i)
        by_cases hh:i<p.off∨p.off+t.size≤i
        ·exact .inr (Cj i c6 hh)
        ·exact .inl ⟨rfl,by omega,by omega⟩) Ki
     obtain ⟨en,i2,m3,l4,m4⟩:=y'
     have Kj:∀id,(s.o id).live→(r.2.1.bL p.id (.var (ver+1) (old.take p.off++r.1++old.drop (p.off+t.size)))).o id=s.o id ∧ en id = ι id:=fun id cd=>by
      obtain ⟨dQ,e5⟩:=ade id cd
      obtain ⟨fA,jf⟩:=m4 id (dQ ▸ cd)
      exact⟨fA.trans dQ,jf.trans e5⟩
     have xc:gy false w Z s ι w Z (r.2.1.bL p.id (.var (ver+1) (old.take p.off++r.1++old.drop (p.off+t.size)))) en (fun _ _=>True):=(iM.held _).trans m3
     have kI:∀X,bE w0 F0 s w ι Z X→ag.apart X ((G.or (ag.run b (o'+p.off) t.size)).or H1)→bE w0 F0 (r.2.1.bL p.id (.var (ver+1) (old.take p.off++r.1++old.drop (p.off+t.size)))) w en Z X:=fun X hX fD=>by
      refine l4 X (fC X hX fun b o x y=>fD b o x (.inl (.inl y))) ?_
      rintro b o x (y | y)
      ·exact fD b o x (.inl (.inr y))
      ·exact fD b o x (.inr y)
     have hdl:=zb (dp:=dp) (fun d hm=>(ah d hm).1) Kj
     have zc:=rV ps bD aV x.2 _ en r.2.2 q fT H2 hu i2 (eO.move (xc.mono fun _ _ _=>trivial) (fun _ _ h=>h) ps k2) (by rw [hdl.2];exact b9)
      (kI fT (hF.sub gO) (by rintro b o x (y | y);exact o4 b o y x;exact ha b o (gO b o x) (iL b o y)))
      (kI H2 (cD.sub hd) (by rintro b o x (y | y);exact ha b o (eV b o y) (hd b o x);exact kM b o y x))
      (fun b o x y=>ha b o (gO b o x) (hd b o y)) (fun d hm=>⟨hdl.1 d hm,by have:=(ah d hm).2;unfold eg known km at *;rw [(Kj d.1 (ah d hm).1).1];exact this⟩)
     refine n6.trans i2 xc kI Kj zc ?_
     rintro b o ((y | y) | (y | y))
     ·exact .inl (eV b o y)
     ·exact .inr (iL b o y)
     ·exact .inl (gO b o y)
     ·exact .inr (hd b o y)
    | _=>simp at hu
   | some i =>
    rw [eS] at hu
    cases eo with
    | row gz em ver xs =>
     simp only at hu
     obtain ⟨y,a_,hu⟩:=bj hu
     obtain ⟨e1,t_⟩:=BG a_
     subst e1
     have t_:x.1=y:=t_.symm
     subst t_
     rcases k1 with⟨_,_,_,_,_,_,_,hk2,_⟩ | ⟨lZ,qk,k1⟩
     ·rw [eS] at hk2;simp at hk2
     obtain ⟨mS,fQ,dP,b',o',c,G1,G2,_,hl,SM,hi,jg,Kg,hwr,Cj,adg,adh,adi,SN,SO,SP⟩:=k1
     obtain ⟨bU,ep,hcap⟩:=hl _ ho
     simp only [cj.row.injEq,heq_eq_eq,true_and] at bU
     obtain ⟨rfl,rfl,rfl⟩:=bU
     rw [eS] at SM
     obtain rfl:=aX SM
     simp only [Value.pointer.injEq,Option.some.injEq,at_,Addr.mk.injEq,and_true] at jg
     obtain ⟨rfl,rfl⟩:=jg
     subst lZ
     have Kh:t.an w Z m' x.1 ws G:=by rw [qk] at bw ⊢;exact tG t bw
     have hcs:(i+1)*t.size≤c*t.size:=Nat.mul_le_mul_right _ (by omega)
     rw [Nat.add_one_mul] at hcs
     have Ki:bE w0 F0 s w ι Z ((G.or (ag.run b (o'+i*t.size) t.size)).or H1):=(hF.sub eV).or (cD.sub iL)
     have y':=y9 h (id:=p.id) (o:=.row t m' (ver+1) (xs.set i x.1)) (i:=⟨(ι p.id).base,(ι p.id).cap,(G.or (ag.run b (o'+i*t.size) t.size)).or H1⟩)
      (by rw [ho];exact fun h=>h) (fun o'=>by simp) (by rw [ho];exact .rF _ _ _ _ _ _ _ _ _ (by omega) (by simp) rfl rfl) (fun hm=>by
       right
       refine⟨at_ b o',ep,rfl,?_,?_,?_,?_⟩
       ·show(xs.set i x.1).length≤(ι p.id).cap
        rw [List.length_set,hcap];exact Kg
       ·show ∀j,j<(ι p.id).cap*t.size→_
        rw [hcap];exact hwr
       ·show ∀j,j<(ι p.id).cap*t.size→_
        rw [hcap]
        intro j hj
        show((G.or (ag.run b (o'+i*t.size) t.size)).or H1) b (o'+j)
        by_cases hh:j<i*t.size∨(i+1)*t.size≤j
        ·exact .inr (Cj j hj hh)
        ·rw [Nat.add_one_mul] at hh
         exact .inl (.inr ⟨rfl,by omega,by omega⟩)
       ·refine⟨G1.or (G.or G2),Row.B_ i hi adg Kh tL.1 cm adh (fun b o x y=>ha b o (hGF b o y) (iL b o (SN b o x))) adi (fun b o x y=>ha b o (hGF b o x) (iL b o (SO b o y))),?_,?_⟩
        ·show ∀j,j<(ι p.id).cap*t.size→_
         rw [hcap]
         rintro j hj (aD | aD | aD)
         ·exact(SP j hj).1 aD
         ·by_cases hh:j<i*t.size∨(i+1)*t.size≤j
          ·exact ha _ _ (hGF _ _ aD) (iL _ _ (Cj j hj hh))
          ·rw [Nat.add_one_mul] at hh
           exact rT _ _ aD ⟨rfl,by show o'+i*t.size≤o'+j;omega,by show o'+j<_;omega⟩
         ·exact(SP j hj).2 aD
        ·rintro b o (aD | aD | aD)
         ·exact .inr (SN b o aD)
         ·exact .inl (.inl aD)
         ·exact .inr (SO b o aD)) Ki
     obtain ⟨en,i2,m3,l4,m4⟩:=y'
     have hdl:=zb (dp:=dp) (fun d hm=>(ah d hm).1) m4
     have zc:=rV ps bD aV x.2 _ en j q fT H2 hu i2 (eO.move (m3.mono fun _ _ _=>trivial) (fun _ _ h=>h) ps k2) (by rw [hdl.2];exact b9)
      (l4 fT (hF.sub gO) (by rintro b o x (y | y);exact o4 b o y x;exact ha b o (gO b o x) (iL b o y)))
      (l4 H2 (cD.sub hd) (by rintro b o x (y | y);exact ha b o (eV b o y) (hd b o x);exact kM b o y x))
      (fun b o x y=>ha b o (gO b o x) (hd b o y)) (fun d hm=>⟨hdl.1 d hm,by have:=(ah d hm).2;unfold eg known km at *;rw [(m4 d.1 (ah d hm).1).1];exact this⟩)
     refine n6.trans i2 m3 l4 m4 zc ?_
     rintro b o ((y | y) | (y | y))
     ·exact .inl (eV b o y)
     ·exact .inr (iL b o y)
     ·exact .inl (gO b o y)
     ·exact .inr (hd b o y)
    | _=>simp at hu
  | _=>rw [ho] at hu;simp at hu
end
end Go.LM
namespace Go.LM
section
variable{P:Program}{Q:Exit→Act→World→Prop}
variable{g:Bool}{w0:World}{F0 Z0:ag}{n:cB}{s aq:al}{a b6:Act}{w w' b7:World}{ι bh en:Nat→bC}{Z Z' bJ:ag}
variable{E:Env}{o:Oper}{bs : Type}{K:al→Option bs}{r : bs}{id:Nat}
theorem Ck:∀ {dp:List (Nat×Nat)},alive s dp=true→∀d,d∈dp→(s.o d.1).live
 | [],_,d,ah=>by simp at ah
 | (i,v) :: dp,h,d,ah=>by
  unfold alive at h
  rcases List.mem_cons.1 ah with rfl | ah
  ·cases ho:s.o i with
   | row=>trivial
   | var=>trivial
   | _=>rw [ho] at h;simp at h
  ·cases ho:s.o i with
   | row t em ver xs =>
    rw [ho] at h
    simp only at h
    cases hb:Nat.beq ver v
    ·rw [hb] at h;simp at h
    ·rw [hb] at h;exact Ck h d ah
   | var ver cs =>
    rw [ho] at h
    simp only at h
    cases hb:Nat.beq ver v
    ·rw [hb] at h;simp at h
    ·rw [hb] at h;exact Ck h d ah
   | _=>rw [ho] at h;simp at h
theorem a8.append:∀ {x y:List a'} {us vs:List Value},a8 w Z s ι x us→a8 w Z s ι y vs→a8 w Z s ι (x++y) (us++vs)
 | [],_,_,_,h,k=>by simp only [a8] at h;subst h;exact k
 | _ :: _,_,_,_,h,k=>by
  simp only [a8] at h
  obtain ⟨u,aV,rfl,h1,h2⟩:=h
  simp only [List.cons_append,a8]
  exact⟨u,_,rfl,h1,h2.append k⟩
theorem Kk:∀ {x:List a'} {us:List Value},nQ x=true→a8 w Z s ι x us→a8 w Z s ι (k6 x) (f' us)
 | [],_,_,h=>by simp only [a8] at h;subst h;simp only [k6,f',a8]
 | v :: l,_,hn,h=>by
  simp only [a8] at h
  obtain ⟨u,aV,rfl,h1,h2⟩:=h
  have hl:nQ l=true:=by cases v <;> simp_all [nQ]
  have ih:=Kk hl h2
  cases v with
  | fn f a b =>
   simp only [aT] at h1
   obtain ⟨xs,ys,rfl,cP,dU⟩:=h1
   simp only [k6,f']
   exact(cP.append dU).append ih
  | aw=>simp [nQ] at hn
  | aU c =>
   simp only [k6]
   have:∀f a b,u≠.func f a b:=by
    rintro f a b rfl
    simp only [aT] at h1
    cases c with
    | bA=>obtain ⟨_,⟨_,_,_,h⟩,_⟩:=h1;simp at h
    | ah=>obtain ⟨_,_,_,_,h,_⟩:=h1;simp at h
    | str=>obtain ⟨_,h,_⟩:=h1;simp at h
    | raw=>obtain ⟨h,_,_,_,h2⟩:=h1;rw [h2] at h;simp at h
    | _=>simp [cc] at h1
   cases u <;> first | exact ih | exact absurd rfl (this _ _ _)
  | h8 cs=>simp only [aT] at h1;obtain ⟨_,rfl,_⟩:=h1;exact ih
  | ptr p=>simp only [aT] at h1;obtain ⟨_,_,rfl,_⟩:=h1;exact ih
  | c3=>simp only [aT] at h1;obtain ⟨_,_,_,_,rfl,_⟩:=h1;exact ih
  | gone=>simp [nQ] at hn
  | ru=>simp [nQ] at hn
  | jS=>simp only [aT] at h1;subst h1;exact ih
  | kD=>simp only [aT] at h1;subst h1;exact ih
  | may=>simp only [aT] at h1;rcases h1 with⟨_,rfl⟩ | ⟨_,_,_,_,_,rfl,_⟩ <;> exact ih
  | opt=>simp only [aT] at h1;rcases h1.2 with⟨_,rfl⟩ | ⟨_,_,rfl,_⟩ <;> exact ih
  | oK=>simp only [aT] at h1;obtain ⟨_,rfl,_⟩:=h1;exact ih
mutual
theorem cR.l5:∀(t:aa) (m:bg) {cs:List bb} {vs:List Value} {H:ag},cR true w Z s ι t m cs vs H→cR false w Z s ι t m cs vs H
 | .int _,_,_,_,_,hk=>by simp only [cR] at hk ⊢;exact hk
 | .bool,_,_,_,_,hk=>by simp only [cR] at hk ⊢;exact hk
 | .str,_,_,_,_,hk=>by simp only [cR] at hk ⊢;exact hk
 | .raw,_,_,_,_,hk=>by simp only [cR] at hk ⊢;exact hk
 | .sl t,.R,_,_,_,hk=>by simp only [cR] at hk
 | .sl t,.S _,_,_,_,hk=>by simp only [cR] at hk
 | .sl t,.O e,_,_,_,hk=>by
  simp only [cR] at hk ⊢
  obtain ⟨c,v,h1,h2,hk⟩:=hk
  refine⟨c,v,h1,h2,?_⟩
  cases c with
  | nil=>exact hk
  | ah id sub =>
   cases sub with
   | some=>exact hk
   | none=>obtain ⟨ver,xs,A,k,c,_,h⟩:=hk;exact⟨ver,xs,A,k,c,fun h=>by simp at h,h⟩
  | bA u dp ct xs=>obtain ⟨p,i,T,ver,ys,b,o,c,h1,h2,_,h⟩:=hk;exact⟨p,i,T,ver,ys,b,o,c,h1,h2,fun h=>by simp at h,h⟩
  | _=>exact hk
 | .st aj,m,_,_,_,hk=>by simp only [cR] at hk ⊢;exact fB.l5 aj m.parts hk
theorem fB.l5:∀(aj:az) (m:cM) {cs:List bb} {vs:List Value} {H:ag},fB true w Z s ι aj m cs vs H→fB false w Z s ι aj m cs vs H
 | .nil,_,_,_,_,hk=>by simp only [fB] at hk ⊢;exact hk
 | .cons t aj,m,_,_,_,hk=>by
  simp only [fB] at hk ⊢
  obtain ⟨c1,gv,v1,v2,H1,H2,h1,h2,h3,h4,a7⟩:=hk
  exact⟨c1,gv,v1,v2,H1,H2,h1,h2,cR.l5 t m.ah h3,fB.l5 aj m.du h4,a7⟩
end
theorem eO.l5:∀(ps:List bt) {vs:List a'} {us:List Value} {H:ag},eO true w Z s ι ps vs us H→eO false w Z s ι ps vs us H
 | [],_,_,_,_=>trivial
 | .mut t m m' :: ps,_,_,_,⟨p,bD,u,aV,H1,H2,h1,h2,h3,h4,a7⟩ =>
  ⟨p,bD,u,aV,H1,H2,h1,h2,h3.imp (fun⟨a,b,c,d,e,_,h⟩=>⟨a,b,c,d,e,fun h=>by simp at h,h⟩) (fun⟨cP,dU,a,b,c,d,e,f,g1,g2,_,h⟩=>⟨cP,dU,a,b,c,d,e,f,g1,g2,fun h=>by simp at h,h⟩),eO.l5 ps h4,a7⟩
 | .gI t m :: ps,_,_,_,⟨v,bD,u,aV,cs,H1,H2,h1,h2,h3,qk,h4,a7,bp⟩=>⟨v,bD,u,aV,cs,H1,H2,h1,h2,h3,qk,cR.l5 t m h4,eO.l5 ps a7,bp⟩
 | .val _ _ :: ps,_,_,_,⟨v,bD,u,aV,h1,h2,h3⟩=>⟨v,bD,u,aV,h1,h2,eO.l5 ps h3⟩
 | .gZ _ :: ps,_,_,_,⟨v,bD,u,aV,h1,h2,h3⟩=>⟨v,bD,u,aV,h1,h2,eO.l5 ps h3⟩
 | .ref _ :: ps,_,_,_,⟨v,bD,u,aV,h1,h2,h3⟩=>⟨v,bD,u,aV,h1,h2,eO.l5 ps h3⟩
 | .fn _ _ :: ps,_,_,_,⟨v,bD,u,aV,h1,h2,h3⟩=>⟨v,bD,u,aV,h1,h2,eO.l5 ps h3⟩
theorem hS.mono(hZ:ag.sub Z Z'){ps:List bt}{us:List Value} : ∀(rs:List cO) {x:(cO.outs rs (bt.dM ps)).D} {dk:List Value} {F F':ag},ag.sub F F'→hS w Z ps us rs x dk F→hS w Z' ps us rs x dk F'
 | [],_,_,_,_,hF,⟨h1,h2⟩=>⟨h1,h7.mono hZ ps hF h2⟩
 | .val t m :: rs,_,_,_,_,hF,⟨vs,dR,G,H,h1,h2,h3,h4,a7,bp⟩=>⟨vs,dR,G,H,h1,aa.an.mono hZ _ _ (fun _ _ h=>h) h2,hS.mono hZ rs (fun _ _ h=>h) h3,h4,fun b o h=>hF b o (a7 b o h),fun b o h=>hF b o (bp b o h)⟩
 | .opt a off t :: rs,_,_,_,_,hF,⟨v,dR,h1,h2,h3⟩=>⟨v,dR,h1,h2,hS.mono hZ rs hF h3⟩
 | .any t :: rs,_,_,_,_,hF,⟨v,dR,h1,h2,h3⟩=>⟨v,dR,h1,h2,hS.mono hZ rs hF h3⟩
 | .oM t :: rs,_,_,_,_,hF,⟨v,dR,h1,h2,h3⟩=>⟨v,dR,h1,h2.imp (fun h=>h) fun⟨y,b,o,vs,k1,k2,k3,bf,bm⟩=>⟨y,b,o,vs,k1,k2,k3,aa.an.mono hZ _ _ (fun _ _ h=>h) bf,fun j hj=>hZ _ _ (bm j hj)⟩,hS.mono hZ rs hF h3⟩
 | .new t m :: rs,_,_,_,_,hF,⟨b,o,vs,dR,G,H,h1,h2,hw,h3,h4,a7,bp,bI,c7⟩=>⟨b,o,vs,dR,G,H,h1,h2,hw,aa.an.mono hZ _ _ (fun _ _ h=>h) h3,hS.mono hZ rs (fun _ _ h=>h) h4,a7,bp,fun b o h=>hF b o (bI b o h),fun b o h=>hF b o (c7 b o h)⟩
theorem je.plus{p:Place}{b o:Nat}(k:Nat)(h:je s ι p (at_ b o)):je s ι { p with off:=p.off+k } (at_ b (o+k)):=by
 obtain ⟨_,h⟩:=h
 refine⟨rfl,?_⟩
 show match (s.o p.id).core with | .var _ _=>_ | .row .. => _ | _=>_
 cases hc:(s.o p.id).core with
 | var ver cs =>
  rw [hc] at h
  obtain ⟨h1,a0,h2,h3⟩:=h
  simp only [at_,Addr.mk.injEq,and_true] at h3
  exact⟨h1,a0,h2,by simp only [at_,Addr.mk.injEq,and_true];exact⟨h3.1,by omega⟩⟩
 | row t em ver xs =>
  rw [hc] at h
  obtain ⟨i,h1,h2,a0,h3,h4⟩:=h
  simp only [at_,Addr.mk.injEq,and_true] at h4
  exact⟨i,h1,h2,a0,h3,by simp only [at_,Addr.mk.injEq,and_true];exact⟨h4.1,by omega⟩⟩
 | _=>trivial
theorem a8.get:∀ {x:List a'} {us:List Value} (i:Nat) {v:a'},a8 w Z s ι x us→x[i]?=some v→∃u,us[i]?=some u∧aT w Z s ι v u
 | [],_,i,_,_,h=>by simp at h
 | y :: l,_,0,v,h,hv=>by
  simp only [a8] at h
  obtain ⟨u,aV,rfl,h1,h2⟩:=h
  simp at hv;subst hv
  exact⟨u,rfl,h1⟩
 | y :: l,_,i+1,v,h,hv=>by
  simp only [a8] at h
  obtain ⟨u,aV,rfl,h1,h2⟩:=h
  simp only [List.getElem?_cons_succ] at hv ⊢
  exact h2.get i hv
theorem a8.held{g:Bool}{H:ag}(h:gy g w Z s ι w' Z' aq bh H):∀ {x:List a'} {us:List Value},a8 w Z s ι x us→a8 w' Z' aq bh x us
 | [],_,hx=>by simp only [a8] at hx ⊢;exact hx
 | y :: l,_,hx=>by
  simp only [a8] at hx ⊢
  obtain ⟨u,aV,h0,h1,h2⟩:=hx
  exact⟨u,aV,h0,h.aF _ _ h1,a8.held h h2⟩
theorem xd{bq:List (Nat×Nat)}{ps:List bt}{vs:List a'}{us:List Value} : ∀(rs:List cO) (x:(cO.outs rs (bt.dM ps)).D) (dk:List Value) (s:al) (ι : Nat→bC) (j:Nat) (q:List a'×al) (F H:ag),k5 vs ps bq rs x s j=some q →
  Inv w0 F0 Z0 n s a w ι Z→eO false w Z s ι ps vs us H→hS w (Z.or (dd ι bq)) ps us rs x dk F→bE w0 F0 s w ι Z F→bE w0 F0 s w ι Z H→ag.apart F H→(∀d,d∈bq→(s.o d.1).live∧eg s d)→a8 w Z s ι vs us →
  ∃ bh,Inv w0 F0 Z0 n q.2 a w bh Z∧(∀x u,aT w Z s ι x u→aT w Z q.2 bh x u)∧a8 w Z q.2 bh q.1 dk
 | [],x,dk,s,ι,j,q,F,H,hu,h,hk,hr,hF,cD,ha,ah,hv=>by
  simp only [k5] at hu
  obtain ⟨r,hx,hu⟩:=bj hu
  obtain rfl:=aX hu
  obtain ⟨rfl,hr⟩:=hr
  obtain ⟨bh,dP,held,_⟩:=rV ps vs us x s ι j r F H hx h hk hr hF cD ha ah
  exact⟨bh,dP,held.aF,by simp only [a8]⟩
 | .val t m :: rs,x,dk,s,ι,j,q,F,H,hu,h,hk,hr,hF,cD,ha,ah,hv=>by
  simp only [k5] at hu
  obtain ⟨r,hx,hu⟩:=bj hu
  cases hw:jT t r.1 with
  | none=>rw [hw] at hu;simp at hu
  | some v =>
   rw [hw] at hu
   simp only at hu
   obtain ⟨p,av,hu⟩:=bj hu
   obtain rfl:=aX hu
   obtain ⟨ws,dR,G1,G2,rfl,bw,b9,o4,eV,gO⟩:=hr
   obtain ⟨dw,i1,iM,c1,fC⟩:=aa.nW t m bq x.1 s ι j r ws G1 hx h bw (hF.sub eV) ((hF.sub eV).dd fun d hm=>(ah d hm).1) (fun d hm=>(ah d hm).2)
   have rU:gy false w Z s ι w Z r.2.1 dw (fun _ _=>True):=iM.held _
   have hdl:=zb (dp:=bq) (fun d hm=>(ah d hm).1) iM.keeps
   have Kl:a8 w Z r.2.1 dw vs us:=a8.move (iM.d' (w:=w) (Z:=Z)) hv
   obtain ⟨en,i2,o5,hg⟩:=xd rs x.2 dR r.2.1 dw r.2.2 p G2 H av i1 (eO.move (rU.mono fun _ _ _=>trivial) (fun _ _ h=>h) ps hk) (by rw [hdl.2];exact b9)
    (fC G2 (hF.sub gO) (fun b o x y=>o4 b o y x)) (fC H cD (fun b o x y=>ha b o (eV b o y) x)) (fun b o x y=>ha b o (gO b o x) y)
    (fun d hm=>⟨hdl.1 d hm,by have:=(ah d hm).2;unfold eg known km at *;rw [(iM.keeps d.1 (ah d hm).1).1];exact this⟩) Kl
   refine⟨en,i2,fun x u hx=>o5 x u (rU.aF x u hx),?_⟩
   simp only [a8]
   exact⟨_,dR,rfl,o5 _ _ (oV hw c1),hg⟩
 | .new t m :: rs,x,dk,s,ι,j,q,F,H,hu,h,hk,hr,hF,cD,ha,ah,hv=>by
  simp only [k5] at hu
  obtain ⟨r,hx,hu⟩:=bj hu
  obtain ⟨s1,hm,hu⟩:=bj hu
  obtain ⟨p,av,hu⟩:=bj hu
  obtain rfl:=aX hu
  obtain ⟨cd,rfl⟩:=qc hm
  obtain ⟨b,o,ws,dR,G1,G2,rfl,cm,hwr,bw,b9,o4,rT,eV,gO⟩:=hr
  have hG:ag.sub G1 F:=fun b o x=>eV b o (.inl x)
  have eM:ag.sub (ag.run b o t.size) F:=fun b o x=>eV b o (.inr x)
  obtain ⟨dw,i1,iM,c1,fC⟩:=aa.nW t m bq x.1 s ι j r ws G1 hx h bw (hF.sub hG) ((hF.sub hG).dd fun d hm=>(ah d hm).1) (fun d hm=>(ah d hm).2)
  have hl:=(aa.an.len t _ bw).1
  have hcl:=c1.len
  have kI:=fC _ (hF.sub eM) (fun b o x y=>rT b o y x)
  obtain ⟨i2,m3,l4,m4⟩:=Kf i1 (id:=r.2.2) (o:=.var 0 r.1) (i:=⟨some (at_ b o),0,ag.run b o t.size⟩) (by rw [cd];exact fun h=>h) (fun o'=>by simp) (by rw [cd];exact .made _ _ _) (fun hm=>by
   refine⟨at_ b o,ws,rfl,rfl,c1.move hm,cm,fun k hk=>⟨hwr k (by omega),rfl,by simp [at_],by simp [at_];omega⟩⟩) kI
  have held:gy false w Z s ι w Z _ _ (fun _ _=>True):=(iM.held _).trans m3
  have SQ:∀id,(s.o id).live→(r.2.1.bL r.2.2 (.var 0 r.1)).o id=s.o id∧bP dw r.2.2 ⟨some (at_ b o),0,ag.run b o t.size⟩ id = ι id:=fun id b8=>by
   obtain ⟨h1,h2⟩:=iM.keeps id b8
   obtain ⟨h3,h4⟩:=m4 id (by rw [h1];exact b8)
   exact⟨h3.trans h1,h4.trans h2⟩
  have hdl:=zb (dp:=bq) (fun d hm=>(ah d hm).1) SQ
  have Kl:a8 w Z _ _ vs us:=a8.held held hv
  have zd:∀X,bE w0 F0 s w ι Z X→ag.apart X (G1.or (ag.run b o t.size))→bE w0 F0 (r.2.1.bL r.2.2 (.var 0 r.1)) w (bP dw r.2.2 ⟨some (at_ b o),0,ag.run b o t.size⟩) Z X:=fun X hX fD =>
   l4 X (fC X hX fun b o x y=>fD b o x (.inl y)) fun b o x y=>fD b o x (.inr y)
  obtain ⟨Km,i3,SR,hg⟩:=xd rs x.2 dR _ _ _ p G2 H av i2 (eO.move (held.mono fun _ _ _=>trivial) (fun _ _ h=>h) ps hk) (by rw [hdl.2];exact b9)
   (zd G2 (hF.sub gO) (fun b o x y=>o4 b o y x)) (zd H cD (fun b o x y=>ha b o (eV b o y) x)) (fun b o x y=>ha b o (gO b o x) y)
   (fun d hm=>⟨hdl.1 d hm,by have:=(ah d hm).2;unfold eg known km at *;rw [(SQ d.1 (ah d hm).1).1];exact this⟩) Kl
  refine⟨Km,i3,fun x u hx=>SR x u (held.aF x u hx),?_⟩
  simp only [a8]
  refine⟨_,dR,rfl,SR _ _ ?_,hg⟩
  simp only [aT]
  refine⟨by show bP r.2.1.o r.2.2 _ r.2.2≠_;rw [cz];simp,_,rfl,rfl,?_⟩
  show match (bP r.2.1.o r.2.2 _ r.2.2).core with | .var _ _=>_ | .row .. => _ | _=>_
  rw [cz]
  exact⟨rfl,at_ b o,by rw [cz],by simp [at_]⟩
 | .any t :: rs,x,dk,s,ι,j,q,F,H,hu,h,hk,hr,hF,cD,ha,ah,hv=>by
  simp only [k5] at hu
  obtain ⟨p,av,hu⟩:=bj hu
  obtain rfl:=aX hu
  obtain ⟨v,dR,rfl,SS,b9⟩:=hr
  obtain ⟨en,i2,o5,hg⟩:=xd rs x dR s ι j p F H av h hk b9 hF cD ha ah hv
  refine⟨en,i2,o5,?_⟩
  simp only [a8]
  exact⟨_,dR,rfl,by simp only [aT];exact SS,hg⟩
 | .oM t :: rs,x,dk,s,ι,j,q,F,H,hu,h,hk,hr,hF,cD,ha,ah,hv=>by
  simp only [k5] at hu
  obtain ⟨p,av,hu⟩:=bj hu
  obtain rfl:=aX hu
  obtain ⟨v,dR,rfl,ho,b9⟩:=hr
  obtain ⟨en,i2,o5,hg⟩:=xd rs x.2 dR s ι j p F H av h hk b9 hF cD ha ah hv
  refine⟨en,i2,o5,?_⟩
  simp only [a8]
  refine⟨v,dR,rfl,o5 _ _ ?_,hg⟩
  simp only [aT]
  rcases ho with⟨h1,h2⟩ | ⟨y,b,o,bD,h1,h2,h3,h4,a7⟩
  ·exact .inl ⟨by rw [h1];rfl,h2⟩
  ·right
   rw [h1]
   refine⟨rfl,fun d hm=>(ah d hm).2,b,o,bD,h2,fun _=>?_⟩
   have hc:bF w Z s ι (t.cells bq none y) bD:=aa.p9 t bq none (fun d hm=>(ah d hm).2) (fun _=>h4) ⟨_,_,_,h4⟩ .none
   refine⟨hc,h3,fun j hj=>?_⟩
   have hl:=(aa.an.len t _ h4).1
   have eB:=hc.len
   exact a7 j (by rw [show(J t [y] 0)=y from rfl] at hj;omega)
 | .opt lr off t :: rs,x,dk,s,ι,j,q,F,H,hu,h,hk,hr,hF,cD,ha,ah,hv=>by
  simp only [k5] at hu
  obtain ⟨p,av,hu⟩:=bj hu
  cases dK:p4 p.2 vs lr off with
  | none=>rw [dK] at hu;simp at hu
  | some id =>
   rw [dK] at hu
   simp only at hu
   cases l6:p5 p.2 t id
   ·rw [l6] at hu;cases hu
   rw [l6] at hu
   simp only [cond_true] at hu
   obtain rfl:=aX hu
   obtain ⟨v,dR,rfl,ho,b9⟩:=hr
   obtain ⟨en,i2,o5,hg⟩:=xd rs x.2 dR s ι j p F H av h hk b9 hF cD ha ah hv
   refine⟨en,i2,o5,?_⟩
   simp only [a8]
   refine⟨v,dR,rfl,?_,hg⟩
   unfold p4 at dK
   cases mY:vs[lr]? with
   | none=>rw [mY] at dK;simp at dK
   | some k7 =>
    rw [mY] at dK
    cases k7 with
    | ptr pl =>
     simp only at dK
     cases cX:lS p.2 1 { pl with off:=pl.off+off } with
     | none=>rw [cX] at dK;simp at dK
     | some cs =>
      rw [cX] at dK
      have hcs:cs=[.ah id none]:=by
       split at dK
       ·rename_i h;obtain rfl:=aX dK;exact aX h
       ·simp at dK
      subst hcs
      obtain ⟨u,ze,t'⟩:=hv.get lr mY
      have t':=o5 _ _ t'
      simp only [aT] at t'
      obtain ⟨mP,A,rfl,m5⟩:=t'
      obtain ⟨b,o,sp⟩:=A
      have hsp:=m5.1
      simp only at hsp
      subst hsp
      obtain ⟨rJ,ez,ws,hA,hc1,hc2,y8⟩:=yR i2 cX (je.plus (b:=b) (o:=o) off m5)
      simp only [at_,Addr.mk.injEq,and_true] at hA
      obtain ⟨rfl,rfl⟩:=hA
      match ws,hc1 with
      | [v0],hc1 =>
       obtain ⟨hk0,A,m,k,rfl,hh⟩:=hc1.1
       simp only [aT]
       refine⟨hk0,?_⟩
       rcases ho with⟨h1,h2⟩ | ⟨h1,qd,eL,iF,dB,fj,c1,h2,h3,h4,a7⟩
       ·exact .inl ⟨h1,h2⟩
       ·right
        refine⟨h1,_,a7,rfl,?_⟩
        rw [ze] at h2
        simp only [Option.some.injEq,Value.pointer.injEq,at_,Addr.mk.injEq,and_true] at h2
        obtain ⟨rfl,rfl⟩:=h2
        have:=hc2.head
        rw [h3] at this
        simp only [Option.some.injEq,Value.slice.injEq] at this
        obtain ⟨rfl,rfl,rfl⟩:=this
        show match (p.2.o id).core with | .var _ _=>_ | .row .. => _ | _=>_
        unfold p5 at l6
        cases bU:p.2.o id with
        | row u em ver xs =>
         rw [bU] at l6
         have:=aa.eq_of_beq _ _ l6
         subst this
         obtain ⟨cP,dU,gJ,hP,h9⟩:=hh u em ver xs (k8 bU)
         have cP:fj=xs.length:=cP
         rcases h9 with h9 | ⟨a0,mT,mZ⟩
         ·omega
         ·simp only [d_,Nat.zero_mul,Nat.add_zero,Option.some.injEq,at_,Addr.mk.injEq,and_true] at mZ
          refine⟨_,rfl,by omega,a0,mT,?_⟩
          simp only [at_,Addr.mk.injEq,and_true]
          exact⟨mZ.1,by omega⟩
        | _=>rw [bU] at l6;cases l6
    | _=>simp at dK
end
end Go.LM
namespace Go.LM
section
variable{P:Program}{Q:Exit→Act→World→Prop}
variable{g:Bool}{w0:World}{F0 Z0:ag}{n:cB}{s aq:al}{a b6:Act}{w w' b7:World}{ι bh en:Nat→bC}{Z Z' bJ:ag}
variable{E:Env}{o:Oper}{bs : Type}{K:al→Option bs}{r : bs}{id:Nat}
def Cl:List a'→a'
 | [v]=>v
 | l=>.oK l
theorem Calls.mono{P:Program}{f:FuncId}{args:Array Value}{w:World}{R iB:Ending→World→Prop}(h:Calls P f args w R)(eM:∀e w',R e w'→iB e w'):Calls P f args w iB:=by
 intro cs
 obtain ⟨e,w',m6,h1,h2⟩:=h cs
 exact⟨e,w',m6,eM e w' h1,h2⟩
theorem w6.mono{P:Program}{f:FuncId}{args:Array Value}{w:World}{R iB:Ending→World→Prop}(h:w6 P f args w R)(eM:∀e w',R e w'→iB e w'):w6 P f args w iB:=by
 rcases h with⟨h1,h2⟩ | ⟨v,w',h1,h2⟩
 ·exact .inl ⟨h1,Calls.mono h2 eM⟩
 ·exact .inr ⟨v,w',h1,eM _ _ h2⟩
def Cm(P:Program)(E:Env):Prop:=∀f key e,E.fns f key=some e→hK P f key e
theorem adj{f:FuncId}{vs:List a'}{us:List Value}{K:a'→al→Option bs}(ef:Cm P E)(h:Inv w0 F0 Z0 n s a w ι Z)(hv:a8 w Z s ι vs us)(hk:I8 E id s f vs K=some r) :
  ∃(T:a'→al→Prop),(∀v aq,T v aq→K v aq=some r)∧(∃v aq,T v aq)∧w6 P f us.toArray w fun e w'=>∃u,e=.returned u∧∀v aq,T v aq→∃ bh Z',Inv w0 F0 Z0 n aq a w' bh Z'∧aT w' Z' aq bh v u:=by
 unfold I8 at hk
 cases hf:E.fns f (oO vs) with
 | none=>rw [hf] at hk;simp at hk
 | some e =>
  rw [hf] at hk
  simp only at hk
  cases hm:gb (oO vs) s e.ps (vs++k6 vs) [] with
  | none=>rw [hm] at hk;simp at hk
  | some q =>
   obtain ⟨x,s1,bq⟩:=q
   rw [hm] at hk
   simp only at hk
   cases dq:(alive s1 bq&&nQ vs)
   ·rw [dq] at hk;simp at hk
   rw [dq] at hk
   simp only [Bool.and_eq_true] at dq
   obtain ⟨dq,Kn⟩:=dq
   simp only [cond_true] at hk
   obtain ⟨y,a_,hk⟩:=bj hk
   cases hu:k5 (vs++k6 vs) e.ps bq e.rs y s1 id with
   | none=>rw [hu] at hk;simp at hk
   | some q =>
    obtain ⟨l,s2⟩:=q
    rw [hu] at hk
    have Ko:=ef f _ e hf
    have hvc:=hv.append (Kk Kn hv)
    obtain ⟨F,H,cr,i1,g1,bw,k1,f1,h1,a1,_,d1,_⟩:=qm e.ps _ _ s Z [] _ hm h hvc (by simp)
    simp only at i1 g1 bw k1 f1 h1 d1
    have b8:=Ck dq
    have hcall:=Ko.calls w (cr.or (dd ι bq)) F x us y
     (by
      rintro b o (hz | ⟨d,ah,hf⟩)
      ·exact i1.iC b o hz
      ·exact(i1.own d.1 (b8 d ah) b o hf).2)
     (fun b o hf=>(f1.own b o hf).2)
     (by
      rintro b o hf (hz | hz)
      ·exact f1.cW b o hf hz
      ·exact f1.dd b8 b o hf hz) bw a_
    refine⟨fun eG aq=>eG=Cl l∧aq=s2,?_,⟨_,s2,rfl,rfl⟩,hcall.mono ?_⟩
    ·rintro eG aq ⟨rfl,rfl⟩
     clear hu
     match l,hk with
     | [],hk=>exact hk
     | [_],hk=>exact hk
     | _ :: _ :: _,hk=>exact hk
    ·rintro end_ w' ⟨u,rfl,⟨dk,Z',F',rfl,hx,Kp,hz2,hf2,zf,hg⟩⟩
     refine⟨_,rfl,?_⟩
     rintro eG aq ⟨rfl,rfl⟩
     let S:ag:=fun b o=>Z' b o∧(F b o∨w.heap.size≤b)
     have jD:=i1.B1 f1 hx
     have SU:∀(X:ag),(∀b o,X b o→(F b o∨w.heap.size≤b)∧b<w'.heap.size)→bE w0 F0 s1 w' ι cr X:=by
      intro X hX
      have hsz:=i1.ext.size
      refine⟨fun b o hb=>⟨?_,(hX b o hb).2⟩,fun id hl b o hb hi=>?_,fun b o hb hz=>?_⟩
      ·rcases (hX b o hb).1 with hf | hf
       ·exact(f1.own b o hf).1
       ·exact .inr (by omega)
      ·rcases (hX b o hb).1 with hf | hf
       ·exact f1.apart id hl b o hf hi
       ·have:=(i1.own id hl b o hi).2;omega
      ·rcases (hX b o hb).1 with hf | hf
       ·exact f1.cW b o hf hz
       ·have:=i1.iC b o hz;omega
     have JX:bE w0 F0 s1 w' ι cr S:=SU S (by
      rintro b o ⟨hz,hf⟩
      refine⟨hf,?_⟩
      rcases hz2 b o hz with h1 | h1
      ·have hsz:=hx.size
       rcases h1 with h1 | ⟨d,ah,h1⟩
       ·have:=i1.iC b o h1;omega
       ·have:=(i1.own d.1 (b8 d ah) b o h1).2;omega
      ·exact h1.2)
     have eW:=jD.freeze JX
     have Kq:bE w0 F0 s1 w' ι (cr.or S) F':=(SU F' hf2).freeze (fun b o hb hs=>zf b o hb hs.1)
     have cD:bE w0 F0 s1 w' ι (cr.or S) H:=(h1.ext hx).freeze (by
      rintro b o hb ⟨_,hf | hf⟩
      ·exact a1 b o hf hb
      ·have:=(h1.own b o hb).2;omega)
     have SV:ag.apart cr F:=fun b o hz hf=>f1.cW b o hf hz
     have rS:eA w cr s1 ι w' (cr.or S) s1 ι := by
      refine⟨fun id=>.stay _ _,fun _ _ h=>.inl h,b4.iE hx i1.rI ?_⟩
      rintro b o (hz | ⟨id,hl,_,_,hf⟩) hs
      ·exact SV b o hz hs
      ·exact f1.apart id hl b o hs hf
     have xc:gy false w cr s1 ι w' (cr.or S) s1 ι H :=
      ⟨fun _ _=>aT.move rS,fun _ _=>cc.move rS,rS.dC,fun _ _ _ h=>⟨h,rfl⟩,fun h=>by simp at h,b4.iE hx (fun b o hb=>(h1.own b o hb).2) (fun b o hb hf=>a1 b o hf hb),b4.iE hx i1.iC SV,fun b o hw=>hx.p0 hw,fun z b o hw=>hx.kk hw⟩
     have hvs1:a8 w' (cr.or S) s1 ι (vs++k6 vs) (us++f' us):=a8.move rS (a8.move g1.d' hvc)
     obtain ⟨en,i2,_,cH⟩:=xd e.rs y dk s1 ι id (l,aq) F' H hu eW (eO.move xc (fun _ _ h=>h) e.ps k1.l5) (hS.mono (by
      intro b o hz
      by_cases hc:(F b o∨w.heap.size≤b)
      ·exact .inl (.inr ⟨hz,hc⟩)
      ·rcases hz2 b o hz with h1 | h1
       ·rcases h1 with h1 | h1
        ·exact .inl (.inl h1)
        ·exact .inr h1
       ·exact absurd h1.1 hc) e.rs (fun _ _ h=>h) hg) Kq cD (by
      intro b o hb hh
      rcases (hf2 b o hb).1 with hf | hf
      ·exact a1 b o hf hh
      ·have:=(h1.own b o hh).2;omega) (fun d ah=>⟨b8 d ah,d1 d ah⟩) hvs1
     refine⟨en,_,i2,?_⟩
     show aT w' _ aq en (Cl l) (n5 dk)
     simp only at cH
     clear hk hu
     match l,cH with
     | [],cH=>simp only [a8] at cH;subst cH;simp only [Cl,aT,n5];exact⟨[],rfl,by simp only [a8]⟩
     | [v0],cH =>
      simp only [a8] at cH
      obtain ⟨kq,wR,rfl,h0,rfl⟩:=cH
      exact h0
     | v0 :: v1 :: l,cH =>
      have xe:=cH
      simp only [a8] at cH
      obtain ⟨kq,wR,rfl,h0,mJ,us1,rfl,h1,h2⟩:=cH
      simp only [Cl,aT,n5]
      exact⟨_,rfl,xe⟩
theorem SW{m:Nat}{n:Int}{k:Nat}(hx:aL m n=some k):0≤n∧k=n.toNat:=by
 unfold aL at hx
 by_cases hc:0≤n∧n<(m:Int)
 ·rw [if_pos hc] at hx;exact⟨hc.1,(aX hx).symm⟩
 ·rw [if_neg hc] at hx;cases hx
theorem Cn{bs : Type}{r : bs} : ∀ {vs:List a'} {us:List Value} {K:List a'→Option bs},rz s vs K=some r→a8 w Z s ι vs us→∃bD,K bD=some r∧a8 w Z s ι bD us
 | [],us,K,hk,hv=>⟨[],hk,hv⟩
 | v :: l,us,K,hk,hv=>by
  simp only [a8] at hv
  obtain ⟨u,aV,rfl,h1,h2⟩:=hv
  have keep:(rz s l fun dh=>K (v :: dh))=some r→∃bD,K bD=some r∧a8 w Z s ι bD (u :: aV):=fun hk=>by
   obtain ⟨dh,k1,k2⟩:=Cn (K:=fun dh=>K (v :: dh)) hk h2
   exact⟨v :: dh,k1,by simp only [a8];exact⟨u,aV,rfl,h1,k2⟩⟩
  cases v with
  | opt i n =>
   simp only [rz] at hk
   obtain ⟨k,hx,hk⟩:=bj hk
   obtain ⟨dh,k1,k2⟩:=Cn (K:=fun dh=>K (.ptr ⟨i,some k,0⟩ :: dh)) hk h2
   refine⟨_,k1,?_⟩
   simp only [a8]
   refine⟨u,aV,rfl,?_,k2⟩
   simp only [aT] at h1 ⊢
   obtain ⟨h0,rfl⟩:=SW hx
   obtain ⟨mP,⟨h3,_⟩ | ⟨h3,xf,rfl,h4⟩⟩:=h1
   ·omega
   ·exact⟨mP,xf,rfl,h4⟩
  | may b dp cs =>
   simp only [rz] at hk
   cases b
   ·cases hk
   obtain ⟨dh,k1,k2⟩:=Cn (K:=fun dh=>K (.c3 dp cs 0 :: dh)) hk h2
   refine⟨_,k1,?_⟩
   simp only [a8]
   refine⟨u,aV,rfl,?_,k2⟩
   simp only [aT] at h1 ⊢
   rcases h1 with⟨h1,_⟩ | ⟨_,h1⟩
   ·cases h1
   ·exact h1
  | _=>exact keep hk
theorem adk{f:FuncId}{vs:List a'}{us:List Value}{K:a'→al→Option bs}(ef:Cm P E)(h:Inv w0 F0 Z0 n s a w ι Z)(hv:a8 w Z s ι vs us)(hk:I9 E id s f vs K=some r) :
  ∃(T:a'→al→Prop),(∀v aq,T v aq→K v aq=some r)∧(∃v aq,T v aq)∧w6 P f us.toArray w fun e w'=>∃u,e=.returned u∧∀v aq,T v aq→∃ bh Z',Inv w0 F0 Z0 n aq a w' bh Z'∧aT w' Z' aq bh v u:=by
 unfold I9 at hk
 obtain ⟨bD,eN,k9⟩:=Cn hk hv
 exact adj ef h k9 eN
theorem adl{c:Call}{b3:Operand}(ef:Cm P E)(h:Inv w0 F0 Z0 n s a w ι Z)(ah:∀k,o.dst=some k→k<n)(ho:o.op=.call c)(hc:c.callee=.value b3)(hk:cL E id o s K=some r) :
  ∃aq,K aq=some r∧o.wp P a w (cQ w0 F0 Z0 n aq) Q:=by
 unfold cL at hk
 rw [ho] at hk
 simp only [hc] at hk
 have hvs:=tQ h c.args.toList
 have hf:=eR h b3
 cases Co:bR s b3 with
 | fn Kr first k0 =>
  rw [Co] at hk hf
  simp only at hk
  simp only [aT] at hf
  obtain ⟨cn,cs,Ks,kH,hcs⟩:=hf
  have qn:a8 w Z s ι (first++c.args.toList.map (bR s)++k0) (cn++c.args.toList.map a.eval++cs):=(kH.append hvs).append hcs
  obtain ⟨T,adm,⟨v,aq,bX⟩,xg⟩:=adk ef h qn hk
  refine⟨_,adm v aq bX,?_⟩
  unfold Oper.wp
  have hrun:(execOp a.eval o).run P w=(callFunc Kr (cn++c.args.toList.map a.eval++cs).toArray).run P w:=by
   unfold execOp;rw [ho]
   simp only [run_bind,resolve,hc,Ks,Deferred.ofValue,run_pure,invoke]
   congr 2
   apply Array.ext'
   simp
  rw [hrun]
  rcases xg with⟨⟨fn,zg,Kt,j1⟩,xg⟩ | ⟨u,w',ua,gz,yY,hu⟩
  ·have Ku:(callFunc Kr (cn++c.args.toList.map a.eval++cs).toArray).run P w=.ok (.enter Kr (cn++c.args.toList.map a.eval++cs).toArray) w:=by
    simp only [callFunc,run_bind,run_pure,program,Sem.run,zg]
    rw [if_neg (by rw [j1];simp),if_neg (by rw [Kt];simp)]
    simp only [run_pure]
   rw [Ku,Oper.upon_enter]
   refine xg.mono ?_
   rintro e w' ⟨u,rfl,hu⟩
   obtain ⟨bh,Z',hinv,cH⟩:=hu v aq bX
   exact⟨bh,Z',hinv.dst cH ah⟩
  ·rw [ua,Oper.upon_value]
   cases yY
   obtain ⟨bh,Z',hinv,cH⟩:=hu v aq bX
   exact⟨bh,Z',hinv.dst cH ah⟩
 | _=>rw [Co] at hk;simp at hk
structure jE(P:Program)(E:Env):Prop where
 ty:gL P E
 eq:R4 P E
 fns:Cm P E
 mix:P.follows .mixedOrders=true
theorem adn(bK:jE P E)(h:Inv w0 F0 Z0 n s a w ι Z)(ah:∀k,o.dst=some k→k<n)(hk:cL E id o s K=some r) :
  ∃aq,K aq=some r∧o.wp P a w (cQ w0 F0 Z0 n aq) Q:=by
 have e6:(∃aq,K aq=some r∧Pure P o a w (cQ w0 F0 Z0 n aq))→∃aq,K aq=some r∧o.wp P a w (cQ w0 F0 Z0 n aq) Q:=fun⟨aq,h1,h2⟩=>⟨aq,h1,h2.wp⟩
 cases ho:o.op with
 | move x=>exact e6 (BS h ah (.inl ho) hk)
 | assign x=>exact e6 (BS h ah (.inr ho) hk)
 | pick c x y=>exact e6 (RM h ah ho hk)
 | alloc t=>exact ab_ bK.ty h ah ho hk
 | box t x=>exact ab' bK.ty h ah ho hk
 | build t ps=>exact e6 (Sk bK.ty h ah ho hk)
 | buildSlice t m ps=>exact acD bK.ty h ah ho hk
 | load t x=>exact aca bK.ty h ah ho hk
 | store t x y=>exact acd bK.ty h ah ho hk
 | nilCheck x=>exact e6 (RO h ah ho hk)
 | binOp op t x y BY=>exact e6 (R6 bK.ty bK.eq h ah ho hk)
 | unOp op t x=>exact e6 (R3 h ah ho hk)
 | convert st gg x=>exact acs bK.ty h ah ho hk
 | makeFunc f first k0 =>
  cases f with
  | func f=>exact e6 (RT h ah ho hk)
  | _=>unfold cL at hk;rw [ho] at hk;simp at hk
 | makeSlice t x y=>exact aco bK.ty h ah ho hk
 | slice t x lo hi fi=>exact e6 (RZ bK.ty h ah ho hk)
 | fieldAddr t x f=>exact e6 (RQ bK.ty h ah ho hk)
 | field t x f=>exact e6 (RR bK.ty h ah ho hk)
 | indexAddr t x i=>exact e6 (RU bK.ty h ah ho hk)
 | index t x i=>exact e6 (RV bK.ty h ah ho hk)
 | extract x i=>exact e6 (RS h ah ho hk)
 | call c =>
  cases hc:c.callee with
  | builtin b =>
   by_cases hb:b=.append
   ·subst hb;exact acP bK.ty h ah ho hc hk
   ·by_cases hb2:b=.clear
    ·subst hb2;exact acX bK.ty h ah ho hc hk
    ·exact e6 (Se bK.ty h ah ho hc hb hb2 hk)
  | value f=>exact adl bK.fns h ah ho hc hk
  | invoke x m=>unfold cL at hk;rw [ho] at hk;simp [hc] at hk
 | _=>unfold cL at hk;rw [ho] at hk;simp at hk
end
end Go.LM
namespace Go.LM
mutual
theorem aa.beq_refl:∀t:aa,aa.beq t t=true
 | .int k=>by simp [aa.beq]
 | .bool=>rfl
 | .str=>rfl
 | .raw=>rfl
 | .sl t=>by simp only [aa.beq];exact aa.beq_refl t
 | .st aj=>by simp only [aa.beq];exact az.beq_refl aj
theorem az.beq_refl:∀t:az,az.beq t t=true
 | .nil=>rfl
 | .cons t aj=>by simp only [az.beq,aa.beq_refl t,az.beq_refl aj,cond_true]
end
theorem ado(a:aa)(x:a.D):ew a a x=some x:=by unfold ew;rw [dif_pos (aa.beq_refl a)]
section
variable{w b7:World}{Z bJ:ag}
def SX(w:World)(Z:ag)(t:aa)(z:List t.D)(v:Value)(H1 G1:ag)(R:World→ag→List t.D→Value→ag→Prop):Prop :=
 (aa.sl t).an w Z (.O t.own) z [v] H1∧ag.apart H1 G1∧∀(b7:World) (bJ X:ag) (y:List t.D) (u:Value),b4 w b7 G1→(aa.sl t).an b7 bJ (.O t.own) y [u] X→ag.apart X G1→R b7 bJ y u (X.or G1)
mutual
theorem aa.ub:∀(T:aa) (off:Nat) (t:aa) {x:T.D} {z:List t.D} {us:List Value} {G:ag},T.an w Z T.own x us G→T.getAt off t x=some z →
  ∃v H1 G1,us[off]?=some v∧ag.sub H1 G∧ag.sub G1 G∧SX w Z t z v H1 G1 (fun b7 bJ y u eC=>∀cl,T.setAt off t y x=some cl→T.an b7 bJ T.own cl (us.set off u) eC)
 | .int _,_,_,_,_,_,_,_,h=>by simp [aa.getAt] at h
 | .bool,_,_,_,_,_,_,_,h=>by simp [aa.getAt] at h
 | .str,_,_,_,_,_,_,_,h=>by simp [aa.getAt] at h
 | .raw,_,_,_,_,_,_,_,h=>by simp [aa.getAt] at h
 | .sl u,off,t,x,z,us,G,hr,h=>by
  simp only [aa.getAt] at h
  cases hb:Nat.beq off 0
  ·rw [hb] at h;cases h
  rw [hb] at h
  obtain rfl:=Nat.eq_of_beq_eq_true hb
  obtain ⟨e,rfl⟩:=gK h
  subst e
  have jC:=hr
  simp only [aa.own,aa.an] at hr
  obtain ⟨A,c,rfl,_⟩:=hr
  refine⟨_,G,ag.none,rfl,fun _ _ h=>h,fun _ _ h=>h.elim,jC,fun _ _ _ h=>h.elim,fun b7 bJ X y kq _ h2 _ cl hs=>?_⟩
  simp only [aa.setAt] at hs
  obtain ⟨e,rfl⟩:=gK (show ew (.sl u) (.sl u) y=some cl from hs)
  exact aa.an.mono (fun _ _ h=>h) _ _ (fun _ _ h=>.inl h) h2
 | .st aj,off,t,x,z,us,G,hr,h=>by
  have hR:aj.flat=false:=by
   cases hf:aj.flat
   ·rfl
   ·exact(aa.w5 (.st aj) (by simpa only [aa.flat] using hf) h).elim
  simp only [aa.own,hR,Bool.false_eq_true,if_false,aa.an,bg.parts] at hr
  simp only [aa.getAt] at h
  obtain ⟨v,H1,G1,h1,h2,h3,h4,a7,bp⟩:=az.ub aj off t hr h
  refine⟨v,H1,G1,h1,h2,h3,h4,a7,fun b7 bJ X y kq k1 k2 k3 cl hs=>?_⟩
  simp only [aa.setAt] at hs
  simp only [aa.own,hR,Bool.false_eq_true,if_false,aa.an,bg.parts]
  exact bp b7 bJ X y kq k1 k2 k3 cl hs
theorem az.ub:∀(aj:az) (off:Nat) (t:aa) {x:aj.D} {z:List t.D} {us:List Value} {G:ag},aj.an w Z aj.own x us G→aj.getAt off t x=some z →
  ∃v H1 G1,us[off]?=some v∧ag.sub H1 G∧ag.sub G1 G∧SX w Z t z v H1 G1 (fun b7 bJ y u eC=>∀cl,aj.setAt off t y x=some cl→aj.an b7 bJ aj.own cl (us.set off u) eC)
 | .nil,_,_,_,_,_,_,_,h=>by simp [az.getAt] at h
 | .cons T aj,off,t,x,z,us,G,hr,h=>by
  simp only [az.own,az.an,cM.ah,cM.du] at hr
  obtain ⟨mJ,iK,m0,m1,rfl,bw,b9,hap,ha,hb⟩:=hr
  have hl:=(aa.an.len T _ bw).1
  simp only [az.getAt] at h
  cases bY:Nat.blt off T.size
  ·rw [bY] at h
   have J3:T.size≤off:=by
    rcases Nat.lt_or_ge off T.size with h1 | h1
    ·have:Nat.blt off T.size=true:=Nat.ble_eq_true_of_le h1
     rw [this] at bY;cases bY
    ·exact h1
   obtain ⟨v,H1,G1,h1,h2,h3,h4,a7,bp⟩:=az.ub aj (off-T.size) t b9 h
   refine⟨v,H1,m0.or G1,?_,fun b o x=>hb b o (h2 b o x),?_,h4,?_,fun b7 bJ X y kq k1 k2 k3 cl hs=>?_⟩
   ·rw [List.getElem?_append_right (by omega),hl];exact h1
   ·rintro b o (y | y)
    ·exact ha b o y
    ·exact hb b o (h3 b o y)
   ·rintro b o y (q | q)
    ·exact hap b o q (h2 b o y)
    ·exact a7 b o y q
   ·simp only [az.setAt,bY,cond_false] at hs
    obtain ⟨n4,hz,hs⟩:=bj hs
    obtain rfl:=aX hs
    simp only [az.own,az.an,cM.ah,cM.du]
    refine⟨mJ,iK.set (off-T.size) kq,m0,X.or G1,by rw [List.set_append_right _ _ (by omega),hl],qi T (k1.mono fun _ _ h=>.inl h) bw,bp b7 bJ X y kq (k1.mono fun _ _ h=>.inr h) k2 (fun b o p q=>k3 b o p (.inr q)) n4 hz,?_,fun _ _ h=>.inr (.inl h),?_⟩
    ·rintro b o p (q | q)
     ·exact k3 b o q (.inl p)
     ·exact hap b o p (h3 b o q)
    ·rintro b o (q | q)
     ·exact .inl q
     ·exact .inr (.inr q)
  ·rw [bY] at h
   have J3:off<T.size:=Nat.le_of_ble_eq_true bY
   obtain ⟨v,H1,G1,h1,h2,h3,h4,a7,bp⟩:=aa.ub T off t bw h
   refine⟨v,H1,G1.or m1,?_,fun b o x=>ha b o (h2 b o x),?_,h4,?_,fun b7 bJ X y kq k1 k2 k3 cl hs=>?_⟩
   ·rw [List.getElem?_append_left (by omega)];exact h1
   ·rintro b o (y | y)
    ·exact ha b o (h3 b o y)
    ·exact hb b o y
   ·rintro b o y (q | q)
    ·exact a7 b o y q
    ·exact hap b o (h2 b o y) q
   ·simp only [az.setAt,bY,cond_true] at hs
    obtain ⟨n4,hz,hs⟩:=bj hs
    obtain rfl:=aX hs
    simp only [az.own,az.an,cM.ah,cM.du]
    refine⟨mJ.set off kq,iK,X.or G1,m1,by rw [List.set_append_left _ _ (by omega)],bp b7 bJ X y kq (k1.mono fun _ _ h=>.inl h) k2 (fun b o p q=>k3 b o p (.inl q)) n4 hz,SB aj (k1.mono fun _ _ h=>.inr h) b9,?_,?_,fun _ _ h=>.inr (.inr h)⟩
    ·rintro b o (p | p) q
     ·exact k3 b o p (.inr q)
     ·exact hap b o (h3 b o p) q
    ·rintro b o (q | q)
     ·exact .inl q
     ·exact .inr (.inl q)
end
theorem mG.ub{T:aa}{ys:List T.D}{a:Addr}{c:Nat}{F:ag}{i off:Nat}{t:aa}{z:List t.D}(h:mG w (T.an w Z T.own) T.size ys a c F)(hi:i<ys.length)(aD:T.getAt off t (J T ys i)=some z) :
  ∃v H1,w.cell? (at_ a.block (a.off+i*T.size+off))=some v∧(aa.sl t).an w Z (.O t.own) z [v] H1∧ag.sub H1 F∧ag.diff F H1 a.block (a.off+i*T.size+off)∧fO w T.size a.block (a.off+i*T.size+off) ∧
   ∀(b7:World) (bJ X:ag) (y:List t.D) (cl:T.D) (u:Value),b4 w b7 (fun b o=>ag.diff F H1 b o∧¬(b=a.block∧o=a.off+i*T.size+off))→b7.cell? (at_ a.block (a.off+i*T.size+off))=some u →
    fO b7 T.size a.block (a.off+i*T.size+off)→(aa.sl t).an b7 bJ (.O t.own) y [u] X→ag.apart X (ag.diff F H1)→T.setAt off t y (J T ys i)=some cl →
    mG b7 (T.an b7 bJ T.own) T.size (ys.set i cl) a c (X.or (ag.diff F H1)):=by
 rw [di hi] at aD ⊢
 obtain ⟨G,g1,g2,g3⟩:=h.row
 obtain ⟨m0,iJ,m1,vs,bw,J4,hvl,cm,b9,a1,a2,a3,s1,s2,s3⟩:=g1.B9 i hi
 obtain ⟨v,H1,G1,hv,k1,k2,k3,bf,bm⟩:=aa.ub T off t J4 aD
 have y0:ag.sub H1 G:=fun b o x=>s2 b o (k1 b o x)
 have hle:ys.length*T.size≤c*T.size:=Nat.mul_le_mul_right _ h.cap
 have gw:(i+1)*T.size≤ys.length*T.size:=Nat.mul_le_mul_right _ hi
 rw [Nat.add_one_mul] at gw
 have fk:off<T.size:=by
  rcases Nat.lt_or_ge off T.size with h1 | h1
  ·exact h1
  ·rw [List.getElem?_eq_none (by omega)] at hv;cases hv
 have tV:∀ {A:ag},ag.sub A G→ag.apart A H1→ag.sub A (ag.diff F H1):=fun hA av b o x=>⟨g3 b o (hA b o x),fun y=>av b o x y⟩
 have tW:ag.sub m0 (ag.diff F H1):=tV s1 fun b o x y=>a1 b o x (k1 b o y)
 have tX:ag.sub m1 (ag.diff F H1):=tV s3 fun b o x y=>a3 b o (k1 b o y) x
 have d1:ag.sub G1 (ag.diff F H1):=tV (fun b o x=>s2 b o (k2 b o x)) fun b o x y=>bf b o y x
 have oY:∀j,j<c*T.size→ag.diff F H1 a.block (a.off+j):=fun j hj=>⟨h.inF j hj,fun y=>g2 j hj (y0 _ _ y)⟩
 have hspot:i*T.size+off<c*T.size:=by omega
 have eI:∀ {A:ag},ag.sub A G→∀b o,A b o→¬(b=a.block∧o=a.off+i*T.size+off):=by
  rintro A hA b o x ⟨rfl,rfl⟩
  have:=g2 (i*T.size+off) hspot
  rw [← Nat.add_assoc] at this
  exact this (hA _ _ x)
 refine⟨v,H1,cm off v hv,k3,fun b o x=>g3 b o (y0 b o x),by have:=oY _ hspot;rwa [← Nat.add_assoc] at this,by have:=h.wr _ hspot;rwa [← Nat.add_assoc] at this,fun b7 bJ X y cl u hs hu hwr hr hap J5=>?_⟩
 have adp:b4 w b7 m0:=fun b o x=>hs b o ⟨tW b o x,eI s1 b o x⟩
 have gB:b4 w b7 m1:=fun b o x=>hs b o ⟨tX b o x,eI s3 b o x⟩
 have adq:b4 w b7 G1:=fun b o x=>hs b o ⟨d1 b o x,eI (fun b o x=>s2 b o (k2 b o x)) b o x⟩
 have hcell:∀j,j<c*T.size→j≠i*T.size+off→b7.cell? (at_ a.block (a.off+j))=w.cell? (at_ a.block (a.off+j)):=fun j hj hne=>(hs _ _ ⟨oY j hj,fun h=>hne (by omega)⟩).1
 have hw2:∀j,j<c*T.size→fO b7 T.size a.block (a.off+j):=by
  intro j hj
  by_cases hne:j=i*T.size+off
  ·subst hne;rwa [Nat.add_assoc] at hwr
  ·exact hs.kk ⟨oY j hj,fun h=>hne (by omega)⟩ (h.wr j hj)
 have fb:=bm b7 bJ X y u adq hr (fun b o p q=>hap b o p (d1 b o q)) cl J5
 refine⟨h.spot,by simpa using h.cap,hw2,fun j hj=>.inr (oY j hj),m0.or ((X.or G1).or m1),?_,?_,?_⟩
 ·refine Row.B_ i hi (bw.imp (fun y us df hG hr=>qi T (adp.mono fun b o p=>hG b o p) hr) fun j hj=>hcell j ?_ ?_) fb (by simpa using hvl) ?_ (b9.imp (fun y us df hG hr=>qi T (gB.mono fun b o p=>hG b o p) hr) fun j hj=>?_) ?_ a2 ?_
  ·simp only [List.length_take] at hj
   have:min i ys.length*T.size≤ys.length*T.size:=Nat.mul_le_mul_right _ (Nat.min_le_right _ _)
   omega
  ·simp only [List.length_take] at hj
   have:min i ys.length*T.size≤i*T.size:=Nat.mul_le_mul_right _ (Nat.min_le_left _ _)
   omega
  ·intro k q hk
   by_cases adr:k=off
   ·subst adr
    rw [List.getElem?_set_self (by omega)] at hk
    rw [← aX hk];exact hu
   ·rw [List.getElem?_set_ne (by omega)] at hk
    have nK:k<vs.length:=by
     rcases Nat.lt_or_ge k vs.length with h1 | h1
     ·exact h1
     ·rw [List.getElem?_eq_none h1] at hk;cases hk
    have:=hcell (i*T.size+k) (by omega) (by omega)
    rw [← Nat.add_assoc] at this
    rw [this];exact cm k q hk
  ·simp only [List.length_drop] at hj
   have e1:(ys.length-(i+1))*T.size=ys.length*T.size-(i*T.size+T.size):=by rw [Nat.sub_mul,Nat.add_one_mul]
   rw [e1] at hj
   have:=hcell ((i+1)*T.size+j) (by rw [Nat.add_one_mul];omega) (by rw [Nat.add_one_mul];omega)
   rwa [← Nat.add_assoc] at this
  ·rintro b o p (q | q)
   ·exact hap b o q (tW b o p)
   ·exact a1 b o p (k2 b o q)
  ·rintro b o (p | p) q
   ·exact hap b o p (tX b o q)
   ·exact a3 b o (k2 b o p) q
 ·rintro j hj (p | (p | p) | p)
  ·exact g2 j hj (s1 _ _ p)
  ·exact hap _ _ p (oY j hj)
  ·exact g2 j hj (s2 _ _ (k2 _ _ p))
  ·exact g2 j hj (s3 _ _ p)
 ·rintro b o (p | (p | p) | p)
  ·exact .inr (tW b o p)
  ·exact .inl p
  ·exact .inr (d1 b o p)
  ·exact .inr (tX b o p)
end
section
variable{P:Program}{Q:Exit→Act→World→Prop}
variable{w0:World}{F0 Z0:ag}{n:cB}{s aq:al}{a b6:Act}{w w':World}{ι bh:Nat→bC}{Z Z':ag}
variable{E:Env}{bs : Type}{r : bs}
theorem Kv(a:Act){d:Nat}(v:Value)(ah:d<a.tmps.size):(a.put (some d) v).eval (.tmp d)=v:=by
 show(a.tmps.setIfInBounds d v).getD d undef=v
 rw [Jm _ _ _ _ ah,if_pos rfl]
theorem zh(a:Act){d k:Nat}(v:Value)(ah:d<a.tmps.size)(hk:d≠k):(a.put (some d) v).eval (.tmp k)=a.eval (.tmp k):=by
 show(a.tmps.setIfInBounds d v).getD k undef=a.tmps.getD k undef
 rw [Jm _ _ _ _ ah,if_neg hk]
theorem SY(a:Act)(d:Nat)(v:Value):(a.put (some d) v).tmps.size=a.tmps.size:=by
 show(a.tmps.setIfInBounds d v).size=_
 simp
theorem SZ{u t:aa}{dp:List (Nat×Nat)}{p:Place}{xs:List u.D}{v:Value}{l7:List t.D}{s0:al}(h:Inv w0 F0 Z0 n s a w ι Z)(hc:cc w Z s ι (.bA u dp (some p) xs) v)
  (hl:tz t t.own s dp (some p)=some (l7,s0)) :
  ∃(i:Nat) (T:aa) (ver:Nat) (ys:List T.D) (cJ dF:Nat) (H1:ag),p.fb=some i∧s.o p.id=.row T T.own ver ys∧s0=s.bL p.id (.b_ (.row T T.own ver ys))∧i<ys.length∧(ι p.id).base=some (at_ cJ dF) ∧
   Inv w0 F0 Z0 n s0 a w ι Z∧fl s ι Z s0 Z∧bE w0 F0 s0 w ι Z H1∧bE w0 F0 s0 w ι Z (ag.diff (ι p.id).F H1)∧(aa.sl t).an w Z (.O t.own) l7 [v] H1∧ag.sub H1 (ι p.id).F ∧
   ag.diff (ι p.id).F H1 cJ (dF+i*T.size+p.off)∧fO w T.size cJ (dF+i*T.size+p.off) ∧
   ∀(b7:World) (bJ X:ag) (y:List t.D) (cl:T.D) (q:Value),b4 w b7 (fun b o=>ag.diff (ι p.id).F H1 b o∧¬(b=cJ∧o=dF+i*T.size+p.off))→b7.cell? (at_ cJ (dF+i*T.size+p.off))=some q →
    fO b7 T.size cJ (dF+i*T.size+p.off)→(aa.sl t).an b7 bJ (.O t.own) y [q] X→ag.apart X (ag.diff (ι p.id).F H1)→T.setAt p.off t y (J T ys i)=some cl →
    mG b7 (T.an b7 bJ T.own) T.size (ys.set i cl) (at_ cJ dF) (ι p.id).cap (X.or (ag.diff (ι p.id).F H1)):=by
 simp only [tz] at hl
 cases eS:p.fb with
 | none=>rw [eS] at hl;simp at hl
 | some i =>
  rw [eS] at hl
  cases ho:s.o p.id with
  | row T em ver ys =>
   rw [ho] at hl
   simp only at hl
   cases hb:(alive s dp&&bg.beq em T.own&&bg.beq t.own t.own)
   ·rw [hb] at hl;simp at hl
   rw [hb] at hl
   simp only [cond_true] at hl
   simp only [Bool.and_eq_true] at hb
   obtain rfl:=bg.eq_of_beq _ _ hb.1.2
   obtain ⟨x,hx,hl⟩:=bj hl
   simp only [Option.some.injEq,Prod.mk.injEq] at hl
   obtain ⟨rfl,rfl⟩:=hl
   obtain ⟨_,_,_,kK⟩:=hc
   obtain ⟨_,kK⟩:=kK _ rfl
   obtain ⟨iF,dB,⟨_,fV⟩,hcell,hin⟩:=kK hb.1.1
   simp only [ho,cj.core] at fV
   obtain ⟨dP,hii,kL,a0,ep,mT⟩:=fV
   rw [eS] at hii
   obtain rfl:=aX hii
   have b8:(s.o p.id).live:=by rw [ho];trivial
   have aD:fl s ι Z (s.bL p.id (.b_ (.row T T.own ver ys))) Z:=by have:=y1 (s:=s) (ι := ι) (Z:=Z) b8;rw [ho] at this;exact this
   have fS:bE w0 F0 (s.bL p.id (.b_ (.row T T.own ver ys))) w ι Z (ι p.id).F:=by have:=h.y2 b8;rw [ho] at this;exact this
   have cU:=h.fP p.id
   rw [ho] at cU
   rcases cU with⟨hx0,_⟩ | ⟨a1,hb1,hr⟩
   ·rw [hx0] at kL;simp at kL
   rw [ep] at hb1
   obtain rfl:=aX hb1
   obtain ⟨ab,ao,sp⟩:=a0
   have hsp:=hr.spot
   simp only at hsp
   subst hsp
   obtain ⟨eG,H1,dn,eh,nZ,ads,adt,oU⟩:=hr.ub kL hx
   rw [← mT] at dn
   have J9:eG=v:=by rw [hcell] at dn;exact(aX dn).symm
   subst J9
   exact⟨i,T,ver,ys,ab,ao,H1,rfl,rfl,rfl,kL,ep,h.l2 aD,aD,fS.sub nZ,fS.sub fun _ _ h=>h.1,eh,nZ,ads,adt,oU⟩
  | _=>rw [ho] at hl;simp at hl
theorem adu{v:a'}{K:Place→Option bs}(hk:Jb s v K=some r):∃jA,K jA=some r∧∀ {w':World} {Z':ag} {aq:al} {bh:Nat→bC} {x:Value},aT w' Z' aq bh v x→∃A,x=.pointer (some A)∧je aq bh jA A:=by
 unfold Jb at hk
 cases v <;> simp only at hk <;> try (cases hk;done)
 ·exact⟨_,hk,fun hv=>by simp only [aT] at hv;exact hv.2⟩
 ·obtain ⟨k,h1,hk⟩:=bj hk
  obtain ⟨h2,rfl⟩:=SW h1
  refine⟨_,hk,fun hv=>?_⟩
  simp only [aT] at hv
  rcases hv.2 with⟨h3,_⟩ | ⟨_,h3⟩
  ·omega
  ·exact h3
theorem adv{dB:Oper}{T:aa}{k1 d0 i ver cJ dF:Nat}{p jA:Place}{ys:List T.D}{hv:Value}{s1:al}(l8:dB.op=.nilCheck (.tmp k1))(gJ:k1≠d0)(iN:d0<n.n)(rW:jA.id=p.id)(Cp:jA.fb=some i)(rX:Inv w0 F0 Z0 n s1 a w' ι Z)
  (Kw:∀ {w':World} {Z':ag} {aq:al} {bh:Nat→bC} {x:Value},aT w' Z' aq bh (s1.t k1) x→∃A,x=.pointer (some A)∧je aq bh jA A)
  (o6:s1.o p.id=.b_ (.row T T.own ver ys)) (ep:(ι p.id).base=some (at_ cJ dF)):(execOp (a.put (some d0) hv).eval dB).run P w'=.ok (.value (.pointer (some (at_ cJ (dF+i*T.size+jA.off))))) w':=by
 obtain ⟨aq4,adw,hsp,m5⟩:=Kw (rX.tmps k1)
 rw [rW,o6] at m5
 simp only [cj.core] at m5
 obtain ⟨dP,hii,_,a0,gM,Kx⟩:=m5
 rw [hii] at Cp
 obtain rfl:=aX Cp
 rw [ep] at gM
 obtain rfl:=aX gM
 subst Kx
 have:(a.put (some d0) hv).eval (.tmp k1)=.pointer (some (at_ cJ (dF+dP*T.size+jA.off))):=by rw [zh _ _ (by rw [rX.size];exact iN) (Ne.symm gJ)];exact adw
 unfold execOp;rw [l8];simp only [this];rfl
theorem S0{dB ez eL:Oper}{aj:az}{t T u:aa}{d0 d1 d2 mH mI nR k i ver cJ dF:Nat}{p:Place}{po:Nat}{ys:List T.D}{y:List t.D}{hv:Value}{G o7:ag}{s1 Cq:al}{A:Option Addr}{xh adx:Nat}{K:al→Option bs}(bK:jE P E)
  (jX:ez.op=.fieldAddr mH (.tmp d1) nR) (qo:eL.op=.store mI (.tmp d2) (.tmp d0)) (p_:dB.dst=some d1) (n7:ez.dst=some d2) (oZ:eL.dst=none)
  (hP:d0≠d1) (h9:d0≠d2) (iN:d0<n.n) (l9:d1<n.n) (l_:d2<n.n) (uc:E.ty mH=some (.st aj)) (ud:E.ty mI=some (.sl t)) (fk:aj.off nR=some (k,u)) (hz:u.size≠0)
  (jF:po+k=p.off) (eS:p.fb=some i) (kL:i<ys.length) (rX:Inv w0 F0 Z0 n s1 a w' ι Z)
  (Ky:(execOp (a.put (some d0) hv).eval dB).run P w'=.ok (.value (.pointer (some (at_ cJ (dF+i*T.size+po))))) w')
  (o6:s1.o p.id=.b_ (.row T T.own ver ys)) (ep:(ι p.id).base=some (at_ cJ dF)) (o8:hv=.slice A adx xh) (cH:(aa.sl t).an w' Z (.O t.own) y [hv] G)
  (o9:bE w0 F0 s1 w' ι Z G) (lu:bE w0 F0 s1 w' ι Z o7) (xi:ag.apart G o7) (xj:o7 cJ (dF+i*T.size+p.off)) (Cr:fO w' T.size cJ (dF+i*T.size+p.off))
  (xk:∀(b7:World) (bJ X:ag) (y:List t.D) (cl:T.D) (q:Value),b4 w' b7 (fun b o=>o7 b o∧¬(b=cJ∧o=dF+i*T.size+p.off))→b7.cell? (at_ cJ (dF+i*T.size+p.off))=some q→fO b7 T.size cJ (dF+i*T.size+p.off) →
   (aa.sl t).an b7 bJ (.O t.own) y [q] X→ag.apart X o7→T.setAt p.off t y (J T ys i)=some cl→mG b7 (T.an b7 bJ T.own) T.size (ys.set i cl) (at_ cJ dF) (ι p.id).cap (X.or o7))
  (hbk:wB t y (((s1.set d0 .aw).set d1 .aw).set d2 .aw) (some p)=some Cq) (hk:K Cq=some r) :
  dB.wp P (a.put (some d0) hv) w' (fun a w=>ez.wp P a w (fun a w=>eL.wp P a w (fun a w=>∃aq,K aq=some r∧cQ w0 F0 Z0 n aq a w) Q) Q) Q:=by
 have hcl:hv.cells = #[hv]:=by rw [o8];rfl
 have n8:dS hv=true:=by rw [o8];rfl
 have hsz:=rX.size
 have ady:Inv w0 F0 Z0 n (s1.set d0 .aw) (a.put (some d0) hv) w' ι Z:=rX.set (by simp only [aT]) iN
 have Cs:(a.put (some d0) hv).tmps.size=n.n:=by rw [SY];exact hsz
 unfold Oper.wp
 rw [Ky,Oper.upon_value,p_]
 obtain ⟨a2,zi⟩:∃a2,a2=(a.put (some d0) hv).put (some d1) (.pointer (some (at_ cJ (dF+i*T.size+po)))):=⟨_,rfl⟩
 rw [← zi]
 have S1:a2.tmps.size=n.n:=by rw [zi,SY];exact Cs
 have zj:a2.eval (.tmp d1)=.pointer (some (at_ cJ (dF+i*T.size+po))):=by rw [zi];exact Kv _ _ (by rw [Cs];exact l9)
 have adz:a2.eval (.tmp d0)=hv:=by rw [zi,zh _ _ (by rw [Cs];exact l9) (Ne.symm hP)];exact Kv _ _ (by rw [hsz];exact iN)
 obtain ⟨pos,fX⟩:∃pos,pos=dF+i*T.size+p.off:=⟨_,rfl⟩
 rw [← fX] at xj Cr xk
 have adA:(execOp a2.eval ez).run P w'=.ok (.value (.pointer (some (at_ cJ pos)))) w':=by
  obtain ⟨cn,hu,kH⟩:=JG (bK.ty.ty mH _ uc)
  obtain ⟨aq5,h1,h2,h3⟩:=az.BT kH fk
  rw [Array.getElem?_toList] at h1
  unfold execOp;rw [jX]
  refine fU ?_
  simp only [Instr.fieldAt,run_bind,run_underlying hu,h1,Instr.sureAddr,zj,run_pure,RP h3 hz,h2,Nat.zero_add]
  rw [fX,← jF,Nat.add_assoc]
 rw [adA,Oper.upon_value,n7]
 obtain ⟨a3,Ct⟩:∃a3,a3=a2.put (some d2) (.pointer (some (at_ cJ pos))):=⟨_,rfl⟩
 rw [← Ct]
 have adB:a3.eval (.tmp d2)=.pointer (some (at_ cJ pos)):=by rw [Ct];exact Kv _ _ (by rw [S1];exact l_)
 have adC:a3.eval (.tmp d0)=hv:=by rw [Ct,zh _ _ (by rw [S1];exact l_) (Ne.symm h9)];exact adz
 have Cu:Inv w0 F0 Z0 n (((s1.set d0 .aw).set d1 .aw).set d2 .aw) a3 w' ι Z:=by
  rw [Ct,zi]
  exact(ady.set (by simp only [aT]) l9).set (by simp only [aT]) l_
 have S2:(execOp a3.eval eL).run P w'=.ok .skip (setCells w' cJ pos [hv]):=by
  unfold execOp;rw [qo]
  have:=JD (P:=P) (w:=w') (bK.ty.ty mI _ ud) (b:=cJ) (o:=pos) (v:=hv) (by rw [hcl];rfl) (by rw [hcl];intro u hu;simp at hu;rw [hu];exact n8) (fun j hj=>by
   rw [hcl] at hj
   have:j=0:=by simp at hj;omega
   subst this;exact Cr.1)
  rw [hcl] at this
  simp only [Instr.storeAt,Instr.sureAddr,adB,adC,run_bind,run_pure,this]
 have Kz:bE w0 F0 (((s1.set d0 .aw).set d1 .aw).set d2 .aw) w' ι Z o7:=⟨lu.own,lu.apart,lu.cW⟩
 have o9:bE w0 F0 (((s1.set d0 .aw).set d1 .aw).set d2 .aw) w' ι Z G:=⟨o9.own,o9.apart,o9.cW⟩
 obtain ⟨n9,hw3⟩:∃n9,n9=setCells w' cJ pos [hv]:=⟨_,rfl⟩
 rw [← hw3] at S2
 have hx3:Ext w' n9 (ag.run cJ pos 1):=by
  rw [hw3]
  exact nJ cJ [hv] w' pos fun j hj=>by
   have:j=0:=by simp at hj;omega
   subst this;exact⟨rfl,by omega,by omega⟩
 have S3:ag.sub (ag.run cJ pos 1) o7:=by
  rintro b o ⟨rfl,k2,k3⟩
  rw [show o=pos by omega];exact xj
 have KA:Inv w0 F0 Z0 n (((s1.set d0 .aw).set d1 .aw).set d2 .aw) a3 n9 ι Z:=Cu.B1 (Kz.sub S3) hx3
 have adD:n9.cell? (at_ cJ pos)=some hv:=by
  rw [hw3,wK cJ [hv] w' pos (fun j hj=>by
   have:j=0:=by simp at hj;omega
   subst this;exact Cr.1.1),if_pos ⟨rfl,by omega,by simp⟩]
  simp
 have adE:b4 w' n9 G:=b4.iE hx3 (fun b o aD=>(o9.own b o aD).2) fun b o aD hr=>xi b o aD (S3 b o hr)
 have adF:(aa.sl t).an n9 Z (.O t.own) y [hv] G:=qi (.sl t) adE cH
 have zk:b4 w' n9 (fun b o=>o7 b o∧¬(b=cJ∧o=pos)):=by
  refine b4.iE hx3 (fun b o hb=>(Kz.own b o hb.1).2) ?_
  rintro b o ⟨_,hne⟩ ⟨rfl,k2,k3⟩
  exact hne ⟨rfl,by omega⟩
 have KB:(((s1.set d0 .aw).set d1 .aw).set d2 .aw).o p.id=.b_ (.row T T.own ver ys):=o6
 simp only [wB,eS] at hbk
 rw [KB] at hbk
 simp only at hbk
 obtain ⟨z,adG,hbk⟩:=bj hbk
 obtain rfl:=aX hbk
 obtain ⟨S4,S5,_⟩:=y9 KA (id:=p.id) (o:=.row T T.own (ver+1) (ys.set i z)) (i:=⟨(ι p.id).base,(ι p.id).cap,G.or o7⟩) (by rw [KB];exact fun h=>h) (fun o'=>by simp) (by rw [KB];exact .rF _ _ _ _ _ _ _ _ _ (by omega) (by simp) rfl rfl)
  (fun hm=>.inr ⟨at_ cJ dF,ep,xk n9 Z G y z hv zk adD (hx3.kk Cr) adF xi adG⟩) ((o9.ext hx3).or (Kz.ext hx3))
 refine Oper.wp_mono (fun a w hs=>⟨_,hk,?_⟩) (wp_skip S2 S5 (fun k hk=>by rw [oZ] at hk;cases hk))
 rw [oZ] at hs
 exact hs
def xl(s:al)(ι : Nat→bC)(X:ag):ag:=fun b o=>X b o∨∃id,(s.o id).live∧(ι id).F b o
theorem Inv.here(h:Inv w0 F0 Z0 n s a w ι Z)(X:ag):Inv w (xl s ι X) Z n s a w ι Z :=
 ⟨Ext.refl _ _,fun _ _ hz=>.inl hz,fun _ _ h=>h,h.iC,h.fP,fun id hl b o hf=>⟨.inl (.inr ⟨id,hl,hf⟩),(h.own id hl b o hf).2⟩,h.apart,h.cW,h.tmps,h.size,h.ghost,h.seen,h.defers⟩
theorem Cv(h:Inv w0 F0 Z0 n s a w ι Z){X:ag}(hX:bE w0 F0 s w ι Z X){b o:Nat}(hf:xl s ι X b o∨w.heap.size≤b):F0 b o∨w0.heap.size≤b:=by
 have hsz:=h.ext.size
 rcases hf with(hf | ⟨id,hl,hf⟩) | hf
 ·exact(hX.own b o hf).1
 ·exact(h.own id hl b o hf).1
 ·exact .inr (by omega)
theorem Inv.adH(h:Inv w0 F0 Z0 n s a w ι Z){X:ag}(hX:bE w0 F0 s w ι Z X)(h':Inv w (xl s ι X) Z n aq b6 w' bh Z'):Inv w0 F0 Z0 n aq b6 w' bh Z':=by
 refine⟨h.ext.trans' h'.ext fun i o hf=>Cv h hX (.inl hf),fun b o hz=>?_,fun b o hz=>h'.rE b o (h.rE b o hz),h'.iC,h'.fP,fun id hl b o hf=>⟨Cv h hX (h'.own id hl b o hf).1,(h'.own id hl b o hf).2⟩,h'.apart,h'.cW,h'.tmps,h'.size,h'.ghost,h'.seen,h'.defers⟩
 rcases h'.dC b o hz with h1 | h1
 ·exact h.dC b o h1
 ·exact .inr (Cv h hX h1)
theorem adI{o dB ez eL:Oper}{c:Call}{aj:az}{t u ul:aa}{d0 d1 d2 mH mI nR k i id:Nat}{p:Place}{po:Nat}{dp:List (Nat×Nat)}{KC:List ul.D}{vb:a'}{cb:bb}{M:al→Bool}{K:al→Option bs}(bK:jE P E)(h:Inv w0 F0 Z0 n s a w ι Z)
  (ho:o.op=.call c) (hc:c.callee=.builtin .append) (ln:c.args.toList.map (bR s)=[.aU (.bA ul dp (some p) KC),vb]) (gx:wD E c.argTypes.toList=some t) (tU:oneCell t vb=some cb) (ue:o.dst=some d0)
  (jX:ez.op=.fieldAddr mH (.tmp d1) nR) (qo:eL.op=.store mI (.tmp d2) (.tmp d0)) (p_:dB.dst=some d1) (n7:ez.dst=some d2) (oZ:eL.dst=none)
  (hP:d0≠d1) (h9:d0≠d2) (iN:d0<n.n) (l9:d1<n.n) (l_:d2<n.n) (uc:E.ty mH=some (.st aj)) (ud:E.ty mI=some (.sl t)) (fk:aj.off nR=some (k,u)) (hz:u.size≠0)
  (jF:po+k=p.off) (zl:p.fb=some i)
  (Ky:∀ {T:aa} {ver cJ dF:Nat} {ys:List T.D} {s1:al} {dw:Nat→bC} {cr:ag} {m7:World} {hv:Value},Inv w0 F0 Z0 n s1 a m7 dw cr→s1.t=s.t→s1.o p.id=.b_ (.row T T.own ver ys)→s.o p.id=.row T T.own ver ys→(dw p.id).base=some (at_ cJ dF) →
   (execOp (a.put (some d0) hv).eval dB).run P m7=.ok (.value (.pointer (some (at_ cJ (dF+i*T.size+po))))) m7)
  (hk:Jf id t p dp s cb d0 d1 d2 M K=some r) :
  o.wp P a w (fun a w=>(∃nS,M nS=true∧cQ w0 F0 Z0 n nS a w)∧dB.wp P a w (fun a w=>ez.wp P a w (fun a w=>eL.wp P a w (fun a w=>∃aq,K aq=some r∧cQ w0 F0 Z0 n aq a w) Q) Q) Q) Q:=by
 have hvs:=tQ h c.args.toList
 have S6:(c.args.map a.eval).toList=c.args.toList.map a.eval:=by simp
 rw [ln] at hvs
 simp only [a8] at hvs
 obtain ⟨Sy,_,he,mY,acQ,_,rfl,JZ,rfl⟩:=hvs
 simp only [aT] at mY
 obtain ⟨g',hL,rest,e,l1,hu,cw,j0⟩:=Sx bK.ty gx
 have hb1:=JY tU JZ
 unfold Jf at hk
 cases qg:added s t cb with
 | none=>rw [qg] at hk;cases hk
 | some q =>
 obtain ⟨ko,ys,s1⟩:=q
 rw [qg] at hk
 simp only at hk
 cases lZ:bg.beq ko t.own
 ·rw [lZ] at hk;cases hk
 rw [lZ] at hk
 simp only [cond_true] at hk
 obtain rfl:=bg.eq_of_beq _ _ lZ
 obtain ⟨⟨l7,s2⟩,ic,hk⟩:=bj hk
 obtain ⟨s3,mR,hk⟩:=bj hk
 obtain ⟨hroom,hk⟩:=rO hk
 cases jj:M (s3.set d0 .aw)
 ·rw [jj] at hk;cases hk
 rw [jj] at hk
 simp only [cond_true] at hk
 obtain ⟨Cq,hbk,KD⟩:=bj hk
 obtain ⟨cd,rfl⟩:=qc mR
 simp only at cd hbk hroom
 obtain ⟨vs,gN,hlen,qh,hels,h1,hs1,n1⟩:=Sp (P:=P) qg h hb1
 have hc1:cc w Z s1 ι (.bA ul dp (some p) KC) Sy:=cc.move hs1.d' mY
 obtain ⟨dP,T,ver,zm,cJ,dF,H1,eS,dK,n2,kL,ep,i0,Cw,uf,lu,KE,S7,xj,KF,xk⟩:=SZ h1 hc1 ic
 rw [eS] at zl
 obtain rfl:=aX zl
 have Cx:=n1.tY Cw
 have S8:(s1.o p.id).live:=by rw [dK];trivial
 have lp:ag.apart H1 gN:=fun b o x y=>n1.apart p.id S8 b o y (S7 b o x)
 have S9:=uf.or Cx
 have adJ:bE w (xl s2 ι (H1.or gN)) s2 w ι Z H1:=⟨fun b o x=>⟨.inl (.inl (.inl x)),(uf.own b o x).2⟩,uf.apart,uf.cW⟩
 have adK:bE w (xl s2 ι (H1.or gN)) s2 w ι Z gN:=⟨fun b o x=>⟨.inl (.inl (.inr x)),(Cx.own b o x).2⟩,Cx.apart,Cx.cW⟩
 obtain ⟨eG,w',l',hrun,hinv,hcell⟩:=Sr (P:=P) (id:=id) (ty:=o.type) (ats:=c.argTypes) (args:=c.args.map a.eval) (by rw [← Array.getElem?_toList,l1];rfl) (by rw [← Array.getElem?_toList,l1];rfl)
  (by rw [← Array.getElem?_toList,S6,he];rfl) (by rw [← Array.getElem?_toList,S6,he];rfl) hu cw j0 (Nat.le_of_ble_eq_true hroom) (i0.here _) cd KE hels adJ adK lp hlen qh
 have oX:taken (s2.bL id (.row t t.own 0 (l7++ys))) t (.ah id none)=some (t.own,l7++ys,(s2.bL id (.row t t.own 0 (l7++ys))).bL id .dead):=by
  simp only [taken]
  rw [show(s2.bL id (.row t t.own 0 (l7++ys))).o id=.row t t.own 0 (l7++ys) from cz _ _ _]
  simp only [kE]
  rw [ado];rfl
 obtain ⟨G,S_,i4,aq6,xm,aq7⟩:=Sq oX hinv hcell
 have adL:(s2.bL id (.row t t.own 0 (l7++ys))).bL id .dead=s2.bL id .dead:=by
  show { s2 with o:=bP (bP s2.o id _) id cj.dead } = { s2 with o:=bP s2.o id cj.dead }
  congr 1
  funext j
  by_cases hj:j=id
  ·subst hj;rw [cz,cz]
  ·rw [rv hj,rv hj,rv hj]
 rw [adL] at i4 xm
 have S':p.id≠id:=by
  intro e0
  rw [n2] at cd
  rw [show(s1.bL p.id (.b_ (.row T T.own ver zm))).o id=.b_ (.row T T.own ver zm) from by rw [e0];exact cz _ _ _] at cd
  cases cd
 have Ta : bP ι id l' p.id = ι p.id:=rv S'
 have i5:=i0.adH S9 i4
 have hcl:∀j,((s2.bL id .dead).o j).live→j≠id∧(s2.o j).live:=by
  intro j hj
  by_cases lv:j=id
  ·subst lv
   rw [show(s2.bL j .dead).o j=.dead from cz _ _ _] at hj
   exact hj.elim
  ·rw [show(s2.bL id .dead).o j=s2.o j from rv lv] at hj
   exact⟨lv,hj⟩
 have KG:=hinv.ext
 have hap:∀b o,ag.diff (ι p.id).F H1 b o→xl s2 ι (H1.or gN) b o→False:=by
  rintro b o ah ((hf | hf) | ⟨j,hj,hf⟩)
  ·exact ah.2 hf
  ·exact n1.apart p.id S8 b o hf ah.1
  ·exact lu.apart j hj b o ah hf
 have o9:bE w0 F0 (s2.bL id .dead) w' (bP ι id l') Z G:=⟨fun b o x=>⟨Cv i0 S9 (xm.own b o x).1,(xm.own b o x).2⟩,xm.apart,xm.cW⟩
 have adM:bE w0 F0 (s2.bL id .dead) w' (bP ι id l') Z (ag.diff (ι p.id).F H1):=by
  refine⟨(lu.ext KG).own,fun j hj b o x y=>?_,lu.cW⟩
  obtain ⟨adN,rY⟩:=hcl j hj
  rw [rv adN] at y
  exact lu.apart j rY b o x y
 have xi:ag.apart G (ag.diff (ι p.id).F H1):=by
  intro b o aD ah
  rcases (xm.own b o aD).1 with hf | hf
  ·exact hap b o ah hf
  ·have:=(lu.own b o ah).2;omega
 have zk:b4 w w' (ag.diff (ι p.id).F H1):=b4.iE KG (fun b o hb=>(lu.own b o hb).2) hap
 have zn:=S_
 simp only [aa.an] at zn
 obtain ⟨A,xh,o8,_⟩:=zn
 have o8:eG=.slice A (l7++ys).length xh:=by simpa using o8
 have adO:(execOp a.eval o).run P w=.ok (.value eG) w':=by
  unfold execOp;rw [ho]
  simp only [run_bind,resolve,hc,run_pure,invoke]
  unfold builtin
  exact fU hrun
 have ht:(s2.bL id .dead).t=s.t:=by
  show s2.t=s.t
  rw [n2]
  exact hs1.t
 unfold Oper.wp
 rw [adO,Oper.upon_value,ue]
 have adP:s2.o p.id=.b_ (.row T T.own ver zm):=by rw [n2];exact cz _ _ _
 have Tb:(s2.bL id .dead).o p.id=.b_ (.row T T.own ver zm):=by rw [show(s2.bL id .dead).o p.id=s2.o p.id from rv S'];exact adP
 have Tc:(bP ι id l' p.id).base=some (at_ cJ dF):=by rw [Ta];exact ep
 have Cy:s.o p.id=.row T T.own ver zm:=by
  rcases hs1.o p.id with h2 | ⟨_,h2⟩
  ·rw [← h2];exact dK
  ·rw [h2] at dK;cases dK
 refine⟨⟨_,jj,bP ι id l',Z,i5.set (by simp only [aT]) iN⟩,?_⟩
 exact S0 bK jX qo p_ n7 oZ hP h9 iN l9 l_ uc ud fk hz jF eS kL i5 (Ky i5 ht Tb Cy Tc) Tb Tc o8 S_ o9 adM xi xj (KG.kk KF)
  (by rw [Ta];exact fun b7 bJ X y cl q hs=>xk b7 bJ X y cl q ((zk.mono fun _ _ h=>h.1).trans hs)) hbk KD
set_option maxHeartbeats 1000000 in
theorem adQ{o:Oper}{l:List Oper}{K:al→Option bs}(bK:jE P E)(hn:E.n=n)(h:Inv w0 F0 Z0 n s a w ι Z)(hk:Jc E s o l K=some r) :
  ∃dB ez eL dh,l=dB :: ez :: eL :: dh∧o.guard=none∧dB.guard=none∧ez.guard=none∧eL.guard=none ∧
   o.wp P a w (fun a w=>dB.wp P a w (fun a w=>ez.wp P a w (fun a w=>eL.wp P a w (fun a w=>∃aq,K aq=some r∧cQ w0 F0 Z0 n aq a w) Q) Q) Q) Q:=by
 unfold Jc at hk
 split at hk
 case h_2=>cases hk
 rename_i dB ez eL dh
 refine⟨dB,ez,eL,dh,rfl,?_⟩
 split at hk
 case h_2=>cases hk
 rename_i c k1 mH e1 nR mI e2 e0 ho l8 jX qo
 split at hk
 case h_2=>cases hk
 rename_i b3 d0 d1 d2 hc ue p_ n7
 cases hb:wH E o dB ez eL k1 e1 e2 e0 d0 d1 d2
 ·rw [hb] at hk;cases hk
 rw [hb] at hk
 simp only [cond_true] at hk
 unfold wH at hb
 simp only [Bool.and_eq_true,Bool.not_eq_true',Option.isNone_iff_eq_none] at hb
 obtain ⟨Cz,cP,dU,gJ,hP,h9,g0,g1,g2,g3,oZ,iN,l9,l_⟩:=hb
 obtain rfl:=Nat.eq_of_beq_eq_true Cz
 obtain rfl:=Nat.eq_of_beq_eq_true cP
 obtain rfl:=Nat.eq_of_beq_eq_true dU
 have gJ:k1≠d0:=Nat.ne_of_beq_eq_false gJ
 have hP:d0≠d1:=Nat.ne_of_beq_eq_false hP
 have h9:d0≠d2:=Nat.ne_of_beq_eq_false h9
 have iN:d0<n.n:=by rw [← hn];exact Nat.le_of_ble_eq_true iN
 have l9:d1<n.n:=by rw [← hn];exact Nat.le_of_ble_eq_true l9
 have l_:d2<n.n:=by rw [← hn];exact Nat.le_of_ble_eq_true l_
 refine⟨g0,g1,g2,g3,?_⟩
 split at hk
 case h_2=>cases hk
 rename_i g aj t Co uc ud
 split at hk
 case h_2=>cases hk
 rename_i e k u p Td fk kK
 obtain ⟨jA,hk,Kw⟩:=adu hk
 cases fV:(!(Nat.beq u.size 0)&&(Nat.beq jA.id p.id&&Nat.beq (jA.off+k) p.off))
 ·rw [fV] at hk;cases hk
 rw [fV] at hk
 simp only [cond_true] at hk
 simp only [Bool.and_eq_true,Bool.not_eq_true'] at fV
 obtain ⟨hz,rW,jF⟩:=fV
 have hz:u.size≠0:=Nat.ne_of_beq_eq_false hz
 have rW:jA.id=p.id:=Nat.eq_of_beq_eq_true rW
 have jF:jA.off+k=p.off:=Nat.eq_of_beq_eq_true jF
 split at hk
 case h_2=>cases hk
 rename_i adR adS Cp zl
 cases o_:Nat.beq adR adS
 ·rw [o_] at hk;cases hk
 rw [o_] at hk
 simp only [cond_true] at hk
 have hvs:=tQ h c.args.toList
 have hf:=eR h b3
 rw [Co] at hf
 simp only [aT] at hf
 obtain ⟨cn,cs,Ks,kH,hcs⟩:=hf
 simp only [a8] at kH hcs
 subst kH hcs
 cases KH:c.args.toList.map (bR s) with
 | nil=>rw [KH] at kK;cases kK
 | cons v0 bD =>
  rw [KH] at kK hk hvs
  cases v0 with
  | aU RY =>
   cases RY with
   | bA du dp ct xs =>
    simp only [wF] at kK
    subst kK
    simp only [a8] at hvs
    obtain ⟨kq,aV,hus,o2,Te⟩:=hvs
    simp only [aT] at o2
    rw [KH] at Td
    obtain ⟨ps,rs,f⟩:=e
    cases hm:wG (oO (a'.aU (bb.bA du dp (some p) xs) :: bD)) s t ps (a'.aU (bb.bA du dp (some p) xs) :: bD++k6 (a'.aU (bb.bA du dp (some p) xs) :: bD)) with
    | none=>rw [hm] at hk;cases hk
    | some X =>
     obtain ⟨x,s1,bq⟩:=X
     rw [hm] at hk
     simp only at hk
     cases dq:(alive s1 bq&&nQ (a'.aU (bb.bA du dp (some p) xs) :: bD))
     ·rw [dq] at hk;cases hk
     rw [dq] at hk
     simp only [cond_true] at hk
     simp only [Bool.and_eq_true] at dq
     obtain ⟨dq,Kn⟩:=dq
     obtain ⟨aZ,ea,hk⟩:=bj hk
     obtain ⟨y,a_,hk⟩:=bj hk
     obtain ⟨Cq,hbk,KD⟩:=bj hk
     have Ko:=bK.fns g _ _ Td
     cases ps with
     | nil=>simp [wG] at hm
     | cons sp ps =>
      cases sp with
      | val T m =>
       cases T with
       | sl cE =>
        simp only [List.cons_append,wG] at hm
        cases CA:(bg.beq m (.O cE.own)&&(aa.beq t cE&&Ja ps))
        ·rw [CA] at hm;cases hm
        rw [CA] at hm
        simp only [cond_true] at hm
        simp only [Bool.and_eq_true] at CA
        obtain ⟨rS,wU,aq8⟩:=CA
        obtain rfl:=bg.eq_of_beq _ _ rS
        obtain rfl:=aa.eq_of_beq _ _ wU
        obtain ⟨⟨l7,s0⟩,ic,hm⟩:=bj hm
        obtain ⟨q,hq,hm⟩:=bj hm
        obtain ⟨cP,aq9,mL⟩:=q
        simp only [Option.some.injEq,Prod.mk.injEq] at hm
        obtain ⟨rfl,rfl,rfl⟩:=hm
        obtain ⟨i,T,ver,ys,cJ,dF,H1,eS,dK,hs0,kL,ep,i0,Cw,uf,lu,KE,S7,xj,KF,xk⟩:=SZ h o2 ic
        have Cy:s0.o p.id=.b_ (.row T T.own ver ys):=by rw [hs0];exact cz _ _ _
        have adT:a8 w Z s ι (k6 (a'.aU (bb.bA du dp (some p) xs) :: bD)) (f' (kq :: aV)):=Kk Kn (by simp only [a8];exact⟨kq,aV,rfl,by simpa only [aT] using o2,Te⟩)
        have aq_:∃A m' c',kq=.slice A m' c':=o2.2.1
        obtain ⟨jD,eW,cr,i1,xn,Tf,_,Tg,_,_,_,adU,src⟩:=qm ps _ _ s0 Z [] _ hq i0 (a8.move Cw.d' (Te.append adT)) (by simp)
        simp only at i1 xn Tf Tg adU src
        have adV:=uf.tY xn
        have KI:=lu.tY xn
        have b8:=Ck dq
        have ug:bE w0 F0 s1 w ι cr (H1.or jD):=adV.or Tg
        have KJ:∀ {X:ag},bE w0 F0 s0 w ι Z X→∀b o,X b o→jD b o→False:=by
         intro X hX b o hx hj
         obtain ⟨id,hl,hf⟩:=src b o (.inl hj)
         exact hX.apart id hl b o hx hf
        have hA:gm w (cr.or (dd ι bq)) (oO (a'.aU (bb.bA du dp (some p) xs) :: bD)) (.val (.sl t) (.O t.own) :: ps) (l7,cP) (c.args.toList.map a.eval++f' (c.args.toList.map a.eval)) (H1.or jD):=by
         rw [hus]
         exact⟨[kq],aV++f' (kq :: aV),H1,jD,rfl,aa.an.mono (fun b o hz=>.inl (xn.dC b o hz)) _ _ (fun _ _ h=>h) KE,Tf,fun b o x y=>KJ uf b o x y,fun _ _ h=>.inl h,fun _ _ h=>.inr h⟩
        obtain ⟨rfl,rfl⟩:∃e:rs=[.val (.sl t) (.O t.own)],y=(e ▸ aZ:(cO.outs [.val (.sl t) (.O t.own)] (bt.dM (.val (.sl t) (.O t.own) :: ps))).D).1:=by
         cases rs with
         | nil=>simp [yN] at a_
         | cons Cc rs =>
          cases Cc with
          | val iK CB =>
           cases rs with
           | cons=>simp [yN] at a_
           | nil =>
            simp only [yN] at a_
            cases lZ:bg.beq CB (.O t.own)
            ·rw [lZ] at a_;cases a_
            rw [lZ] at a_
            obtain rfl:=bg.eq_of_beq _ _ lZ
            obtain ⟨e,rfl⟩:=BG a_
            subst e
            exact⟨rfl,rfl⟩
          | _=>simp [yN] at a_
        have hcall:=Ko.calls w (cr.or (dd ι bq)) (H1.or jD) (l7,cP) (c.args.toList.map a.eval) aZ
         (by
          rintro b o (hz | ⟨d,ah,hf⟩)
          ·exact i1.iC b o hz
          ·exact(i1.own d.1 (b8 d ah) b o hf).2)
         (fun b o hf=>(ug.own b o hf).2)
         (by
          rintro b o hf (hz | hz)
          ·exact ug.cW b o hf hz
          ·exact ug.dd b8 b o hf hz) hA ea
        suffices key:∀(eG:Value) (w':World),Ends w (cr.or (dd ι bq)) (H1.or jD) ⟨.val (.sl t) (.O t.own) :: ps,[.val (.sl t) (.O t.own)],f⟩ (c.args.toList.map a.eval) aZ eG w' →
          dB.wp P (a.put o.dst eG) w' (fun a w=>ez.wp P a w (fun a w=>eL.wp P a w (fun a w=>∃aq,K aq=some r∧cQ w0 F0 Z0 n aq a w) Q) Q) Q by
         unfold Oper.wp
         have hrun:(execOp a.eval o).run P w=(callFunc g (c.args.toList.map a.eval).toArray).run P w:=by
          unfold execOp;rw [ho]
          simp only [run_bind,resolve,hc,Ks,Deferred.ofValue,run_pure,invoke]
          congr 2
          apply Array.ext'
          simp
         rw [hrun]
         rcases hcall with⟨⟨fn,zg,Kt,j1⟩,hcall⟩ | ⟨aq',w',ua,gz,yY,hu⟩
         ·have Ku:(callFunc g (c.args.toList.map a.eval).toArray).run P w=.ok (.enter g (c.args.toList.map a.eval).toArray) w:=by
           simp only [callFunc,run_bind,run_pure,program,Sem.run,zg]
           rw [if_neg (by rw [j1];simp),if_neg (by rw [Kt];simp)]
           simp only [run_pure]
          rw [Ku,Oper.upon_enter]
          refine hcall.mono ?_
          rintro ara w' ⟨v9,rfl,hu⟩
          exact key v9 w' hu
         ·rw [ua,Oper.upon_value]
          cases yY
          exact key _ w' hu
        rintro eG w' ⟨⟨dk,Z',F',rfl,hx,Kp,hz2,hf2,zf,hg⟩⟩
        simp only [hS] at hg
        obtain ⟨vs1,dR,G,adW,rfl,cH,⟨rfl,_⟩,_,hGF,_⟩:=hg
        have zn:=cH
        simp only [aa.an] at zn
        obtain ⟨A,xh,rfl,_⟩:=zn
        obtain ⟨hv,o8⟩:∃hv,hv=Value.slice A aZ.1.length xh:=⟨_,rfl⟩
        rw [← o8] at cH
        rw [show n5 [dD (.sl t) [Value.slice A aZ.1.length xh]]=hv from o8.symm]
        have rX:Inv w0 F0 Z0 n s1 a w' ι cr:=i1.B1 ug hx
        rw [ue]
        have CC:s1.t=s.t:=xn.t.trans Cw.t
        have o6:s1.o p.id=.b_ (.row T T.own ver ys):=by
         rcases xn.o p.id with h1 | ⟨h1,_⟩
         ·rw [h1,Cy]
         ·rw [Cy] at h1;exact h1.elim
        rw [eS] at zl
        obtain rfl:=aX zl
        obtain rfl:=Nat.eq_of_beq_eq_true o_
        have eV:ag.sub G F':=hGF
        have xi:ag.apart G (ag.diff (ι p.id).F H1):=by
         intro b o aD ah
         rcases (hf2 b o (eV b o aD)).1 with(hf | hf) | hf
         ·exact ah.2 hf
         ·exact KJ lu b o ah hf
         ·have:=(KI.own b o ah).2;omega
        have o9:bE w0 F0 s1 w' ι cr G:=by
         have arb:=i1.ext.size
         refine⟨fun b o aD=>⟨?_,(hf2 b o (eV b o aD)).2⟩,fun id hl b o aD hi=>?_,fun b o aD hz=>?_⟩
         ·rcases (hf2 b o (eV b o aD)).1 with hf | hf
          ·exact(ug.own b o hf).1
          ·exact .inr (by omega)
         ·rcases (hf2 b o (eV b o aD)).1 with hf | hf
          ·exact ug.apart id hl b o hf hi
          ·have:=(i1.own id hl b o hi).2;omega
         ·rcases (hf2 b o (eV b o aD)).1 with hf | hf
          ·exact ug.cW b o hf hz
          ·have:=i1.iC b o hz;omega
        have zk:b4 w w' (ag.diff (ι p.id).F H1):=b4.iE hx (fun b o hb=>(KI.own b o hb).2) (by
         rintro b o ah (hf | hf)
         ·exact ah.2 hf
         ·exact KJ lu b o ah hf)
        exact S0 bK jX qo p_ n7 oZ hP h9 iN l9 l_ uc ud fk hz jF eS kL rX (adv l8 gJ iN rW Cp rX (by rw [CC];exact Kw) o6 ep) o6 ep o8 (qi (.sl t) (b4.refl _ _) cH) o9 (KI.ext hx) xi xj (hx.kk KF)
         (fun b7 bJ X y cl q hs=>xk b7 bJ X y cl q ((zk.mono fun _ _ h=>h.1).trans hs)) hbk KD
       | _=>simp [wG] at hm
      | _=>simp [wG] at hm
   | _=>simp [wF] at kK
  | _=>simp [wF] at kK
theorem adX{dB:Oper}{T:aa}{wI k1 k2 d0 i m ver cJ dF:Nat}{p:Place}{sub:Option (Nat×Nat)}{ys:List T.D}{q:Int}{hv:Value}{s1:al}(bX:gL P E)(gx:E.ty wI=some (.sl T))(l8:dB.op=.indexAddr wI (.tmp k1) (.tmp k2))(gJ:k1≠d0)(KK:k2≠d0)(iN:d0<n.n)
  (hx:s1.t k1=.aU (.ah p.id sub)) (hq:kn (s1.t k2)=some q) (hm:aL (k4 sub ys) q=some m) (hi:d_ sub+m=i) (h:Inv w0 F0 Z0 n s1 a w ι Z)
  (o6:s1.o p.id=.b_ (.row T T.own ver ys)) (ep:(ι p.id).base=some (at_ cJ dF)):(execOp (a.put (some d0) hv).eval dB).run P w=.ok (.value (.pointer (some (at_ cJ (dF+i*T.size+0))))) w:=by
 obtain ⟨e,hu,jg⟩:=lj (bX.ty wI _ gx)
 have h1:=h.tmps k1
 have h2:=h.tmps k2
 rw [hx] at h1
 simp only [aT] at h1
 obtain ⟨_,A,len,c,iH,hh⟩:=h1
 obtain ⟨g1,g2,g3,g4,g5⟩:=hh T T.own ver ys (by rw [o6];rfl)
 obtain ⟨da,wS⟩:=rN hq h2
 have hl:k4 sub ys=len:=by
  cases sub with
  | none=>simp [k4,g1]
  | some p=>obtain ⟨lo,l⟩:=p;simp [k4,g1]
 rw [hl] at hm
 obtain ⟨h2,h3,rfl,h4⟩:=yS hm
 rcases g5 with g5 | ⟨a0,gM,rfl⟩
 ·omega
 rw [ep] at gM
 obtain rfl:=aX gM
 unfold execOp;rw [l8]
 refine fU ?_
 rw [zh _ _ (by rw [h.size];exact iN) (Ne.symm gJ),zh _ _ (by rw [h.size];exact iN) (Ne.symm KK)]
 have e1:a.eval (.tmp k1)=a.tmps.getD k1 undef:=rfl
 have e2:a.eval (.tmp k2)=a.tmps.getD k2 undef:=rfl
 rw [e1,e2,iH,wS]
 have:=JK (P:=P) (w:=w) (A:=at_ cJ (dF+d_ sub*T.size)) (b:=cJ) (o:=dF+d_ sub*T.size) (c:=c) (k:=da) hu jg h2 h3
 rw [← hi,Nat.add_zero,Nat.add_mul,← Nat.add_assoc]
 exact this
theorem adY{o dB ez eL:Oper}{id:Nat}{M:al→Bool}{K:al→Option bs}(bK:jE P E)(hn:E.n=n)(h:Inv w0 F0 Z0 n s a w ι Z)(hk:Jg E id s o dB ez eL M K=some r) :
  o.guard=none∧dB.guard=none∧ez.guard=none∧eL.guard=none ∧
   o.wp P a w (fun a w=>(∃nS,M nS=true∧cQ w0 F0 Z0 n nS a w)∧dB.wp P a w (fun a w=>ez.wp P a w (fun a w=>eL.wp P a w (fun a w=>∃aq,K aq=some r∧cQ w0 F0 Z0 n aq a w) Q) Q) Q) Q:=by
 unfold Jg at hk
 split at hk
 case h_2=>cases hk
 rename_i c wI k1 k2 mH e1 nR mI e2 e0 ho l8 jX qo
 split at hk
 case h_2=>cases hk
 rename_i d0 d1 d2 hc ue p_ n7
 cases hb:(wH E o dB ez eL k1 e1 e2 e0 d0 d1 d2 && !(Nat.beq k2 d0))
 ·rw [hb] at hk;cases hk
 rw [hb] at hk
 simp only [cond_true] at hk
 unfold wH at hb
 simp only [Bool.and_eq_true,Bool.not_eq_true',Option.isNone_iff_eq_none] at hb
 obtain ⟨⟨Cz,cP,dU,gJ,hP,h9,g0,g1,g2,g3,oZ,iN,l9,l_⟩,KK⟩:=hb
 obtain rfl:=Nat.eq_of_beq_eq_true Cz
 obtain rfl:=Nat.eq_of_beq_eq_true cP
 obtain rfl:=Nat.eq_of_beq_eq_true dU
 have iN:d0<n.n:=by rw [← hn];exact Nat.le_of_ble_eq_true iN
 have l9:d1<n.n:=by rw [← hn];exact Nat.le_of_ble_eq_true l9
 have l_:d2<n.n:=by rw [← hn];exact Nat.le_of_ble_eq_true l_
 refine⟨g0,g1,g2,g3,?_⟩
 split at hk
 case h_2=>cases hk
 rename_i mJ aj t g' ul dp p KC vb adZ uc ud gx ln
 split at hk
 case h_2=>cases hk
 rename_i k u cb i sub q v em ver xs j fk tU hx1 nY dK eS
 cases fV:(aa.beq g' t&&(aa.beq mJ v&&(!(Nat.beq u.size 0)&&(Nat.beq i p.id&&Nat.beq k p.off))))
 ·rw [fV] at hk;cases hk
 rw [fV] at hk
 simp only [cond_true] at hk
 simp only [Bool.and_eq_true,Bool.not_eq_true'] at fV
 obtain ⟨ht,ze,hz,rW,jF⟩:=fV
 obtain rfl:=aa.eq_of_beq _ _ ht
 obtain rfl:=aa.eq_of_beq _ _ ze
 obtain rfl:=Nat.eq_of_beq_eq_true rW
 obtain ⟨m,hm,hk⟩:=bj hk
 cases o_:Nat.beq (d_ sub+m) j
 ·rw [o_] at hk;cases hk
 rw [o_] at hk
 simp only [cond_true] at hk
 have o_:=Nat.eq_of_beq_eq_true o_
 refine adI (po:=0) bK h ho hc ln gx tU ue jX qo p_ n7 oZ (Nat.ne_of_beq_eq_false hP) (Nat.ne_of_beq_eq_false h9) iN l9 l_ uc ud fk (Nat.ne_of_beq_eq_false hz) (by rw [Nat.zero_add];exact Nat.eq_of_beq_eq_true jF) eS ?_ hk
 intro T mS cJ dF ys s1 dw cr m7 hv h1 CC o6 Th hb1
 rw [dK] at Th
 obtain ⟨rfl,_,_,h4⟩:=cj.row.inj Th
 have h4:=eq_of_heq h4
 subst h4
 exact adX bK.ty adZ l8 (Nat.ne_of_beq_eq_false gJ) (Nat.ne_of_beq_eq_false KK) iN (by rw [CC];exact hx1) (by rw [CC];exact nY) hm o_ h1 o6 hb1
end
end Go.LM
