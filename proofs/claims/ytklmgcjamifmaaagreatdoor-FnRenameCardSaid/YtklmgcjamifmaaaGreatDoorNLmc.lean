/- Calls are what the interpreter says. Conditions: each theorem's own hypotheses. -/
import Derived.Test.YtklmgcjamifmaaaGreatDoorNLmb
set_option linter.unusedVariables false
set_option linter.unusedSimpArgs false
namespace Go.LM
def fQ:List Value→List Value
 | []=>[]
 | .func _ a b :: l=>a.toList++b.toList++fQ l
 | _ :: l=>fQ l
def gh(w:World)(Z:ah)(key:Nat):(ps:List bx)→(bx.ins ps).D→List Value→ah→Prop
 | [],_,us,_=>us=[]
 | .fn lJ oF :: ps,x,us,F=>∃a b aT,us=.func (.func key) a b :: aT∧(a.size=lJ∧b.size=oF)∧gh w Z key ps x aT F
 | .val t m :: ps,x,us,F=>∃vs aT G H,us=dB t vs :: aT∧t.al w Z m x.1 vs G∧gh w Z key ps x.2 aT H∧ah.apart G H∧ah.sub G F∧ah.sub H F
 | .gV t :: ps,x,us,F=>∃vs aT G H,us=dB t vs :: aT∧t.al w Z .R x.1 vs G∧gh w Z key ps x.2 aT H∧ah.apart G H∧ah.sub G F∧ah.sub H F
 | .gU t m :: ps,x,us,F=>∃vs aT G H,us=dB t vs :: aT∧t.al w Z m x.1 vs G∧gh w Z key ps x.2 aT H∧ah.apart G H∧ah.sub G F∧ah.sub H F
 | .ref t :: ps,x,us,F=>∃b o vs aT,us=.pointer (some (at_ b o)) :: aT∧b4 w b o vs∧t.al w Z .R x.1 vs ah.none∧(∀j,j<t.size→Z b (o+j))∧gh w Z key ps x.2 aT F
 | .mut t m _ :: ps,x,us,F=>∃b o vs aT G H,us=.pointer (some (at_ b o)) :: aT∧b4 w b o vs∧(∀j,j<t.size→e' w b (o+j))∧t.al w Z m x.1 vs G∧gh w Z key ps x.2 aT H ∧
   ah.apart (G.or (ah.run b o t.size)) H∧ah.apart G (ah.run b o t.size)∧ah.sub (G.or (ah.run b o t.size)) F∧ah.sub H F
def h6(w:World)(Z:ah):(ps:List bx)→List Value→(bx.dU ps).D→ah→Prop
 | [],_,_,_=>True
 | .mut t _ m' :: ps,us,x,F=>∃b o vs aT G H,us=.pointer (some (at_ b o)) :: aT∧b4 w b o vs∧t.al w Z m' x.1 vs G∧h6 w Z ps aT x.2 H ∧
   ah.apart (G.or (ah.run b o t.size)) H∧ah.apart G (ah.run b o t.size)∧ah.sub (G.or (ah.run b o t.size)) F∧ah.sub H F
 | .gU t m :: ps,us,x,F=>∃vs aT G H,us=dB t vs :: aT∧t.al w Z m x.1 vs G∧h6 w Z ps aT x.2 H∧ah.apart G H∧ah.sub G F∧ah.sub H F
 | .val _ _ :: ps,us,x,F=>∃u aT,us=u :: aT∧h6 w Z ps aT x F
 | .gV _ :: ps,us,x,F=>∃u aT,us=u :: aT∧h6 w Z ps aT x F
 | .ref _ :: ps,us,x,F=>∃u aT,us=u :: aT∧h6 w Z ps aT x F
 | .fn _ _ :: ps,us,x,F=>∃u aT,us=u :: aT∧h6 w Z ps aT x F
def HS(w:World)(us:List Value)(a off size:Nat)(x:Int)(v:Value):Prop :=
 (x<0∧v=.pointer none)∨(0≤x∧∃b o iF dy n c,us[a]?=some (.pointer (some (at_ b o)))∧w.cell? (at_ b (o+off))=some (.slice (some (at_ iF dy)) n c)∧x.toNat<n∧v=.pointer (some (at_ iF (dy+x.toNat*size))))
def hP(w:World)(Z:ah)(ps:List bx)(us:List Value):(rs:List cU)→(cU.outs rs (bx.dU ps)).D→List Value→ah→Prop
 | [],x,dk,F=>dk=[]∧h6 w Z ps us x F
 | .val t m :: rs,x,dk,F=>∃vs dX G H,dk=dB t vs :: dX∧t.al w Z m x.1 vs G∧hP w Z ps us rs x.2 dX H∧ah.apart G H∧ah.sub G F∧ah.sub H F
 | .opt a off t :: rs,x,dk,F=>∃v dX,dk=v :: dX∧HS w us a off t.size x.1 v∧hP w Z ps us rs x.2 dX F
 | .any t :: rs,x,dk,F=>∃v dX,dk=v :: dX∧(v.cells.toList.length=t.size∧∀u∈v.cells.toList,dY u=true)∧hP w Z ps us rs x dX F
 | .oG t :: rs,x,dk,F=>∃v dX,dk=v :: dX∧((x.1=[]∧v=.pointer none)∨∃y b o vs,x.1=[y]∧v=.pointer (some (at_ b o))∧b4 w b o vs∧t.al w Z .R y vs ah.none∧∀j,j<t.size→Z b (o+j))∧hP w Z ps us rs x.2 dX F
 | .new t m :: rs,x,dk,F=>∃b o vs dX G H,dk=.pointer (some (at_ b o)) :: dX∧b4 w b o vs∧(∀j,j<t.size→e' w b (o+j))∧t.al w Z m x.1 vs G∧hP w Z ps us rs x.2 dX H ∧
   ah.apart (G.or (ah.run b o t.size)) H∧ah.apart G (ah.run b o t.size)∧ah.sub (G.or (ah.run b o t.size)) F∧ah.sub H F
def nW:List Value→Value
 | [v]=>v
 | l=>.tuple l.toArray
structure Ends(w:World)(Z F:ah)(e:Entry)(us:List Value)(r:(cU.outs e.rs (bx.dU e.ps)).D)(v:Value)(w':World):Prop where
 out:∃dk Z' F',v=nW dk∧Ext w w' F∧ah.sub Z Z'∧(∀b o,Z' b o→Z b o∨((F b o∨w.heap.size≤b)∧b<w'.heap.size))∧(∀b o,F' b o→(F b o∨w.heap.size≤b)∧b<w'.heap.size) ∧
  ah.apart F' Z'∧hP w' Z' e.ps (us++fQ us) e.rs r dk F'
structure Sound(P:Program)(f:FuncId)(key:Nat)(e:Entry):Prop where
 fn:∃fn,P.funcs[f]?=some fn∧fn.body.isNone=false∧(fn.name == "runtime.NumGoroutine")=false
 calls:∀(w:World) (Z F:ah) (x:(bx.ins e.ps).D) (us:List Value) (r:(cU.outs e.rs (bx.dU e.ps)).D),
  (∀b o,Z b o→b<w.heap.size)→(∀b o,F b o→b<w.heap.size)→ah.apart F Z→gh w Z key e.ps x (us++fQ us) F→e.f x=some r →
  Calls P f us.toArray w fun end_ w'=>∃v,end_=.returned v∧Ends w Z F e us r v w'
def vH(P:Program)(f:FuncId)(us:Array Value)(w:World)(R:Ending→World→Prop):Prop :=
 ((∃fn,P.funcs[f]?=some fn∧fn.body.isNone=false∧(fn.name == "runtime.NumGoroutine")=false)∧Calls P f us w R)∨∃v w',(callFunc f us).run P w=.ok (.value v) w'∧R (.returned v) w'
structure hD(P:Program)(f:FuncId)(key:Nat)(e:Entry):Prop where
 calls:∀(w:World) (Z F:ah) (x:(bx.ins e.ps).D) (us:List Value) (r:(cU.outs e.rs (bx.dU e.ps)).D),
  (∀b o,Z b o→b<w.heap.size)→(∀b o,F b o→b<w.heap.size)→ah.apart F Z→gh w Z key e.ps x (us++fQ us) F→e.f x=some r →
  vH P f us.toArray w fun end_ w'=>∃v,end_=.returned v∧Ends w Z F e us r v w'
theorem Sound.x{P:Program}{f:FuncId}{key:Nat}{e:Entry}(h:Sound P f key e):hD P f key e :=
 ⟨fun w Z F x us r h1 h2 h3 h4 a7=>.inl ⟨h.fn,h.calls w Z F x us r h1 h2 h3 h4 a7⟩⟩
instance {P:Program} {f:FuncId} {key:Nat} {e:Entry} : Coe (Sound P f key e) (hD P f key e):=⟨Sound.x⟩
section
variable{P:Program}{Q:Exit→Act→World→Prop}
variable{w0:World}{F0 Z0:ah}{n:cB}{s ar:aq}{a b6:Act}{w w':World}{ι bd:Nat→bC}{Z Z':ah}
theorem gh.mono{key:Nat}(hZ:ah.sub Z Z'):∀(ps:List bx) {x:(bx.ins ps).D} {us:List Value} {F F':ah},ah.sub F F'→gh w Z key ps x us F→gh w Z' key ps x us F'
 | [],_,_,_,_,_,h=>h
 | .fn _ _ :: ps,_,_,_,_,hF,h=>by
  obtain ⟨a,b,aT,h1,h0,h2⟩:=h
  exact⟨a,b,aT,h1,h0,gh.mono hZ ps hF h2⟩
 | .val t m :: ps,_,_,_,_,hF,h=>by
  obtain ⟨vs,aT,G,H,h1,h2,h3,h4,a7,bj⟩:=h
  exact⟨vs,aT,G,H,h1,ae.al.mono hZ _ _ (fun _ _ h=>h) h2,gh.mono hZ ps (fun _ _ h=>h) h3,h4,fun b o h=>hF b o (a7 b o h),fun b o h=>hF b o (bj b o h)⟩
 | .gV t :: ps,_,_,_,_,hF,h=>by
  obtain ⟨vs,aT,G,H,h1,h2,h3,h4,a7,bj⟩:=h
  exact⟨vs,aT,G,H,h1,ae.al.mono hZ _ _ (fun _ _ h=>h) h2,gh.mono hZ ps (fun _ _ h=>h) h3,h4,fun b o h=>hF b o (a7 b o h),fun b o h=>hF b o (bj b o h)⟩
 | .gU t m :: ps,_,_,_,_,hF,h=>by
  obtain ⟨vs,aT,G,H,h1,h2,h3,h4,a7,bj⟩:=h
  exact⟨vs,aT,G,H,h1,ae.al.mono hZ _ _ (fun _ _ h=>h) h2,gh.mono hZ ps (fun _ _ h=>h) h3,h4,fun b o h=>hF b o (a7 b o h),fun b o h=>hF b o (bj b o h)⟩
 | .ref t :: ps,_,_,_,_,hF,h=>by
  obtain ⟨b,o,vs,aT,h1,h2,h3,h4,a7⟩:=h
  exact⟨b,o,vs,aT,h1,h2,ae.al.mono hZ _ _ (fun _ _ h=>h) h3,fun j hj=>hZ _ _ (h4 j hj),gh.mono hZ ps hF a7⟩
 | .mut t m m' :: ps,_,_,_,_,hF,h=>by
  obtain ⟨b,o,vs,aT,G,H,h1,h2,h3,h4,a7,bj,bE,c3,jr⟩:=h
  exact⟨b,o,vs,aT,G,H,h1,h2,h3,ae.al.mono hZ _ _ (fun _ _ h=>h) h4,gh.mono hZ ps (fun _ _ h=>h) a7,bj,bE,fun b o h=>hF b o (c3 b o h),fun b o h=>hF b o (jr b o h)⟩
structure fj(s:aq)(ι : Nat→bC)(Z:ah)(ar:aq)(Z':ah):Prop where
 o:∀id,ar.o id=s.o id∨((s.o id).live∧(ar.o id=.dead∨ar.o id=.b_ (s.o id)))
 t:ar.t=s.t
 g:ar.g=s.g
 dz:ah.sub Z Z'
 oJ:∀b o,Z' b o→Z b o∨∃id,(s.o id).live∧¬(ar.o id).live∧(ι id).F b o
theorem eV.lX(h:eV s ι Z ar Z'):fj s ι Z ar Z' :=
 ⟨fun id=>(h.o id).imp (fun h=>h) fun h=>⟨h.1,.inl h.2⟩,h.t,h.g,h.dz,fun b o hz=>(h.oJ b o hz).imp (fun h=>h) fun⟨id,h1,h2,h3⟩=>⟨id,h1,by rw [h2];exact YM,h3⟩⟩
where YM:¬ck.live .dead:=fun h=>h
theorem fj.refl:fj s ι Z s Z:=eV.lX .refl
theorem fj.live(h:fj s ι Z ar Z'){id:Nat}(hl:(ar.o id).live):(s.o id).live∧ar.o id=s.o id:=by
 rcases h.o id with h1 | ⟨_,h1 | h1⟩
 ·exact⟨h1 ▸ hl,h1⟩
 ·rw [h1] at hl;exact hl.elim
 ·rw [h1] at hl;exact hl.elim
theorem fj.trans{s2:aq}{bK:ah}(h:fj s ι Z ar Z')(k:fj ar ι Z' s2 bK):fj s ι Z s2 bK:=by
 refine⟨fun id=>?_,k.t.trans h.t,k.g.trans h.g,fun b o hz=>k.dz b o (h.dz b o hz),fun b o hz=>?_⟩
 ·rcases k.o id with h1 | ⟨h0,h1⟩
  ·rw [h1];exact h.o id
  ·obtain ⟨h2,h3⟩:=h.live h0
   rw [h3] at h1
   exact .inr ⟨h2,h1⟩
 ·rcases k.oJ b o hz with h1 | ⟨id,h1,h2,h3⟩
  ·rcases h.oJ b o h1 with h1 | ⟨id,h1,h2,h3⟩
   ·exact .inl h1
   ·exact .inr ⟨id,h1,fun hl=>h2 (k.live hl).1,h3⟩
  ·exact .inr ⟨id,(h.live h1).1,h2,h3⟩
theorem fj.ec(h:fj s ι Z ar Z'):eD w Z s ι w Z' ar ι := by
 refine⟨fun id=>?_,h.dz,b5.refl _ _⟩
 rcases h.o id with h1 | ⟨h0,h1 | h1⟩
 ·rw [h1];exact .stay _ _
 ·rw [h1];exact .dead _ _ _
 ·rw [h1];exact .fb _ _ h0
theorem bF.s9{F:ah}(hf:bF w0 F0 s w ι Z F)(h:fj s ι Z ar Z'):bF w0 F0 ar w ι Z' F:=by
 refine⟨hf.own,fun id hl=>hf.apart id (h.live hl).1,fun b o h1 h2=>?_⟩
 rcases h.oJ b o h2 with h3 | ⟨id,h3,_,h4⟩
 ·exact hf.c0 b o h1 h3
 ·exact hf.apart id h3 b o h1 h4
theorem xW{id:Nat}(hl:(s.o id).live):fj s ι Z (s.bN id (.b_ (s.o id))) Z:=by
 refine⟨fun j=>?_,rfl,rfl,fun _ _ h=>h,fun _ _ h=>.inl h⟩
 by_cases hj:id=j
 ·subst hj;exact .inr ⟨hl,.inr (cw _ _ _)⟩
 ·exact .inl (cO hj)
theorem Inv.lX(h:Inv w0 F0 Z0 n s a w ι Z)(aA:fj s ι Z ar Z'):Inv w0 F0 Z0 n ar a w ι Z':=by
 have hm:eD w Z s ι w Z' ar ι := aA.ec
 refine h.next hm (Ext.refl _ ah.none) (fun _ _ h=>h.elim) ?_ ?_ ?_ (fun k=>by rw [aA.t];exact(h.tmps k).move hm) h.size h.defers aA.g
 ·intro b o hz
  rcases aA.oJ b o hz with h1 | ⟨id,h1,_,h3⟩
  ·exact .inl h1
  ·exact .inr (h.own id h1 b o h3)
 ·intro id hl hne;exact absurd ⟨(aA.live hl).2,rfl⟩ hne
 ·intro id hl b o h1 h2
  obtain ⟨dO,_⟩:=aA.live hl
  rcases aA.oJ b o h2 with h3 | ⟨j,h3,h4,a7⟩
  ·exact h.c0 id dO b o h1 h3
  ·have hne:id≠j:=fun e=>h4 (e ▸ hl)
   exact h.apart id j dO h3 hne b o h1 a7
theorem Inv.xX(h:Inv w0 F0 Z0 n s a w ι Z){id:Nat}(hl:(s.o id).live):bF w0 F0 (s.bN id (.b_ (s.o id))) w ι Z (ι id).F:=by
 refine⟨h.own id hl,fun j hj=>?_,h.c0 id hl⟩
 have hj':(bQ s.o id (ck.b_ (s.o id)) j).live:=hj
 by_cases hne:id=j
 ·subst hne;rw [cw] at hj';exact hj'.elim
 ·rw [cO hne] at hj'
  exact h.apart id j hl hj' hne
def vI(g:Bool)(w:World)(Z:ah)(s:aq)(ι : Nat→bC)(t:ae)(p:Place)(u:Value)(H:ah):Prop :=
 ∃ver old b o vs,(g=true→¬(s.o p.id).live)∧(∀er,s.o p.id=.b_ er→er=.var ver old∧(ι p.id).base=some (at_ b o))∧p.fa=none∧u=.pointer (some (at_ b (o+p.off)))∧p.off+t.size≤old.length∧bG w Z s ι old vs ∧
  (∀j,j<old.length→e' w b (o+j))∧(∀j,j<old.length→(j<p.off∨p.off+t.size≤j)→H b (o+j)) ∧
  (∀(j:Nat) (v:Value),vs[j]?=some v→(j<p.off∨p.off+t.size≤j)→w.cell? (at_ b (o+j))=some v)
def vJ(g:Bool)(w:World)(Z:ah)(s:aq)(ι : Nat→bC)(t:ae)(m:ba)(p:Place)(u:Value)(H:ah):Prop :=
 ∃ver xs i b o c G1 G2,(g=true→¬(s.o p.id).live)∧(∀er,s.o p.id=.b_ er→er=.row t m ver xs∧(ι p.id).base=some (at_ b o)∧(ι p.id).cap=c)∧p.fa=some i∧i<xs.length∧u=.pointer (some (at_ b (o+i*t.size)))∧xs.length≤c ∧
  (∀j,j<c*t.size→fB w t.size b (o+j))∧(∀j,j<c*t.size→(j<i*t.size∨(i+1)*t.size≤j)→H b (o+j)) ∧
  Row w (t.al w Z m) t.size (xs.take i) b o G1∧Row w (t.al w Z m) t.size (xs.drop (i+1)) b (o +(i+1)*t.size) G2∧ah.apart G1 G2∧ah.sub G1 H∧ah.sub G2 H ∧
  (∀j,j<c*t.size→¬G1 b (o+j)∧¬G2 b (o+j))
def YN(g:Bool)(s:aq)(ι : Nat→bC)(t:ae)(e:ba)(cr:Option Place)(v:Value)(H:ah)(w:World):Prop :=
 ∃(p:Place) (i:Nat) (T:ae) (ver:Nat) (ys:List T.D) (b o c:Nat),cr=some p∧p.fa=some i∧(g=true→¬(s.o p.id).live)∧(∀er,s.o p.id=.b_ er→er=.row T T.own ver ys∧(ι p.id).base=some (at_ b o)∧(ι p.id).cap=c)∧i<ys.length∧e=t.own ∧
  ∀(b7:World) (bK X:ah) (y:List t.D) (bz:T.D),b5 w b7 H→(ae.sl t).al b7 bK (.O t.own) y [v] X→ah.apart X H→T.setAt p.off t y (J T ys i)=some bz→mD b7 (T.al b7 bK T.own) T.size (ys.set i bz) (at_ b o) c (X.or H)
mutual
def cW(g:Bool)(w:World)(Z:ah)(s:aq)(ι : Nat→bC):(t:ae)→ba→List a8→List Value→ah→Prop
 | .sl t,.O e,cs,vs,H=>∃c v,cs=[c]∧vs=[v]∧match c with
  | .nil _=>v=.slice none 0 0
  | .ag id none=>∃ver xs A k c,(g=true→¬(s.o id).live)∧(∀er,s.o id=.b_ er→er=.row t e ver xs∧(ι id).cap=c∧G6 (ι id) t.size none xs.length A xs.length k)∧v=.slice A xs.length k ∧
    ((xs=[]∧c=0)∨∃b o,(∀er,s.o id=.b_ er→(ι id).base=some (at_ b o))∧xs.length≤c∧k≤c∧(k=0∨A=some (at_ b o))∧(∀j,j<c*t.size→fB w t.size b (o+j))∧(∀j,k*t.size≤j→j<c*t.size→H b (o+j)))
  | .bW _ _ cr _=>YN g s ι t e cr v H w
  | _=>False
 | .sl _,_,_,_,_=>False
 | .st aj,m,cs,vs,H=>fr g w Z s ι aj m.parts cs vs H
 | _,_,cs,vs,_=>cs.length=1∧vs.length=1
def fr(g:Bool)(w:World)(Z:ah)(s:aq)(ι : Nat→bC):(aj:ay)→cS→List a8→List Value→ah→Prop
 | .nil,_,cs,vs,_=>cs=[]∧vs=[]
 | .cons t aj,m,cs,vs,H=>∃c1 gf v1 v2 H1 H2,cs=c1++gf∧vs=v1++v2∧cW g w Z s ι t m.ag c1 v1 H1∧fr g w Z s ι aj m.dt gf v2 H2∧ah.apart H1 H2∧ah.sub H1 H∧ah.sub H2 H
end
def eQ(g:Bool)(w:World)(Z:ah)(s:aq)(ι : Nat→bC):(ps:List bx)→List a6→List Value→ah→Prop
 | [],_,_,_=>True
 | .mut t m m' :: ps,vs,us,H=>∃p bD u aT H1 H2,vs=.ptr p :: bD∧us=u :: aT∧(vI g w Z s ι t p u H1∨(m'=m∧m=t.own∧vJ g w Z s ι t m p u H1))∧eQ g w Z s ι ps bD aT H2∧ah.apart H1 H2∧ah.sub H1 H∧ah.sub H2 H
 | .gU t m :: ps,vs,us,H=>∃v bD u aT cs H1 H2,vs=v :: bD∧us=u :: aT∧iy t v=some cs∧m=t.own∧cW g w Z s ι t m cs u.cells.toList H1∧eQ g w Z s ι ps bD aT H2∧ah.apart H1 H2∧ah.sub H1 H∧ah.sub H2 H
 | _ :: ps,vs,us,H=>∃v bD u aT,vs=v :: bD∧us=u :: aT∧eQ g w Z s ι ps bD aT H
end
end Go.LM
namespace Go.LM
section
variable{P:Program}{Q:Exit→Act→World→Prop}
variable{g:Bool}{w0:World}{F0 Z0:ah}{n:cB}{s ar:aq}{a b6:Act}{w w':World}{ι bd:Nat→bC}{Z Z':ah}
structure gw(g:Bool)(w:World)(Z:ah)(s:aq)(ι : Nat→bC)(w':World)(Z':ah)(ar:aq)(bd:Nat→bC)(H:ah):Prop where
 az:∀x v,aQ w Z s ι x v→aQ w' Z' ar bd x v
 cell:∀c v,cf w Z s ι c v→cf w' Z' ar bd c v
 dz:ah.sub Z Z'
 b_:∀id o',(g=true→¬(s.o id).live)→ar.o id=.b_ o'→s.o id=.b_ o' ∧ bd id = ι id
 nl:g=true→∀id,¬(s.o id).live→¬(ar.o id).live
 same:b5 w w' H
 Bb:b5 w w' Z
 wr:∀b o,e' w b o→e' w' b o
 xY:∀z b o,fB w z b o→fB w' z b o
theorem gw.mono{H fG:ah}(h:gw g w Z s ι w' Z' ar bd H)(hs:ah.sub fG H):gw g w Z s ι w' Z' ar bd fG:=⟨h.az,h.cell,h.dz,h.b_,h.nl,h.same.mono hs,h.Bb,h.wr,h.xY⟩
theorem vI.move{t:ae}{p:Place}{u:Value}{H fG:ah}(h:gw g w Z s ι w' Z' ar bd H)(cC:ah.sub H fG)(hk:vI g w Z s ι t p u H):vI g w' Z' ar bd t p u fG:=by
 obtain ⟨ver,old,b,o,vs,h0,h1,h2,h4,a7,bj,bE,c3,jr⟩:=hk
 have hl:=bj.len
 refine⟨ver,old,b,o,vs,fun aA=>h.nl aA _ (h0 aA),fun er bU=>?_,h2,h4,a7,bG.mono h.cell bj,fun j hj=>h.wr _ _ (bE j hj),fun j hj hh=>cC _ _ (c3 j hj hh),fun j v hv hh=>?_⟩
 ·obtain ⟨dP,eF⟩:=h.b_ _ _ h0 bU
  rw [eF];exact h1 er dP
 have hj:j<old.length:=by
  rcases Nat.lt_or_ge j vs.length with h | h
  ·omega
  ·rw [List.getElem?_eq_none h] at hv;simp at hv
 rw [(h.same _ _ (c3 j hj hh)).1]
 exact jr j v hv hh
theorem vJ.move{t:ae}{m:ba}{p:Place}{u:Value}{H fG:ah}(h:gw g w Z s ι w' Z' ar bd H)(cC:ah.sub H fG)(hk:vJ g w Z s ι t m p u H):vJ g w' Z' ar bd t m p u fG:=by
 obtain ⟨ver,xs,i,b,o,c,G1,G2,h0,h1,h2,h3,a7,bj,bE,c3,jr,jM,xZ,lg,vK,vL⟩:=hk
 have cK:∀(G:ah),ah.sub G H→∀y us dh,ah.sub dh G→t.al w Z m y us dh→t.al w' Z' m y us dh:=fun G hG y us dh Hh hr =>
  ae.al.mono h.dz _ _ (fun _ _ h=>h) (ae.al.same h.Bb _ _ (h.same.mono fun b o aA=>hG b o (Hh b o aA)) hr)
 have hcap:(i+1)*t.size≤c*t.size:=Nat.mul_le_mul_right _ (by omega)
 have hcell:∀j,j<c*t.size→(j<i*t.size∨(i+1)*t.size≤j)→w'.cell? (at_ b (o+j))=w.cell? (at_ b (o+j)):=fun j hj hh=>(h.same _ _ (c3 j hj hh)).1
 refine⟨ver,xs,i,b,o,c,G1,G2,fun aA=>h.nl aA _ (h0 aA),fun er bU=>?_,h2,h3,a7,bj,fun j hj=>h.xY _ _ _ (bE j hj),fun j hj hh=>cC _ _ (c3 j hj hh),?_,?_,xZ,fun b o aA=>cC b o (lg b o aA),fun b o aA=>cC b o (vK b o aA),vL⟩
 ·obtain ⟨dP,eF⟩:=h.b_ _ _ h0 bU
  rw [eF];exact h1 er dP
 ·refine jr.imp (cK G1 lg) fun j hj=>hcell j ?_ (.inl ?_)
  all_goals
   have:(xs.take i).length=i:=by simp;omega
   rw [this] at hj
   rw [Nat.add_one_mul] at hcap
   omega
 ·refine jM.imp (cK G2 vK) fun j hj=>?_
  have hle:xs.length*t.size≤c*t.size:=Nat.mul_le_mul_right _ bj
  have e1:(xs.drop (i+1)).length=xs.length-(i+1):=by simp
  rw [e1,Nat.sub_mul] at hj
  have:=hcell ((i+1)*t.size+j) (by omega) (.inr (by omega))
  rwa [← Nat.add_assoc] at this
mutual
theorem cW.move{H fG:ah}(h:gw g w Z s ι w' Z' ar bd H)(cC:ah.sub H fG):∀(t:ae) (m:ba) {cs:List a8} {vs:List Value},cW g w Z s ι t m cs vs H→cW g w' Z' ar bd t m cs vs fG
 | .int _,_,_,_,hk=>by simp only [cW] at hk ⊢;exact hk
 | .bool,_,_,_,hk=>by simp only [cW] at hk ⊢;exact hk
 | .str,_,_,_,hk=>by simp only [cW] at hk ⊢;exact hk
 | .raw,_,_,_,hk=>by simp only [cW] at hk ⊢;exact hk
 | .sl t,.R,_,_,hk=>by simp only [cW] at hk
 | .sl t,.S _,_,_,hk=>by simp only [cW] at hk
 | .sl t,.O e,_,_,hk=>by
  simp only [cW] at hk ⊢
  obtain ⟨c,v,h1,h2,hk⟩:=hk
  refine⟨c,v,h1,h2,?_⟩
  cases c with
  | nil=>exact hk
  | ag id sub =>
   cases sub with
   | some=>exact hk
   | none =>
    obtain ⟨ver,xs,A,k,c,lT,k1,k2,bh⟩:=hk
    refine⟨ver,xs,A,k,c,fun aA=>h.nl aA _ (lT aA),fun er bU=>?_,k2,?_⟩
    ·obtain ⟨dP,eF⟩:=h.b_ _ _ lT bU
     rw [eF];exact k1 er dP
    rcases bh with bh | ⟨b,o,c6,eE,h8,h9,h_,oS⟩
    ·exact .inl bh
    ·right
     refine⟨b,o,fun er bU=>?_,eE,h8,h9,fun j hj=>h.xY _ _ _ (h_ j hj),fun j h1 h2=>cC _ _ (oS j h1 h2)⟩
     obtain ⟨dP,eF⟩:=h.b_ _ _ lT bU
     rw [eF];exact c6 er dP
  | bW u dp cr xs =>
   obtain ⟨p,i,T,ver,ys,b,o,c,au,hi,lT,k1,k2,k3,bh⟩:=hk
   refine⟨p,i,T,ver,ys,b,o,c,au,hi,fun aA=>h.nl aA _ (lT aA),fun er bU=>?_,k2,k3,fun b7 bK X y bz c6 eE h8 h9=>?_⟩
   ·obtain ⟨dP,eF⟩:=h.b_ _ _ lT bU
    rw [eF];exact k1 er dP
   ·have:=bh b7 bK X y bz (h.same.trans (c6.mono cC)) eE (fun b o x y=>h8 b o x (cC b o y)) h9
    obtain ⟨G,g1,g2,g3⟩:=this.row
    exact⟨this.spot,this.cap,this.wr,fun j hj=>(this.inF j hj).imp (fun h=>h) (cC _ _),G,g1,g2,fun b o x=>(g3 b o x).imp (fun h=>h) (cC b o)⟩
  | _=>exact hk
 | .st aj,m,_,_,hk=>by simp only [cW] at hk ⊢;exact fr.move h cC aj m.parts hk
theorem fr.move{H fG:ah}(h:gw g w Z s ι w' Z' ar bd H)(cC:ah.sub H fG):∀(aj:ay) (m:cS) {cs:List a8} {vs:List Value},fr g w Z s ι aj m cs vs H→fr g w' Z' ar bd aj m cs vs fG
 | .nil,_,_,_,hk=>by simp only [fr] at hk ⊢;exact hk
 | .cons t aj,m,_,_,hk=>by
  simp only [fr] at hk ⊢
  obtain ⟨c1,gf,v1,v2,H1,H2,h1,h2,h3,h4,a7,bj,bE⟩:=hk
  exact⟨c1,gf,v1,v2,H1,H2,h1,h2,cW.move (h.mono bj) (fun _ _ h=>h) t m.ag h3,fr.move (h.mono bE) (fun _ _ h=>h) aj m.dt h4,a7,fun b o x=>cC b o (bj b o x),fun b o x=>cC b o (bE b o x)⟩
end
theorem eQ.move{H fG:ah}(h:gw g w Z s ι w' Z' ar bd H)(cC:ah.sub H fG):∀(ps:List bx) {vs:List a6} {us:List Value},eQ g w Z s ι ps vs us H→eQ g w' Z' ar bd ps vs us fG
 | [],_,_,_=>trivial
 | .mut t m m' :: ps,_,_,⟨p,bD,u,aT,H1,H2,h1,h2,h3,h4,a7,bj,bE⟩=>⟨p,bD,u,aT,H1,H2,h1,h2,h3.imp (vI.move (h.mono bj) (fun _ _ h=>h)) (fun hk=>⟨hk.1,hk.2.1,vJ.move (h.mono bj) (fun _ _ h=>h) hk.2.2⟩),eQ.move (h.mono bE) (fun _ _ h=>h) ps h4,a7,fun b o x=>cC b o (bj b o x),fun b o x=>cC b o (bE b o x)⟩
 | .gU t m :: ps,_,_,⟨v,bD,u,aT,cs,H1,H2,h1,h2,h3,nX,h4,a7,bj,bE,c3⟩=>⟨v,bD,u,aT,cs,H1,H2,h1,h2,h3,nX,cW.move (h.mono bE) (fun _ _ h=>h) t m h4,eQ.move (h.mono c3) (fun _ _ h=>h) ps a7,bj,fun b o x=>cC b o (bE b o x),fun b o x=>cC b o (c3 b o x)⟩
 | .val _ _ :: ps,_,_,⟨v,bD,u,aT,h1,h2,h3⟩=>⟨v,bD,u,aT,h1,h2,eQ.move h cC ps h3⟩
 | .gV _ :: ps,_,_,⟨v,bD,u,aT,h1,h2,h3⟩=>⟨v,bD,u,aT,h1,h2,eQ.move h cC ps h3⟩
 | .ref _ :: ps,_,_,⟨v,bD,u,aT,h1,h2,h3⟩=>⟨v,bD,u,aT,h1,h2,eQ.move h cC ps h3⟩
 | .fn _ _ :: ps,_,_,⟨v,bD,u,aT,h1,h2,h3⟩=>⟨v,bD,u,aT,h1,h2,eQ.move h cC ps h3⟩
theorem fj.held(h:fj s ι Z ar Z')(H:ah):gw true w Z s ι w Z' ar ι H:=by
 refine⟨fun _ _=>aQ.move h.ec,fun _ _=>cf.move h.ec,h.dz,fun id o' hn ho=>⟨?_,rfl⟩,fun _ id hn hl=>hn (h.live hl).1,b5.refl _ _,b5.refl _ _,fun _ _ h=>h,fun _ _ _ h=>h⟩
 rcases h.o id with h1 | ⟨h0,_⟩
 ·rw [← h1,ho]
 ·exact absurd h0 (hn rfl)
def HT(w0:World)(F0 Z0:ah)(n:cB)(s:aq)(a:Act)(w:World)(ι : Nat→bC)(Z:ah)(R:List Value→ah→Prop)(Bc:aq→List a8→List Value→ah→Prop)(cs:List a8)(vs:List Value)(cs':List a8)(ar:aq):Prop :=
 ∃c1 us bD F H,cs=c1++cs'∧vs=us++bD∧Inv w0 F0 Z0 n ar a w ι Z∧fj s ι Z ar Z∧bG w Z ar ι cs' bD∧bF w0 F0 ar w ι Z F∧bF w0 F0 ar w ι Z H∧ah.apart F H ∧
  R us F∧Bc ar c1 us H∧∀b o,F b o∨H b o→∃id,(s.o id).live∧(ι id).F b o
theorem Bd{R:List Value→ah→Prop}{Bc:aq→List a8→List Value→ah→Prop}{c:a8}{v:Value}{cs':List a8}{bD:List Value}(h:Inv w0 F0 Z0 n s a w ι Z)(hc:bG w Z s ι cs' bD)
  (dG:R [v] ah.none) (HU:Bc s [c] [v] ah.none):HT w0 F0 Z0 n s a w ι Z R Bc (c :: cs') (v :: bD) cs' s :=
 ⟨[c],[v],bD,ah.none,ah.none,rfl,rfl,h,.refl,hc,.none,.none,fun _ _ h=>h.elim,dG,HU,fun _ _ h=>h.elim (fun h=>h.elim) fun h=>h.elim⟩
mutual
theorem ae.x0:∀(t:ae) (m:ba) (cs:List a8) (s:aq) (r:t.D×List a8×aq) (vs:List Value),t.fb m cs s=some r→Inv w0 F0 Z0 n s a w ι Z→bG w Z s ι cs vs →
  HT w0 F0 Z0 n s a w ι Z (fun us F=>t.al w Z m r.1 us F) (fun s c us H=>cW true w Z s ι t m c us H) cs vs r.2.1 r.2.2
 | .int k,m,cs,s,r,vs,hi,h,hc=>by
  match cs,vs,hc with
  | [],_,_=>simp [ae.fb] at hi
  | _ :: _,[],hc=>exact hc.elim
  | c :: cs,v :: vs,hc =>
   cases c <;> simp only [ae.fb] at hi <;> try (simp at hi;done)
   rename_i k' x
   cases hb:Nat.beq (di k) (di k')
   ·rw [hb] at hi;simp at hi
   rw [hb] at hi
   obtain rfl:=aV hi
   have:=AX hb
   subst this
   have hv:v=.int k x:=hc.1
   exact Bd h hc.2 (by simp only [ae.al];rw [hv]) (by simp only [cW];exact⟨rfl,rfl⟩)
 | .bool,m,cs,s,r,vs,hi,h,hc=>by
  match cs,vs,hc with
  | [],_,_=>simp [ae.fb] at hi
  | _ :: _,[],hc=>exact hc.elim
  | c :: cs,v :: vs,hc =>
   cases c <;> simp only [ae.fb] at hi <;> try (simp at hi;done)
   obtain rfl:=aV hi
   have hv:=hc.1
   simp only [cf] at hv
   exact Bd h hc.2 (by simp only [ae.al];rw [hv]) (by simp only [cW];exact⟨rfl,rfl⟩)
 | .str,m,cs,s,r,vs,hi,h,hc=>by
  match cs,vs,hc with
  | [],_,_=>simp [ae.fb] at hi
  | _ :: _,[],hc=>exact hc.elim
  | c :: cs,v :: vs,hc =>
   cases c <;> simp only [ae.fb] at hi <;> try (simp at hi;done)
   obtain rfl:=aV hi
   have hv:=hc.1
   obtain ⟨j_,hv,hx⟩:=hv
   exact Bd h hc.2 (by simp only [ae.al];exact⟨j_,by rw [hv],hx⟩) (by simp only [cW];exact⟨rfl,rfl⟩)
 | .raw,m,cs,s,r,vs,hi,h,hc=>by cases cs <;> cases m <;> simp [ae.fb] at hi
 | .sl t,m,cs,s,r,vs,hi,h,hc=>by
  match cs,vs,hc with
  | [],_,_=>cases m <;> simp [ae.fb] at hi
  | _ :: _,[],hc=>exact hc.elim
  | c :: cs,v :: vs,hc =>
   cases m with
   | R=>simp [ae.fb] at hi
   | S=>simp [ae.fb] at hi
   | O e =>
    cases c with
    | nil u =>
     simp only [ae.fb] at hi
     obtain ⟨x,hx,hi⟩:=bf hi
     obtain ⟨e1,rfl⟩:=gH hx
     subst e1
     obtain rfl:=aV hi
     have hv:v=.slice none 0 0:=hc.1
     refine Bd h hc.2 ?_ ?_
     ·simp only [ae.al];exact⟨none,0,by rw [hv];rfl,.inl (by simp)⟩
     ·simp only [cW];exact⟨_,_,rfl,rfl,hv⟩
    | ag id sub =>
     cases sub with
     | some=>simp [ae.fb] at hi
     | none =>
      simp only [ae.fb] at hi
      cases ho:s.o id with
      | row u em ver xs =>
       rw [ho] at hi
       simp only at hi
       cases hb:ba.beq em e
       ·rw [hb] at hi;simp at hi
       rw [hb] at hi
       simp only [cond_true] at hi
       have:=ba.eq_of_beq _ _ hb
       subst this
       obtain ⟨x,hx,hi⟩:=bf hi
       obtain ⟨e1,rfl⟩:=gH hx
       subst e1
       obtain rfl:=aV hi
       have b8:(s.o id).live:=by rw [ho];trivial
       have aA:fj s ι Z (s.bN id (.b_ (.row u em ver xs))) Z:=by have:=xW (s:=s) (ι := ι) (Z:=Z) b8;rw [ho] at this;exact this
       have eZ:bF w0 F0 (s.bN id (.b_ (.row u em ver xs))) w ι Z (ι id).F:=by have:=h.xX b8;rw [ho] at this;exact this
       have cX:=h.fC id
       rw [ho] at cX
       obtain ⟨_,A,m',k,hv,hh⟩:=hc.1
       have hh:=hh u em ver xs (k0 ho)
       have mQ:=vp cX hh
       have oT:m'=xs.length:=hh.Od
       subst oT
       have lY:(s.bN id (.b_ (.row u em ver xs))).o id=.b_ (.row u em ver xs):=cw _ _ _
       simp only [ae.al,kr] at mQ
       obtain ⟨oQ,k',k4,mQ⟩:=mQ
       simp only [List.cons.injEq,Value.slice.injEq,and_true,true_and] at k4
       obtain ⟨rfl,rfl⟩:=k4
       rcases cX with⟨hx0,YO⟩ | ⟨⟨b,o,sp⟩,et,hr⟩
       ·refine⟨[.ag id none],[v],vs,ah.none,ah.none,rfl,rfl,h.lX aA,aA,hc.2.move aA.ec,.none,.none,fun _ _ h=>h.elim,?_,?_,fun _ _ h=>h.elim (fun h=>h.elim) fun h=>h.elim⟩
        ·simp only [ae.al]
         have hk0:k=0:=by have:=hh.cap;omega
         exact⟨A,k,by rw [hv],.inl ⟨hx0,hk0⟩⟩
        ·simp only [cW]
         exact⟨_,_,rfl,rfl,ver,xs,A,k,_,fun _=>by rw [lY];exact fun h=>h,fun er bU=>by rw [lY] at bU;exact⟨(ck.b_.inj bU).symm,rfl,hh⟩,hv,.inl ⟨hx0,YO⟩⟩
       ·have hsp:=hr.spot
        simp only at hsp
        subst hsp
        have YP:k*u.size≤(ι id).cap*u.size:=Nat.mul_le_mul_right _ (by have:=hh.cap;simp only [eb] at this;omega)
        let T:ah:=ah.run b (o+k*u.size) ((ι id).cap*u.size-k*u.size)
        refine⟨[.ag id none],[v],vs,ah.diff (ι id).F T,fun b o=>(ι id).F b o∧T b o,rfl,rfl,h.lX aA,aA,hc.2.move aA.ec,eZ.sub fun _ _ h=>h.1,eZ.sub fun _ _ h=>h.1,fun b o h1 h2=>h1.2 h2.2,?_,?_,?_⟩
        ·simp only [ae.al]
         refine⟨A,k,by rw [hv],?_⟩
         rcases mQ with mQ | ⟨⟨b',o',sp⟩,hA,ib⟩
         ·exact .inl mQ
         ·rcases hh.at_ with hk0 | ⟨a1,mT,s_⟩
          ·exact .inl ⟨List.eq_nil_of_length_eq_zero (by have:=hh.le;omega),hk0⟩
          ·right
           rw [et] at mT
           obtain rfl:=aV mT
           rw [hA] at s_
           simp only [eb,Nat.zero_mul,Nat.add_zero,Option.some.injEq,at_,Addr.mk.injEq] at s_
           obtain ⟨rfl,rfl,rfl⟩:=s_
           obtain ⟨G,g1,g2,g3⟩:=hr.row
           refine⟨_,hA,rfl,ib.cap,ib.wr,fun j hj=>⟨ib.inF j hj,?_⟩,G,g1,fun j hj=>g2 j (by omega),fun b o aA=>⟨g3 b o aA,?_⟩⟩
           ·rintro ⟨_,h1,_⟩;simp only at h1;omega
           ·rintro ⟨rfl,h1,h2⟩
            have:=g2 (o-o') (by omega)
            simp only at this
            rw [show o' +(o-o')=o by omega] at this
            exact this aA
        ·simp only [cW]
         refine⟨_,_,rfl,rfl,ver,xs,A,k,(ι id).cap,fun _=>by rw [lY];exact fun h=>h,fun er bU=>by rw [lY] at bU;exact⟨(ck.b_.inj bU).symm,rfl,hh⟩,hv,.inr ⟨b,o,fun _ _=>et,hr.cap,by have:=hh.cap;simp only [eb] at this;omega,?_,hr.wr,fun j h1 h2=>⟨hr.inF j h2,rfl,by omega,by omega⟩⟩⟩
         rcases hh.at_ with h0 | ⟨a1,mT,s_⟩
         ·exact .inl h0
         ·rw [et] at mT
          obtain rfl:=aV mT
          right;rw [s_];simp [eb,at_]
        ·rintro b o (hf | hf)
         ·exact⟨id,b8,hf.1⟩
         ·exact⟨id,b8,hf.1⟩
      | _=>rw [ho] at hi;simp at hi
    | bW u dp cr xs =>
     simp only [ae.fb] at hi
     obtain ⟨Be,ie,hi⟩:=bf hi
     obtain rfl:=aV hi
     cases cr with
     | none=>simp [sJ] at ie
     | some p =>
      simp only [sJ] at ie
      cases eL:p.fa with
      | none=>rw [eL] at ie;simp at ie
      | some i =>
       rw [eL] at ie
       cases ho:s.o p.id with
       | row T em ver ys =>
        rw [ho] at ie
        simp only at ie
        cases hb:(alive s dp&&ba.beq em T.own&&ba.beq e t.own)
        ·rw [hb] at ie;simp at ie
        rw [hb] at ie
        simp only [cond_true] at ie
        simp only [Bool.and_eq_true] at hb
        obtain rfl:=ba.eq_of_beq _ _ hb.1.2
        obtain rfl:=ba.eq_of_beq _ _ hb.2
        obtain ⟨x,hx,ie⟩:=bf ie
        obtain rfl:=aV ie
        obtain ⟨_,_,_,kz⟩:=hc.1
        obtain ⟨_,kz⟩:=kz _ rfl
        obtain ⟨cM,dI,⟨_,fI⟩,hcell,hin⟩:=kz hb.1.1
        simp only [ho,ck.core] at fI
        obtain ⟨dW,hii,kA,a0,et,mN⟩:=fI
        rw [eL] at hii
        obtain rfl:=aV hii
        have b8:(s.o p.id).live:=by rw [ho];trivial
        have aA:fj s ι Z (s.bN p.id (.b_ (.row T T.own ver ys))) Z:=by have:=xW (s:=s) (ι := ι) (Z:=Z) b8;rw [ho] at this;exact this
        have eZ:bF w0 F0 (s.bN p.id (.b_ (.row T T.own ver ys))) w ι Z (ι p.id).F:=by have:=h.xX b8;rw [ho] at this;exact this
        have cX:=h.fC p.id
        rw [ho] at cX
        rcases cX with⟨hx0,_⟩ | ⟨a1,hb1,hr⟩
        ·rw [hx0] at kA;simp at kA
        rw [et] at hb1
        obtain rfl:=aV hb1
        obtain ⟨ab,ao,sp⟩:=a0
        have hsp:=hr.spot
        simp only at hsp
        subst hsp
        obtain ⟨eK,H1,dP,eF,nR,oN⟩:=hr.lens kA hx
        rw [← mN] at dP
        have HV:eK=v:=by rw [hcell] at dP;exact(aV dP).symm
        subst HV
        have lY:(s.bN p.id (.b_ (.row T T.own ver ys))).o p.id=.b_ (.row T T.own ver ys):=cw _ _ _
        refine⟨[.bW u dp (some p) xs],[eK],vs,H1,ah.diff (ι p.id).F H1,rfl,rfl,h.lX aA,aA,hc.2.move aA.ec,eZ.sub nR,eZ.sub fun _ _ h=>h.1,fun b o h1 h2=>h2.2 h1,eF,?_,?_⟩
        ·simp only [cW]
         exact⟨_,_,rfl,rfl,p,i,T,ver,ys,ab,ao,(ι p.id).cap,rfl,eL,fun _=>by rw [lY];exact fun h=>h,fun er bU=>by rw [lY] at bU;exact⟨(ck.b_.inj bU).symm,et,rfl⟩,kA,rfl,oN⟩
        ·rintro b o (hf | hf)
         ·exact⟨p.id,b8,nR b o hf⟩
         ·exact⟨p.id,b8,hf.1⟩
       | _=>rw [ho] at ie;simp at ie
    | _=>simp [ae.fb] at hi
 | .st aj,m,cs,s,r,vs,hi,h,hc=>by
  simp only [ae.fb] at hi
  have:=ay.x0 aj m.parts cs s r vs hi h hc
  simpa only [ae.al,cW] using this
theorem ay.x0:∀(aj:ay) (m:cS) (cs:List a8) (s:aq) (r:aj.D×List a8×aq) (vs:List Value),aj.fb m cs s=some r→Inv w0 F0 Z0 n s a w ι Z→bG w Z s ι cs vs →
  HT w0 F0 Z0 n s a w ι Z (fun us F=>aj.al w Z m r.1 us F) (fun s c us H=>fr true w Z s ι aj m c us H) cs vs r.2.1 r.2.2
 | .nil,m,cs,s,r,vs,hi,h,hc=>by
  simp only [ay.fb] at hi
  obtain rfl:=aV hi
  exact⟨[],[],vs,ah.none,ah.none,rfl,rfl,h,.refl,hc,.none,.none,fun _ _ h=>h.elim,by simp only [ay.al],by simp [fr],fun _ _ h=>h.elim (fun h=>h.elim) fun h=>h.elim⟩
 | .cons t aj,m,cs,s,r,vs,hi,h,hc=>by
  simp only [ay.fb] at hi
  obtain ⟨bB,h1,hi⟩:=bf hi
  obtain ⟨cc,h2,hi⟩:=bf hi
  obtain rfl:=aV hi
  obtain ⟨c1,us1,vs1,F1,H1,e1,e2,i1,g1,c6,f1,x1,a1,ed,k1,dP⟩:=ae.x0 t m.ag cs s bB vs h1 h hc
  obtain ⟨gf,us2,vs2,dH,H2,d1,d2,i2,g2,eE,f2,YQ,a2,d_,k2,eF⟩:=ay.x0 aj m.dt bB.2.1 bB.2.2 cc vs1 h2 i1 c6
  have hap:∀ {X:ah},bF w0 F0 bB.2.2 w ι Z X→∀b o,X b o→(dH b o∨H2 b o)→False:=by
   intro X hX b o hx hh
   obtain ⟨id,hl,hf⟩:=eF b o hh
   exact hX.apart id hl b o hx hf
  refine⟨c1++gf,us1++us2,vs2,F1.or dH,H1.or H2,by rw [e1,d1,List.append_assoc],by rw [e2,d2,List.append_assoc],i2,g1.trans g2,eE,(f1.s9 g2).or f2,(x1.s9 g2).or YQ,?_,?_,?_,?_⟩
  ·rintro b o (hf | hf) (hh | hh)
   ·exact a1 b o hf hh
   ·exact hap f1 b o hf (.inr hh)
   ·exact hap x1 b o hh (.inl hf)
   ·exact a2 b o hf hh
  ·simp only [ay.al]
   exact⟨us1,us2,F1,dH,rfl,ed,d_,fun b o h1 h2=>hap f1 b o h1 (.inl h2),fun _ _ h=>.inl h,fun _ _ h=>.inr h⟩
  ·simp only [fr]
   exact⟨c1,gf,us1,us2,H1,H2,rfl,rfl,cW.move (g2.held H1) (fun _ _ h=>h) t m.ag k1,k2,fun b o h1 h2=>hap x1 b o h1 (.inr h2),fun _ _ h=>.inl h,fun _ _ h=>.inr h⟩
  ·rintro b o ((hf | hf) | (hf | hf))
   ·exact dP b o (.inl hf)
   ·obtain ⟨id,hl,p7⟩:=eF b o (.inl hf);exact⟨id,(g1.live hl).1,p7⟩
   ·exact dP b o (.inr hf)
   ·obtain ⟨id,hl,p7⟩:=eF b o (.inr hf);exact⟨id,(g1.live hl).1,p7⟩
end
end
end Go.LM
namespace Go.LM
section
variable{P:Program}{Q:Exit→Act→World→Prop}
variable{w0:World}{F0 Z0:ah}{n:cB}{s ar:aq}{a b6:Act}{w w':World}{ι bd:Nat→bC}{Z Z':ah}
theorem Bf{t:ae}{x:a6}{v:Value}(hf:nI t x=true)(hv:aQ w Z s ι x v):v=dB t v.cells.toList:=by
 cases t <;> cases x <;> simp only [nI] at hf <;> try (simp at hf;done)
 all_goals simp only [aQ] at hv
 all_goals first
  | (rw [Hn hv.dY];rfl)
  | (subst hv;rfl)
  | (obtain ⟨vs,rfl,_⟩:=hv;simp [dB,Value.cells])
theorem Pp(h:Inv w0 F0 Z0 n s a w ι Z){k:Nat}{p:Place}{cs:List a8}{A:Addr}(hr:lK s k p=some cs)(au:iV s ι p A) :
  ∃b o vs,A=at_ b o∧bG w Z s ι cs vs∧b4 w b o vs∧vs.length=k∧(s.o p.id).live∧∀j,j<k→(ι p.id).F b (o+j):=by
 obtain ⟨b,o,vs,rfl,h1,h2,h3⟩:=xL h hr au
 refine⟨b,o,vs,rfl,h1,h2,h3,?_⟩
 obtain ⟨hs,au⟩:=au
 unfold lK at hr
 cases ho:s.o p.id with
 | var ver old =>
  rw [ho] at hr au
  obtain ⟨he,a0,hb,hA⟩:=au
  rw [he] at hr
  obtain ⟨hle,rfl⟩:=oL hr
  have cX:=h.fC p.id
  rw [ho] at cX
  obtain ⟨vq,bD,dA,hsp,hc,cl,hF⟩:=cX
  rw [hb] at dA
  obtain rfl:=aV dA
  simp only [at_,Addr.mk.injEq,and_true] at hA
  obtain ⟨rfl,rfl⟩:=hA
  refine⟨trivial,fun j hj=>?_⟩
  have:=(hF (p.off+j) (by omega)).2
  rwa [← Nat.add_assoc] at this
 | row t em ver xs =>
  rw [ho] at hr au
  obtain ⟨i,he,hi,a0,hb,hA⟩:=au
  rw [he] at hr
  obtain ⟨hle,rfl⟩:=oL hr
  have cX:=h.fC p.id
  rw [ho] at cX
  obtain ⟨vq,bD,dA,hsp,hc,cl,hl⟩:=Oi h ho hi
  rcases cX with⟨rfl,_⟩ | ⟨a1,hb1,hrow⟩
  ·simp at hi
  rw [hb] at hb1
  obtain rfl:=aV hb1
  simp only [at_,Addr.mk.injEq,and_true] at hA
  obtain ⟨rfl,rfl⟩:=hA
  refine⟨trivial,fun j hj=>?_⟩
  have hcl:=hc.len
  have Hf:(i+1)*t.size≤(ι p.id).cap*t.size:=Nat.mul_le_mul_right _ (by have:=hrow.cap;omega)
  rw [Nat.add_one_mul] at Hf
  have:=hrow.inF (i*t.size+p.off+j) (by omega)
  rwa [show a0.off +(i*t.size+p.off+j)=a0.off+i*t.size+p.off+j by omega] at this
 | none=>rw [ho] at hr;simp at hr
 | dead=>rw [ho] at hr;simp at hr
 | b_=>rw [ho] at hr;simp at hr
def Bg(w0:World)(F0 Z0:ah)(n:cB)(s:aq)(a:Act)(w:World)(ι : Nat→bC)(Z:ah)(key:Nat)(bn:List (Nat×Nat))(ps:List bx)(vs:List a6)(us:List Value)(q:(bx.ins ps).D×aq×List (Nat×Nat)):Prop :=
 ∃F H cp,Inv w0 F0 Z0 n q.2.1 a w ι cp∧fj s ι Z q.2.1 cp∧gh w (cp.or (db ι q.2.2)) key ps q.1 us F∧eQ true w cp q.2.1 ι ps vs us H∧bF w0 F0 q.2.1 w ι cp F∧bF w0 F0 q.2.1 w ι cp H∧ah.apart F H ∧
  (∃nb,q.2.2=nb++bn)∧(∀d,d∈q.2.2→ek q.2.1 d)∧∀b o,F b o∨H b o→∃id,(s.o id).live∧(ι id).F b o
theorem HW(h:fj s ι Z ar Z'){d:Nat×Nat}(ag:ek s d):ek ar d:=(h.ec (w:=default)).turns.dep ag
theorem vM{key:Nat}{sp:bx}{ps:List bx}{v:a6}{vs:List a6}{u:Value}{us:List Value}{bn HX nb:List (Nat×Nat)}{s1:aq}{cp F1 H1:ah}{q:(bx.ins ps).D×aq×List (Nat×Nat)}{x:(bx.ins (sp :: ps)).D}
  (g1:fj s ι Z s1 cp) (f1:bF w0 F0 s1 w ι cp F1) (h1:bF w0 F0 s1 w ι cp H1) (a1:ah.apart F1 H1) (src:∀b o,F1 b o∨H1 b o→∃id,(s.o id).live∧(ι id).F b o) (lZ:HX=nb++bn)
  (hr:Bg w0 F0 Z0 n s1 a w ι cp key HX ps vs us q)
  (hA:∀(bK dH:ah),ah.sub (cp.or (db ι HX)) bK→gh w bK key ps q.1 us dH→ah.apart F1 dH→gh w bK key (sp :: ps) x (u :: us) (F1.or dH))
  (HU:∀(s2:aq) (bK H2:ah),fj s1 ι cp s2 bK→eQ true w bK s2 ι ps vs us H2→ah.apart H1 H2→eQ true w bK s2 ι (sp :: ps) (v :: vs) (u :: us) (H1.or H2)) :
  Bg w0 F0 Z0 n s a w ι Z key bn (sp :: ps) (v :: vs) (u :: us) (x,q.2):=by
 obtain ⟨dH,H2,bK,i2,g2,cc,k2,f2,h2,a2,⟨Hd,lN⟩,d2,s2⟩:=hr
 have hap:∀ {X:ah},bF w0 F0 s1 w ι cp X→∀b o,X b o→(dH b o∨H2 b o)→False:=by
  intro X hX b o hx hh
  obtain ⟨id,hl,hf⟩:=s2 b o hh
  exact hX.apart id hl b o hx hf
 refine⟨F1.or dH,H1.or H2,bK,i2,g1.trans g2,hA _ _ ?_ cc (fun b o h1 h2=>hap f1 b o h1 (.inl h2)),HU _ _ _ g2 k2 (fun b o x y=>hap h1 b o x (.inr y)),(f1.s9 g2).or f2,(h1.s9 g2).or h2,?_,⟨Hd++nb,by show q.2.2=_;rw [lN,lZ,List.append_assoc]⟩,d2,?_⟩
 ·rintro b o (hz | hz)
  ·exact .inl (g2.dz b o hz)
  ·show bK b o∨db ι q.2.2 b o
   rw [lN];exact .inr (G' _ _ _ b o hz)
 ·rintro b o (hf | hf) (hh | hh)
  ·exact a1 b o hf hh
  ·exact hap f1 b o hf (.inr hh)
  ·exact hap h1 b o hh (.inl hf)
  ·exact a2 b o hf hh
 ·rintro b o ((hf | hf) | (hf | hf))
  ·exact src b o (.inl hf)
  ·obtain ⟨id,hl,p7⟩:=s2 b o (.inl hf);exact⟨id,(g1.live hl).1,p7⟩
  ·exact src b o (.inr hf)
  ·obtain ⟨id,hl,p7⟩:=s2 b o (.inr hf);exact⟨id,(g1.live hl).1,p7⟩
theorem HY{sp:bx}{ps:List bx}{v:a6}{vs:List a6}{u:Value}{us:List Value}{H fG:ah}(hsp:(∃t m,sp=.val t m)∨(∃t,sp=.ref t)∨(∃a b,sp=.fn a b)∨∃t,sp=.gV t)(cC:ah.sub H fG)
  (h:eQ true w Z s ι ps vs us H) (hz:gw true w Z s ι w Z s ι H):eQ true w Z s ι (sp :: ps) (v :: vs) (u :: us) fG:=by
 have:=eQ.move hz cC ps h
 rcases hsp with⟨t,m,rfl⟩ | ⟨t,rfl⟩ | ⟨a,b,rfl⟩ | ⟨t,rfl⟩ <;> exact⟨v,vs,u,us,rfl,rfl,this⟩
theorem HZ:∀ {x:List a6} {us:List Value},aZ w Z s ι x us→us.length=x.length
 | [],_,h=>by simp only [aZ] at h;rw [h];rfl
 | _ :: _,_,h=>by
  simp only [aZ] at h
  obtain ⟨u,aT,rfl,_,h2⟩:=h
  simp [HZ h2]
theorem p8{key:Nat} : ∀(ps:List bx) (vs:List a6) (us:List Value) (s:aq) (Z:ah) (bn:List (Nat×Nat)) (q:(bx.ins ps).D×aq×List (Nat×Nat)),fS key s ps vs bn=some q→Inv w0 F0 Z0 n s a w ι Z →
  aZ w Z s ι vs us→(∀d,d∈bn→ek s d)→Bg w0 F0 Z0 n s a w ι Z key bn ps vs us q
 | [],vs,us,s,Z,bn,q,hm,h,hv,hb=>by
  cases vs with
  | cons=>simp [fS] at hm
  | nil =>
   simp only [fS,Option.some.injEq] at hm
   subst hm
   simp only [aZ] at hv
   exact⟨ah.none,ah.none,Z,h,.refl,hv,trivial,.none,.none,fun _ _ h=>h.elim,⟨[],rfl⟩,hb,fun _ _ h=>h.elim (fun h=>h.elim) fun h=>h.elim⟩
 | .fn lJ oF :: ps,vs,us,s,Z,bn,q,hm,h,hv,hb=>by
  cases vs with
  | nil=>simp [fS] at hm
  | cons v vs =>
   cases v <;> simp only [fS] at hm <;> try (simp at hm;done)
   rename_i g YR HM
   cases aA:(Nat.beq g key&&Nat.beq YR.length lJ&&Nat.beq HM.length oF)
   ·rw [aA] at hm;cases hm
   rw [aA] at hm
   simp only [Bool.and_eq_true] at aA
   obtain ⟨⟨aA,Pq⟩,Bh⟩:=aA
   have aA:=Nat.eq_of_beq_eq_true aA
   have Pq:=Nat.eq_of_beq_eq_true Pq
   have Bh:=Nat.eq_of_beq_eq_true Bh
   subst aA
   simp only [aZ,aQ] at hv
   obtain ⟨u,aT,rfl,⟨x,y,hx,YS,OZ⟩,fE⟩:=hv
   have aks:=HZ YS
   have akt:=HZ OZ
   obtain ⟨F,H,cp,i1,g1,bB,k1,f1,h1,a1,fF,d1,s1⟩:=p8 ps vs aT s Z bn q hm h fE hb
   exact⟨F,H,cp,i1,g1,⟨_,_,aT,by rw [hx],⟨by simp;omega,by simp;omega⟩,bB⟩,⟨_,_,_,_,rfl,rfl,k1⟩,f1,h1,a1,fF,d1,s1⟩
 | .val t m :: ps,vs,us,s,Z,bn,q,hm,h,hv,hb=>by
  cases vs with
  | nil=>simp [fS] at hm
  | cons v vs =>
   simp only [fS] at hm
   cases hf:nI t v
   ·rw [hf] at hm;simp at hm
   rw [hf] at hm
   simp only [cond_true] at hm
   cases hcs:iy t v with
   | none=>rw [hcs] at hm;simp at hm
   | some cs =>
    rw [hcs] at hm
    simp only at hm
    obtain ⟨r,hr,hm⟩:=bf hm
    cases eg:r.2.1 with
    | cons=>rw [eg] at hm;simp at hm
    | nil =>
     rw [eg] at hm
     simp only at hm
     obtain ⟨p,au,hm⟩:=bf hm
     obtain rfl:=aV hm
     simp only [aZ] at hv
     obtain ⟨u,aT,rfl,hu,fE⟩:=hv
     obtain ⟨us1,vs1,F1,cp,e1,i1,s1,c1,f1,bB,⟨nb,fF⟩,_,d1,g1⟩:=ae.k5 t true m cs s bn r _ Z hr h (re hcs hu) hb
     rw [eg] at c1
     have hvs1:vs1=[]:=by cases vs1 with | nil=>rfl | cons=>exact c1.elim
     subst hvs1
     rw [List.append_nil] at e1
     have hw:=Bf hf hu
     rw [e1] at hw
     have mW:=p8 ps vs aT r.2.2.1 cp r.2.2.2 p au i1 (aZ.move s1.ec fE) d1
     refine vM s1.lX f1 .none (fun _ _ _ h=>h) (fun b o hf=>hf.elim (g1 b o) fun h=>h.elim) fF mW ?_ ?_
     ·intro bK dH hZ hA hap
      exact⟨us1,aT,F1,dH,by rw [← hw],ae.al.mono hZ _ _ (fun _ _ h=>h) bB,hA,hap,fun _ _ h=>.inl h,fun _ _ h=>.inr h⟩
     ·intro s2 bK H2 aA hk kB
      exact HY (.inl ⟨_,_,rfl⟩) (fun _ _ h=>.inr h) hk (fj.refl.held H2)
 | .gV t :: ps,vs,us,s,Z,bn,q,hm,h,hv,hb=>by
  cases vs with
  | nil=>simp [fS] at hm
  | cons v vs =>
   simp only [fS] at hm
   cases hf:nI t v
   ·rw [hf] at hm;simp at hm
   rw [hf] at hm
   simp only [cond_true] at hm
   cases hcs:iy t v with
   | none=>rw [hcs] at hm;simp at hm
   | some cs =>
    rw [hcs] at hm
    simp only at hm
    obtain ⟨r,hr,hm⟩:=bf hm
    cases eg:r.2.1 with
    | cons=>rw [eg] at hm;simp at hm
    | nil =>
     rw [eg] at hm
     simp only at hm
     obtain ⟨p,au,hm⟩:=bf hm
     obtain rfl:=aV hm
     simp only [aZ] at hv
     obtain ⟨u,aT,rfl,hu,fE⟩:=hv
     obtain ⟨us1,vs1,F1,cp,e1,i1,s1,c1,f1,bB,⟨nb,fF⟩,_,d1,g1⟩:=ae.k5 t false .R cs s bn r _ Z hr h (re hcs hu) hb
     rw [eg] at c1
     have hvs1:vs1=[]:=by cases vs1 with | nil=>rfl | cons=>exact c1.elim
     subst hvs1
     rw [List.append_nil] at e1
     have hw:=Bf hf hu
     rw [e1] at hw
     have mW:=p8 ps vs aT r.2.2.1 cp r.2.2.2 p au i1 (aZ.move s1.ec fE) d1
     refine vM s1.lX f1 .none (fun _ _ _ h=>h) (fun b o hf=>hf.elim (g1 b o) fun h=>h.elim) fF mW ?_ ?_
     ·intro bK dH hZ hA hap
      exact⟨us1,aT,F1,dH,by rw [← hw],ae.al.mono hZ _ _ (fun _ _ h=>h) bB,hA,hap,fun _ _ h=>.inl h,fun _ _ h=>.inr h⟩
     ·intro s2 bK H2 aA hk kB
      exact HY (.inr (.inr (.inr ⟨_,rfl⟩))) (fun _ _ h=>.inr h) hk (fj.refl.held H2)
 | .gU t m :: ps,vs,us,s,Z,bn,q,hm,h,hv,hb=>by
  cases vs with
  | nil=>simp [fS] at hm
  | cons v vs =>
   simp only [fS] at hm
   cases hf:(nI t v&&ba.beq m t.own)
   ·rw [hf] at hm;simp at hm
   rw [hf] at hm
   simp only [cond_true] at hm
   simp only [Bool.and_eq_true] at hf
   obtain ⟨hf,nX⟩:=hf
   have nX:=ba.eq_of_beq _ _ nX
   cases hcs:iy t v with
   | none=>rw [hcs] at hm;simp at hm
   | some cs =>
    rw [hcs] at hm
    simp only at hm
    obtain ⟨r,hr,hm⟩:=bf hm
    cases eg:r.2.1 with
    | cons=>rw [eg] at hm;simp at hm
    | nil =>
     rw [eg] at hm
     simp only at hm
     obtain ⟨p,au,hm⟩:=bf hm
     obtain rfl:=aV hm
     simp only [aZ] at hv
     obtain ⟨u,aT,rfl,hu,fE⟩:=hv
     obtain ⟨c1,us1,vs1,F1,H1,e0,e1,i1,g1,c6,f1,x1,a1,bB,k1,dP⟩:=ae.x0 t m cs s r _ hr h (re hcs hu)
     rw [eg] at c6 e0
     have hvs1:vs1=[]:=by cases vs1 with | nil=>rfl | cons=>exact c6.elim
     subst hvs1
     rw [List.append_nil] at e1 e0
     subst e0
     have hw:=Bf hf hu
     have mW:=p8 ps vs aT r.2.2 Z bn p au i1 (aZ.move g1.ec fE) (fun d ag=>HW g1 (hb d ag))
     refine vM (nb:=[]) g1 f1 x1 a1 dP rfl mW ?_ ?_
     ·intro bK dH hZ hA hap
      exact⟨us1,aT,F1,dH,by rw [← e1,← hw],ae.al.mono (fun b o hz=>hZ b o (.inl hz)) _ _ (fun _ _ h=>h) bB,hA,hap,fun _ _ h=>.inl h,fun _ _ h=>.inr h⟩
     ·intro s2 bK H2 aA hk kB
      refine⟨v,vs,u,aT,cs,H1,H2,rfl,rfl,hcs,nX,?_,hk,kB,fun _ _ h=>.inl h,fun _ _ h=>.inr h⟩
      rw [e1]
      exact cW.move (aA.held H1) (fun _ _ h=>h) t m k1
 | .ref t :: ps,vs,us,s,Z,bn,q,hm,h,hv,hb=>by
  cases vs with
  | nil=>simp [fS] at hm
  | cons v vs =>
   simp only [aZ] at hv
   obtain ⟨u,aT,rfl,hu,fE⟩:=hv
   have go:∀(cs:List a8) (mH:List (Nat×Nat)) (b o:Nat) (ws:List Value),bG w Z s ι cs ws→b4 w b o ws→ws.length=t.size→u=.pointer (some (at_ b o))→(∃nb,mH=nb++bn)→(∀d,d∈mH→ek s d) →
     (∀j,j<t.size→Z.or (db ι mH) b (o+j)) →
     ((t.imp true .R cs s mH).bind fun r=>match r.2.1 with | []=>(fS key r.2.2.1 ps vs r.2.2.2).bind fun q=>some ((r.1,q.1),q.2) | _=>none)=some q→Bg w0 F0 Z0 n s a w ι Z key bn (.ref t :: ps) (v :: vs) (u :: aT) q:=by
    intro cs mH b o ws oP cl sV iW ⟨YT,YU⟩ YV hin hm
    obtain ⟨r,hr,hm⟩:=bf hm
    cases eg:r.2.1 with
    | cons=>rw [eg] at hm;simp at hm
    | nil =>
     rw [eg] at hm
     simp only at hm
     obtain ⟨p,au,hm⟩:=bf hm
     obtain rfl:=aV hm
     obtain ⟨us1,vs1,F1,cp,e1,i1,s1,c1,f1,bB,⟨nb,fF⟩,_,d1,g1⟩:=ae.k5 t true .R cs s mH r _ Z hr h oP YV
     rw [eg] at c1
     have hvs1:vs1=[]:=by cases vs1 with | nil=>rfl | cons=>exact c1.elim
     subst hvs1
     rw [List.append_nil] at e1
     subst e1
     have mW:=p8 ps vs aT r.2.2.1 cp r.2.2.2 p au i1 (aZ.move s1.ec fE) d1
     refine vM (nb:=nb++YT) s1.lX .none .none (fun _ _ h=>h.elim) (fun b o hf=>hf.elim (fun h=>h.elim) fun h=>h.elim) (by rw [fF,YU,List.append_assoc]) mW ?_ ?_
     ·intro bK dH hZ hA hap
      refine⟨b,o,ws,aT,by rw [iW],cl,ae.al.mono hZ _ _ (fun _ _ h=>h) (q6 bB),fun j hj=>hZ _ _ ?_,gh.mono (fun _ _ h=>h) ps (fun _ _ h=>.inr h) hA⟩
      rcases hin j hj with hz | hz
      ·exact .inl (s1.dz _ _ hz)
      ·rw [fF];exact .inr (G' _ _ _ _ _ hz)
     ·intro s2 bK H2 aA hk kB
      exact HY (.inr (.inl ⟨_,rfl⟩)) (fun _ _ h=>.inr h) hk (fj.refl.held H2)
   cases v <;> simp only [fS] at hm <;> try (simp at hm;done)
   ·rename_i p
    cases hr:lK s t.size p with
    | none=>rw [hr] at hm;simp at hm
    | some cs =>
     rw [hr] at hm
     simp only [aQ] at hu
     obtain ⟨hk,A,hu,au⟩:=hu
     obtain ⟨b,o,ws,rfl,h1,h2,h3,h4,a7⟩:=Pp h hr au
     refine go cs ((p.id,j7 s p.id) :: bn) b o ws h1 h2 h3 hu ⟨[_],rfl⟩ ?_ (fun j hj=>.inr ⟨_,List.mem_cons_self,a7 j hj⟩) hm
     intro d ag
     rcases List.mem_cons.1 ag with rfl | ag
     ·exact⟨hk,.inr (Nat.le_refl _)⟩
     ·exact hb d ag
   ·rename_i dp cs off
    cases ht:takeN off t.size cs with
    | none=>rw [ht] at hm;simp at hm
    | some ds =>
     rw [ht] at hm
     simp only at hm
     cases dQ:alive s dp
     ·rw [dQ] at hm;simp at hm
     rw [dQ] at hm
     simp only [cond_true] at hm
     obtain ⟨hle,rfl⟩:=oL ht
     simp only [aQ] at hu
     obtain ⟨ag,b,o,ws,hu,hx⟩:=hu
     obtain ⟨h1,h2,h3⟩:=hx dQ
     have hl:=h1.len
     refine go _ (dp++bn) b (o+off) ((ws.drop off).take t.size) ((h1.drop off).take _) (h2.part off _) (by simp;omega) hu ⟨dp,rfl⟩ ?_ ?_ hm
     ·intro d hK
      rcases List.mem_append.1 hK with h | h
      ·exact ag d h
      ·exact hb d h
     ·intro j hj
      have:=h3 (off+j) (by omega)
      rw [← Nat.add_assoc] at this
      rcases this with hz | ⟨d,ag,hf⟩
      ·exact .inl hz
      ·exact .inr ⟨d,List.mem_append.2 (.inl ag),hf⟩
 | .mut t m m' :: ps,vs,us,s,Z,bn,q,hm,h,hv,hb=>by
  cases vs with
  | nil=>simp [fS] at hm
  | cons v vs =>
   simp only [aZ] at hv
   obtain ⟨u,aT,rfl,hu,fE⟩:=hv
   cases v <;> simp only [fS] at hm <;> try (simp at hm;done)
   rename_i p
   simp only [aQ] at hu
   obtain ⟨hk,A,hu,au⟩:=hu
   obtain ⟨aku,au⟩:=au
   cases ho:s.o p.id with
   | none=>rw [ho] at hm;simp at hm
   | dead=>rw [ho] at hm;simp at hm
   | b_=>rw [ho] at hm;simp at hm
   | var ver old =>
    rw [ho] at hm au
    obtain ⟨he,a0,et,hA⟩:=au
    rw [he] at hm
    simp only at hm
    cases ht:takeN p.off t.size old with
    | none=>rw [ht] at hm;simp at hm
    | some cs =>
     rw [ht] at hm
     simp only at hm
     obtain ⟨hle,rfl⟩:=oL ht
     obtain ⟨r,hr,hm⟩:=bf hm
     cases eg:r.2.1 with
     | cons=>rw [eg] at hm;simp at hm
     | nil =>
      rw [eg] at hm
      simp only at hm
      obtain ⟨H0,hq,hm⟩:=bf hm
      obtain rfl:=aV hm
      have b8:(s.o p.id).live:=by rw [ho];trivial
      have aA:fj s ι Z (s.bN p.id (.b_ (.var ver old))) Z:=by have:=xW (s:=s) (ι := ι) (Z:=Z) b8;rw [ho] at this;exact this
      have eZ:bF w0 F0 (s.bN p.id (.b_ (.var ver old))) w ι Z (ι p.id).F:=by have:=h.xX b8;rw [ho] at this;exact this
      have cX:=h.fC p.id
      rw [ho] at cX
      obtain ⟨⟨b,o,sp⟩,ws,dA,hsp,hc,cl,hF⟩:=cX
      simp only at hsp
      subst hsp
      rw [et] at dA
      obtain rfl:=aV dA
      have hl:=hc.len
      have lY:(s.bN p.id (.b_ (.var ver old))).o p.id=.b_ (.var ver old):=cw _ _ _
      have Pr:=hc.move aA.ec
      obtain ⟨us1,vs1,F1,cp,e1,i1,s1,c1,f1,bB,⟨nb,fF⟩,_,d1,g1⟩:=ae.k5 t true m _ _ bn r _ Z hr (h.lX aA) ((Pr.drop p.off).take t.size) (fun d ag=>HW aA (hb d ag))
      rw [eg] at c1
      have hvs1:vs1=[]:=by cases vs1 with | nil=>rfl | cons=>exact c1.elim
      subst hvs1
      rw [List.append_nil] at e1
      have mW:=p8 ps vs aT r.2.2.1 cp r.2.2.2 H0 hq i1 (aZ.move s1.ec (aZ.move aA.ec fE)) d1
      have xJ:=aA.trans s1.lX
      have hrun:ah.sub (ah.run b (o+p.off) t.size) (ι p.id).F:=by
       rintro b' o' ⟨rfl,h1,h2⟩
       have:=(hF (o'-o) (by omega)).2
       simp only at this
       rwa [show o +(o'-o)=o' by omega] at this
      have Ps:=eZ.shrink s1
      have Pt:ah.apart F1 (ι p.id).F:=by
       intro b o h1 h2
       obtain ⟨id,hl,hf⟩:=g1 b o h1
       exact eZ.apart id hl b o h2 hf
      refine vM (F1:=F1.or (ah.run b (o+p.off) t.size)) (H1:=ah.diff (ι p.id).F (ah.run b (o+p.off) t.size)) xJ (f1.or (Ps.sub hrun)) (Ps.sub fun _ _ h=>h.1) ?_ ?_ fF mW ?_ ?_
      ·rintro b o (hf | hf) hh
       ·exact Pt b o hf hh.1
       ·exact hh.2 hf
      ·rintro b' o' ((hf | hf) | hh)
       ·obtain ⟨id,hl,p7⟩:=g1 b' o' hf;exact⟨id,(aA.live hl).1,p7⟩
       ·exact⟨p.id,b8,hrun b' o' hf⟩
       ·exact⟨p.id,b8,hh.1⟩
      ·intro bK dH hZ oU hap
       refine⟨b,o+p.off,us1,aT,F1,dH,by rw [hu,hA],?_,?_,ae.al.mono hZ _ _ (fun _ _ h=>h) bB,oU,hap,fun b o h1 h2=>Pt b o h1 (hrun b o h2),fun _ _ h=>.inl h,fun _ _ h=>.inr h⟩
       ·rw [← e1];exact cl.part p.off t.size
       ·intro j hj
        have:=(hF (p.off+j) (by omega)).1
        rwa [← Nat.add_assoc] at this
      ·intro s2 bK H2 H4 hkk kB
       refine⟨p,vs,u,aT,_,H2,rfl,rfl,.inl ?_,hkk,kB,fun _ _ h=>.inl h,fun _ _ h=>.inr h⟩
       refine vI.move ((s1.lX.trans H4).held (ah.diff (ι p.id).F (ah.run b (o+p.off) t.size))) (fun _ _ h=>h) ?_
       refine⟨ver,old,b,o,ws,fun _=>by rw [lY];exact fun h=>h,fun er bU=>by rw [lY] at bU;exact⟨(ck.b_.inj bU).symm,et⟩,he,by rw [hu,hA],hle,Pr,fun j hj=>(hF j hj).1,fun j hj hh=>⟨(hF j hj).2,?_⟩,fun j v hv hh=>cl j v hv⟩
       rintro ⟨_,h1,h2⟩
       omega
   | row gx em ver xs =>
    rw [ho] at hm au
    obtain ⟨i,he,hi,a0,et,hA⟩:=au
    rw [he] at hm
    simp only at hm
    cases Bi:(Nat.beq p.off 0&&ba.beq em m&&ba.beq m' em&&ba.beq m t.own)
    ·rw [Bi] at hm;simp at hm
    rw [Bi] at hm
    simp only [Bool.and_eq_true] at Bi
    obtain ⟨⟨⟨hc1,hc2⟩,x2⟩,H5⟩:=Bi
    have H5:=ba.eq_of_beq _ _ H5
    have hc1:=Nat.eq_of_beq_eq_true hc1
    have hc2:=ba.eq_of_beq _ _ hc2
    have x2:=ba.eq_of_beq _ _ x2
    subst hc2
    subst x2
    simp only [cond_true] at hm
    obtain ⟨x,hx,hm⟩:=bf hm
    obtain ⟨e1,rfl⟩:=AI hx
    subst e1
    obtain ⟨H0,hq,hm⟩:=bf hm
    obtain rfl:=aV hm
    have b8:(s.o p.id).live:=by rw [ho];trivial
    have aA:fj s ι Z (s.bN p.id (.b_ (.row gx m' ver xs))) Z:=by have:=xW (s:=s) (ι := ι) (Z:=Z) b8;rw [ho] at this;exact this
    have eZ:bF w0 F0 (s.bN p.id (.b_ (.row gx m' ver xs))) w ι Z (ι p.id).F:=by have:=h.xX b8;rw [ho] at this;exact this
    have cX:=h.fC p.id
    rw [ho] at cX
    rcases cX with⟨rfl,_⟩ | ⟨⟨b,o,sp⟩,dA,hrow⟩
    ·simp at hi
    have hsp:=hrow.spot
    simp only at hsp
    subst hsp
    rw [et] at dA
    obtain rfl:=aV dA
    obtain ⟨G,g1,g2,g3⟩:=hrow.row
    obtain ⟨G1,iI,G2,ws,k1,k2,k3,bh,bu,dd,dj,ef,fX,fi,cR⟩:=g1.A' i hi
    have lY:(s.bN p.id (.b_ (.row gx m' ver xs))).o p.id=.b_ (.row gx m' ver xs):=cw _ _ _
    have hcap:(i+1)*gx.size≤(ι p.id).cap*gx.size:=Nat.mul_le_mul_right _ (by have:=hrow.cap;omega)
    rw [Nat.add_one_mul] at hcap
    have hrun:ah.sub (ah.run b (o+i*gx.size) gx.size) (ι p.id).F:=by
     rintro b' o' ⟨rfl,h1,h2⟩
     have:=hrow.inF (o'-o) (by omega)
     simp only at this
     rwa [show o +(o'-o)=o' by omega] at this
    have Bj:∀ {X:ah},ah.sub X G→∀j,j<(ι p.id).cap*gx.size→¬X b (o+j):=fun hX j hj hh=>g2 j hj (hX _ _ hh)
    have rp:∀ {X:ah},ah.sub X G→ah.apart X (ah.run b (o+i*gx.size) gx.size):=by
     rintro X hX b' o' hx ⟨rfl,h1,h2⟩
     have:=Bj hX (o'-o) (by omega)
     rw [show o +(o'-o)=o' by omega] at this
     exact this hx
    have mW:=p8 ps vs aT _ Z bn H0 hq (h.lX aA) (aZ.move aA.ec fE) (fun d ag=>HW aA (hb d ag))
    have Pu:ah.sub (iI.or (ah.run b (o+i*gx.size) gx.size)) (ι p.id).F:=fun b o h=>h.elim (fun h=>g3 b o (fi b o h)) (hrun b o)
    have iW:u=.pointer (some (at_ b (o+i*gx.size))):=by rw [hu,hA,hc1];rfl
    refine vM (nb:=[]) (F1:=iI.or (ah.run b (o+i*gx.size) gx.size)) (H1:=ah.diff (ι p.id).F (iI.or (ah.run b (o+i*gx.size) gx.size))) aA (eZ.sub Pu) (eZ.sub fun _ _ h=>h.1) (fun b o h1 h2=>h2.2 h1) ?_ rfl mW ?_ ?_
    ·rintro b' o' (hf | hf)
     ·exact⟨p.id,b8,Pu b' o' hf⟩
     ·exact⟨p.id,b8,hf.1⟩
    ·intro bK dH hZ oU hap
     refine⟨b,o+i*gx.size,ws,aT,iI,dH,by rw [iW],bh,fun j hj=>?_,?_,oU,hap,rp fi,fun _ _ h=>.inl h,fun _ _ h=>.inr h⟩
     ·have:=(hrow.wr (i*gx.size+j) (by omega)).1
      rwa [← Nat.add_assoc] at this
     ·rw [c7 hi]
      exact ae.al.mono (fun b o hz=>hZ b o (.inl hz)) _ _ (fun _ _ h=>h) k2
    ·intro s2 bK H2 H4 hkk kB
     refine⟨p,vs,u,aT,_,H2,rfl,rfl,.inr ⟨rfl,H5,?_⟩,hkk,kB,fun _ _ h=>.inl h,fun _ _ h=>.inr h⟩
     refine vJ.move (H4.held (ah.diff (ι p.id).F (iI.or (ah.run b (o+i*gx.size) gx.size)))) (fun _ _ h=>h) ?_
     refine⟨ver,xs,i,b,o,_,G1,G2,fun _=>by rw [lY];exact fun h=>h,fun er bU=>by rw [lY] at bU;exact⟨(ck.b_.inj bU).symm,et,rfl⟩,he,hi,iW,hrow.cap,hrow.wr,fun j hj hh=>⟨hrow.inF j hj,?_⟩,k1,bu,dj,fun b o aA=>⟨g3 b o (fX b o aA),?_⟩,fun b o aA=>⟨g3 b o (cR b o aA),?_⟩,fun j hj=>⟨Bj fX j hj,Bj cR j hj⟩⟩
     ·rintro (YW | ⟨_,h1,h2⟩)
      ·exact Bj fi j hj YW
      ·rw [Nat.add_one_mul] at hh;omega
     ·rintro (hh | hh)
      ·exact dd b o aA hh
      ·exact rp fX b o aA hh
     ·rintro (hh | hh)
      ·exact ef b o hh aA
      ·exact rp cR b o aA hh
end
end Go.LM
namespace Go.LM
section
variable{P:Program}{Q:Exit→Act→World→Prop}
variable{g:Bool}{w0:World}{F0 Z0:ah}{n:cB}{s ar:aq}{a b6:Act}{w w' b7:World}{ι bd ep:Nat→bC}{Z Z' bK:ah}
theorem gw.trans{s2:aq}{H:ah}(h:gw g w Z s ι w' Z' ar bd H)(k:gw g w' Z' ar bd b7 bK s2 ep H):gw g w Z s ι b7 bK s2 ep H:=by
 refine⟨fun x v hx=>k.az x v (h.az x v hx),fun c v hc=>k.cell c v (h.cell c v hc),fun b o hz=>k.dz b o (h.dz b o hz),fun id o' hn ho=>?_,fun aA id hn=>k.nl aA id (h.nl aA id hn),h.same.trans k.same,h.Bb.trans ?_,fun b o hw=>k.wr b o (h.wr b o hw),fun z b o hw=>k.xY z b o (h.xY z b o hw)⟩
 ·obtain ⟨h1,h2⟩:=k.b_ id o' (fun aA=>h.nl aA id (hn aA)) ho
  obtain ⟨h3,h4⟩:=h.b_ id o' hn h1
  exact⟨h3,h2.trans h4⟩
 ·exact k.Bb.mono h.dz
theorem Inv.YX(h:Inv w0 F0 Z0 n s a w ι Z){id:Nat}{o:ck}{i:bC}(hnl:¬(s.o id).live)(ht:iD (s.o id) (ι id) o i)
  (cK:eD w Z s ι w Z (s.bN id o) (bQ ι id i)→hJ w Z (s.bN id o) (bQ ι id i) i o) (hF:bF w0 F0 s w ι Z i.F) :
  Inv w0 F0 Z0 n (s.bN id o) a w (bQ ι id i) Z∧eD w Z s ι w Z (s.bN id o) (bQ ι id i):=by
 have hm:eD w Z s ι w Z (s.bN id o) (bQ ι id i):=by
  refine⟨fun j=>?_,fun _ _ h=>h,b5.refl _ _⟩
  show iD (s.o j) (ι j) (bQ s.o id o j) (bQ ι id i j)
  by_cases hj:id=j
  ·subst hj;rw [cw,cw];exact ht
  ·rw [cO hj,cO hj];exact .stay _ _
 refine⟨?_,hm⟩
 refine h.next hm (Ext.refl _ ah.none) (fun _ _ h=>h.elim) (fun _ _ h=>.inl h) ?_ ?_ (fun k=>(h.tmps k).move hm) h.size h.defers
 ·intro j hl hne
  by_cases hj:id=j
  ·subst hj
   rw [cw]
   refine⟨by show hJ _ _ _ _ _ (bQ s.o id o id);rw [cw];exact cK hm,hF.own,fun ku fT jo=>?_⟩
   rw [cO jo]
   have dO:(s.o ku).live:=by
    have:(bQ s.o id _ ku).live:=fT
    rwa [cO jo] at this
   exact hF.apart ku dO
  ·exact absurd ⟨cO hj,cO hj⟩ hne
 ·intro j hl
  by_cases hj:id=j
  ·subst hj;rw [cw];exact hF.c0
  ·rw [cO hj]
   have dO:(s.o j).live:=by
    have:(bQ s.o id _ j).live:=hl
    rwa [cO hj] at this
   exact h.c0 j dO
def nY(w0:World)(F0 Z0:ah)(n:cB)(s:aq)(a:Act)(w:World)(ι : Nat→bC)(Z:ah)(ar:aq)(eG:ah):Prop :=
 ∃ bd,Inv w0 F0 Z0 n ar a w bd Z∧gw false w Z s ι w Z ar bd (fun _ _=>True)∧(∀X,bF w0 F0 s w ι Z X→ah.apart X eG→bF w0 F0 ar w bd Z X)∧∀id,(s.o id).live→ar.o id=s.o id ∧ bd id = ι id
theorem s'(h:Inv w0 F0 Z0 n s a w ι Z)(eG:ah):nY w0 F0 Z0 n s a w ι Z s eG :=
 ⟨ι,h,⟨fun _ _ h=>h,fun _ _ h=>h,fun _ _ h=>h,fun _ _ _ h=>⟨h,rfl⟩,fun h=>by simp at h,b5.refl _ _,b5.refl _ _,fun _ _ h=>h,fun _ _ _ h=>h⟩,fun _ h _=>h,fun _ _=>⟨rfl,rfl⟩⟩
theorem H6(h:Inv w0 F0 Z0 n s a w ι Z){id:Nat}{o:ck}{i:bC}(hnl:¬(s.o id).live)(ho:∀o',o≠.b_ o')(ht:iD (s.o id) (ι id) o i)
  (cK:eD w Z s ι w Z (s.bN id o) (bQ ι id i)→hJ w Z (s.bN id o) (bQ ι id i) i o) (hF:bF w0 F0 s w ι Z i.F) :
  Inv w0 F0 Z0 n (s.bN id o) a w (bQ ι id i) Z∧gw false w Z s ι w Z (s.bN id o) (bQ ι id i) (fun _ _=>True)∧(∀X,bF w0 F0 s w ι Z X→ah.apart X i.F→bF w0 F0 (s.bN id o) w (bQ ι id i) Z X) ∧
  ∀j,(s.o j).live→(s.bN id o).o j=s.o j∧bQ ι id i j = ι j:=by
 obtain ⟨h1,hm⟩:=h.YX hnl ht cK hF
 refine⟨h1,⟨fun _ _=>aQ.move hm,fun _ _=>cf.move hm,fun _ _ h=>h,fun j o' _ hj=>?_,fun h=>by simp at h,b5.refl _ _,b5.refl _ _,fun _ _ h=>h,fun _ _ _ h=>h⟩,fun X hX ha=>⟨hX.own,fun j hl=>?_,hX.c0⟩,fun j hl=>?_⟩
 ·have hj':bQ s.o id o j=.b_ o':=hj
  by_cases hne:id=j
  ·subst hne;rw [cw] at hj';exact absurd hj' (ho o')
  ·rw [cO hne] at hj'
   exact⟨hj',cO hne⟩
 ·by_cases hne:id=j
  ·subst hne;rw [cw];exact ha
  ·rw [cO hne]
   have dO:(s.o j).live:=by
    have:(bQ s.o id _ j).live:=hl
    rwa [cO hne] at this
   exact hX.apart j dO
 ·have hne:id≠j:=fun e=>hnl (e ▸ hl)
  exact⟨cO hne,cO hne⟩
theorem x3(h:Inv w0 F0 Z0 n s a w ι Z){id:Nat}{o:ck}{i:bC}(hnl:¬(s.o id).live)(ho:∀o',o≠.b_ o')(ht:iD (s.o id) (ι id) o i)
  (cK:eD w Z s ι w Z (s.bN id o) (bQ ι id i)→hJ w Z (s.bN id o) (bQ ι id i) i o) (hF:bF w0 F0 s w ι Z i.F):nY w0 F0 Z0 n s a w ι Z (s.bN id o) i.F:=⟨_,H6 h hnl ho ht cK hF⟩
mutual
theorem cW.len:∀(t:ae) (m:ba) {cs:List a8} {vs:List Value} {H:ah},cW g w Z s ι t m cs vs H→vs.length=t.size
 | .int _,_,_,_,_,hk=>by simp only [cW] at hk;rw [hk.2];rfl
 | .bool,_,_,_,_,hk=>by simp only [cW] at hk;rw [hk.2];rfl
 | .str,_,_,_,_,hk=>by simp only [cW] at hk;rw [hk.2];rfl
 | .raw,_,_,_,_,hk=>by simp only [cW] at hk;rw [hk.2];rfl
 | .sl t,.R,_,_,_,hk=>by simp only [cW] at hk
 | .sl t,.S _,_,_,_,hk=>by simp only [cW] at hk
 | .sl t,.O e,_,_,_,hk=>by simp only [cW] at hk;obtain ⟨c,v,_,rfl,_⟩:=hk;rfl
 | .st aj,m,_,_,_,hk=>by simp only [cW] at hk;simpa only [ae.size] using fr.len aj m.parts hk
theorem fr.len:∀(aj:ay) (m:cS) {cs:List a8} {vs:List Value} {H:ah},fr g w Z s ι aj m cs vs H→vs.length=aj.size
 | .nil,_,_,_,_,hk=>by simp only [fr] at hk;rw [hk.2];rfl
 | .cons t aj,m,_,_,_,hk=>by
  simp only [fr] at hk
  obtain ⟨c1,gf,v1,v2,H1,H2,_,rfl,h1,h2,_⟩:=hk
  rw [List.length_append,cW.len t m.ag h1,fr.len aj m.dt h2];rfl
end
mutual
theorem ae.x4:∀(t:ae) (m:ba) (x:t.D) (c1 rest:List a8) (s:aq) (ι : Nat→bC) (r:List a8×aq) (us:List Value) (F H:ah),t.back x (c1++rest) s=some r→Inv w0 F0 Z0 n s a w ι Z →
  cW false w Z s ι t m c1 us H→t.al w Z m x us F→bF w0 F0 s w ι Z F→bF w0 F0 s w ι Z H→ah.apart F H→r.1=rest∧nY w0 F0 Z0 n s a w ι Z r.2 (F.or H)
 | .int k,m,x,c1,rest,s,ι,r,us,F,H,hb,h,hk,hr,hF,cC,ha=>by
  simp only [cW] at hk
  obtain ⟨hk,_⟩:=hk
  match c1,hk with
  | [c],_ =>
   simp only [ae.back,List.cons_append,List.nil_append,Option.some.injEq] at hb
   subst hb;exact⟨rfl,s' h _⟩
 | .bool,m,x,c1,rest,s,ι,r,us,F,H,hb,h,hk,hr,hF,cC,ha=>by
  simp only [cW] at hk
  obtain ⟨hk,_⟩:=hk
  match c1,hk with
  | [c],_ =>
   simp only [ae.back,List.cons_append,List.nil_append,Option.some.injEq] at hb
   subst hb;exact⟨rfl,s' h _⟩
 | .str,m,x,c1,rest,s,ι,r,us,F,H,hb,h,hk,hr,hF,cC,ha=>by
  simp only [cW] at hk
  obtain ⟨hk,_⟩:=hk
  match c1,hk with
  | [c],_ =>
   simp only [ae.back,List.cons_append,List.nil_append,Option.some.injEq] at hb
   subst hb;exact⟨rfl,s' h _⟩
 | .raw,m,x,c1,rest,s,ι,r,us,F,H,hb,h,hk,hr,hF,cC,ha=>by
  simp only [cW] at hk
  obtain ⟨hk,_⟩:=hk
  match c1,hk with
  | [c],_ =>
   simp only [ae.back,List.cons_append,List.nil_append,Option.some.injEq] at hb
   subst hb;exact⟨rfl,s' h _⟩
 | .sl t,.R,x,c1,rest,s,ι,r,us,F,H,hb,h,hk,hr,hF,cC,ha=>by
  simp only [cW] at hk
 | .sl t,.S _,x,c1,rest,s,ι,r,us,F,H,hb,h,hk,hr,hF,cC,ha=>by
  simp only [cW] at hk
 | .sl t,.O e,x,c1,rest,s,ι,r,us,F,H,hb,h,hk,hr,hF,cC,ha=>by
  simp only [cW] at hk
  obtain ⟨c,v,rfl,rfl,hk⟩:=hk
  cases c with
  | nil u =>
   simp only [ae.back,List.cons_append,List.nil_append,Option.some.injEq] at hb
   subst hb;exact⟨rfl,s' h _⟩
  | ag id sub =>
   cases sub with
   | some=>exact hk.elim
   | none =>
    simp only at hk
    obtain ⟨ver,xs,A,k,rl,_,hl,hv,hk⟩:=hk
    simp only [ae.back,List.cons_append,List.nil_append] at hb
    cases ho:s.o id with
    | b_ er =>
     rw [ho] at hb
     obtain ⟨rfl,hcap,hh⟩:=hl er ho
     simp only at hb
     obtain ⟨y,aO,hb2⟩:=bf hb
     obtain ⟨e1,ta⟩:=gH aO
     have ta:x=y:=ta.symm
     subst ta
     obtain rfl:=aV hb2
     refine⟨rfl,?_⟩
     simp only [ae.al] at hr
     obtain ⟨oQ,k',k4,hr⟩:=hr
     rw [hv] at k4
     simp only [List.cons.injEq,Value.slice.injEq,and_true] at k4
     obtain ⟨rfl,hlen,rfl⟩:=k4
     have lh:=x3 h (id:=id) (o:=.row t e (ver+1) x) (i:=⟨(ι id).base,(ι id).cap,F.or H⟩) (by rw [ho];exact fun h=>h) (fun o'=>by simp) (by rw [ho];exact .q9 _ _ _ _ _ _ _ _ _ (by omega) hlen.symm rfl rfl) ?_ (hF.or cC)
     ·exact lh
     intro hm
     rcases hk with⟨rfl,oV⟩ | ⟨b,o,et,H7,YP,hA,hwr,gY⟩
     ·left
      refine⟨List.eq_nil_of_length_eq_zero (by rw [← hlen];rfl),?_⟩
      show(ι id).cap=0
      rw [hcap,oV]
     ·right
      refine⟨at_ b o,et _ ho,?_⟩
      rcases hr with⟨rfl,rfl⟩ | ⟨⟨b',o',sp⟩,oU,hr⟩
      ·refine⟨rfl,Nat.zero_le _,?_,?_,ah.none,trivial,fun _ _ h=>h,fun _ _ h=>h.elim⟩
       ·show ∀j,j<(ι id).cap*t.size→_
        rw [hcap];exact hwr
       ·show ∀j,j<(ι id).cap*t.size→_
        rw [hcap];exact fun j hj=>.inr (gY j (by omega) hj)
      ·have hx0:=hr.cap
       by_cases hk0:k=0
       ·subst hk0
        have:x=[]:=List.eq_nil_of_length_eq_zero (by omega)
        subst this
        refine⟨rfl,Nat.zero_le _,?_,?_,ah.none,trivial,fun _ _ h=>h,fun _ _ h=>h.elim⟩
        ·show ∀j,j<(ι id).cap*t.size→_
         rw [hcap];exact hwr
        ·show ∀j,j<(ι id).cap*t.size→_
         rw [hcap];exact fun j hj=>.inr (gY j (by omega) hj)
       ·have hA:=hA.resolve_left hk0
        rw [oU] at hA
        simp only [at_,Option.some.injEq,Addr.mk.injEq] at hA
        obtain ⟨rfl,rfl,rfl⟩:=hA
        obtain ⟨G,g1,g2,g3⟩:=hr.row
        refine⟨rfl,?_,?_,?_,G,g1,?_,fun b o aA=>.inl (g3 b o aA)⟩
        ·show x.length≤(ι id).cap
         rw [hcap,← hlen];exact H7
        ·show ∀j,j<(ι id).cap*t.size→_
         rw [hcap];exact hwr
        ·show ∀j,j<(ι id).cap*t.size→_
         rw [hcap]
         intro j hj
         by_cases lj:j<k*t.size
         ·exact .inl (hr.inF j lj)
         ·exact .inr (gY j (by omega) hj)
        ·show ∀j,j<(ι id).cap*t.size→_
         rw [hcap]
         intro j hj aA
         by_cases lj:j<k*t.size
         ·exact g2 j lj aA
         ·exact ha _ _ (g3 _ _ aA) (gY j (by omega) hj)
    | _=>rw [ho] at hb;simp at hb
  | bW u dp cr xs =>
   simp only at hk
   obtain ⟨p,i,T,ver,ys,b,o,rl,rfl,eL,_,hl,kA,rfl,YY⟩:=hk
   simp only [ae.back,List.cons_append,List.nil_append] at hb
   obtain ⟨s1,la,hb2⟩:=bf hb
   obtain rfl:=aV hb2
   simp only [vd,eL] at la
   cases ho:s.o p.id with
   | b_ er =>
    rw [ho] at la
    obtain ⟨rfl,et,hcap⟩:=hl er ho
    simp only at la
    obtain ⟨z,hz,la⟩:=bf la
    obtain rfl:=aV la
    refine⟨rfl,?_⟩
    exact x3 h (id:=p.id) (o:=.row T T.own (ver+1) (ys.set i z)) (i:=⟨(ι p.id).base,(ι p.id).cap,F.or H⟩) (by rw [ho];exact fun h=>h) (fun o'=>by simp) (by rw [ho];exact .q9 _ _ _ _ _ _ _ _ _ (by omega) (by simp) rfl rfl)
     (fun hm=>.inr ⟨at_ b o,et,by
      have:=YY w Z F x z (b5.refl _ _) hr ha hz
      rw [← hcap] at this
      exact this⟩) (hF.or cC)
   | _=>rw [ho] at la;simp at la
  | _=>exact hk.elim
 | .st aj,m,x,c1,rest,s,ι,r,us,F,H,hb,h,hk,hr,hF,cC,ha=>by
  simp only [ae.back] at hb
  simp only [cW] at hk
  simp only [ae.al] at hr
  exact ay.x4 aj m.parts x c1 rest s ι r us F H hb h hk hr hF cC ha
theorem ay.x4:∀(aj:ay) (m:cS) (x:aj.D) (c1 rest:List a8) (s:aq) (ι : Nat→bC) (r:List a8×aq) (us:List Value) (F H:ah),aj.back x (c1++rest) s=some r→Inv w0 F0 Z0 n s a w ι Z →
  fr false w Z s ι aj m c1 us H→aj.al w Z m x us F→bF w0 F0 s w ι Z F→bF w0 F0 s w ι Z H→ah.apart F H→r.1=rest∧nY w0 F0 Z0 n s a w ι Z r.2 (F.or H)
 | .nil,m,x,c1,rest,s,ι,r,us,F,H,hb,h,hk,hr,hF,cC,ha=>by
  simp only [fr] at hk
  obtain ⟨rfl,rfl⟩:=hk
  simp only [ay.back,List.nil_append,Option.some.injEq] at hb
  subst hb
  exact⟨rfl,s' h _⟩
 | .cons t aj,m,x,c1,rest,s,ι,r,us,F,H,hb,h,hk,hr,hF,cC,ha=>by
  simp only [fr] at hk
  obtain ⟨d1,d2,v1,v2,H1,H2,rfl,rfl,k1,k2,kB,iJ,gY⟩:=hk
  simp only [ay.al] at hr
  obtain ⟨us1,us2,G1,G2,he,bB,cc,oW,eW,gK⟩:=hr
  have hlen:v1.length=us1.length:=by rw [cW.len t m.ag k1,(ae.al.len t m.ag bB).1]
  obtain ⟨rfl,rfl⟩:=List.append_inj he hlen
  simp only [ay.back,List.append_assoc] at hb
  obtain ⟨q,hq,hb⟩:=bf hb
  obtain ⟨e1,dv,i1,rq,fs,x5⟩:=ae.x4 t m.ag x.1 d1 (d2++rest) s ι q v1 G1 H1 hq h k1 bB (hF.sub eW) (cC.sub iJ) (fun b o h1 h2=>ha b o (eW b o h1) (iJ b o h2))
  rw [e1] at hb
  obtain ⟨e2,ep,i2,mX,l0,mY⟩:=ay.x4 aj m.dt x.2 d2 rest q.2 dv r v2 G2 H2 hb i1 (fr.move (rq.mono fun _ _ _=>trivial) (fun _ _ h=>h) aj m.dt k2) cc
   (fs G2 (hF.sub gK) (by rintro b o h1 (h2 | h2);exact oW b o h2 h1;exact ha b o (gK b o h1) (iJ b o h2)))
   (fs H2 (cC.sub gY) (by rintro b o h1 (h2 | h2);exact ha b o (eW b o h2) (gY b o h1);exact kB b o h2 h1))
   (fun b o h1 h2=>ha b o (gK b o h1) (gY b o h2))
  refine⟨e2,ep,i2,rq.trans mX,fun X hX ft=>l0 X (fs X hX ?_) ?_,fun id hl=>?_⟩
  ·rintro b o h1 (h2 | h2)
   ·exact ft b o h1 (.inl (eW b o h2))
   ·exact ft b o h1 (.inr (iJ b o h2))
  ·rintro b o h1 (h2 | h2)
   ·exact ft b o h1 (.inl (gK b o h2))
   ·exact ft b o h1 (.inr (gY b o h2))
  ·obtain ⟨ed,d_⟩:=x5 id hl
   obtain ⟨fU,jq⟩:=mY id (ed ▸ hl)
   exact⟨fU.trans ed,jq.trans d_⟩
end
end
end Go.LM
namespace Go.LM
section
variable{P:Program}{Q:Exit→Act→World→Prop}
variable{g:Bool}{w0:World}{F0 Z0:ah}{n:cB}{s ar:aq}{a b6:Act}{w w' b7:World}{ι bd ep:Nat→bC}{Z Z' bK:ah}
theorem k6.held(h:k6 s ι ar bd)(H:ah):gw false w Z s ι w Z ar bd H:=by
 have hm:eD w Z s ι w Z ar bd:=h.ec
 refine⟨fun _ _=>aQ.move hm,fun _ _=>cf.move hm,fun _ _ h=>h,fun id o' _ ho=>?_,fun h=>by simp at h,b5.refl _ _,b5.refl _ _,fun _ _ h=>h,fun _ _ _ h=>h⟩
 by_cases hn:s.o id=.none
 ·exact absurd ho (h.nl id o' hn)
 ·obtain ⟨h1,h2⟩:=h.o id hn
  exact⟨by rw [← h1,ho],h2⟩
theorem x6{dp:List (Nat×Nat)}(hl:∀d,d∈dp→(s.o d.1).live)(hk:∀id,(s.o id).live→ar.o id=s.o id ∧ bd id = ι id):(∀d,d∈dp→(ar.o d.1).live)∧db bd dp=db ι dp:=by
 refine⟨fun d ag=>by rw [(hk d.1 (hl d ag)).1];exact hl d ag,?_⟩
 funext b o
 apply propext
 constructor
 ·rintro ⟨d,ag,hf⟩;exact⟨d,ag,by rw [← (hk d.1 (hl d ag)).2];exact hf⟩
 ·rintro ⟨d,ag,hf⟩;exact⟨d,ag,by rw [(hk d.1 (hl d ag)).2];exact hf⟩
theorem k6.keeps(h:k6 s ι ar bd):∀id,(s.o id).live→ar.o id=s.o id ∧ bd id = ι id:=fun id hl=>h.o id (fun e=>by rw [e] at hl;exact hl)
theorem bF.db{F:ah}{dp:List (Nat×Nat)}(hF:bF w0 F0 s w ι Z F)(hl:∀d,d∈dp→(s.o d.1).live):ah.apart F (LM.db ι dp):=by
 rintro b o h ⟨d,ag,hf⟩
 exact hF.apart d.1 (hl d ag) b o h hf
theorem nY.trans{s1 s2:aq}{dv:Nat→bC}{Pv Pw eG:ah}(h1:Inv w0 F0 Z0 n s1 a w dv Z)(hh:gw false w Z s ι w Z s1 dv (fun _ _=>True))(hf:∀X,bF w0 F0 s w ι Z X→ah.apart X Pv→bF w0 F0 s1 w dv Z X)
  (hl:∀id,(s.o id).live→s1.o id=s.o id ∧ dv id = ι id) (k:nY w0 F0 Z0 n s1 a w dv Z s2 Pw) (gy:ah.sub (Pv.or Pw) eG):nY w0 F0 Z0 n s a w ι Z s2 eG:=by
 obtain ⟨ep,i2,mX,l0,mY⟩:=k
 refine⟨ep,i2,hh.trans mX,fun X hX ft=>l0 X (hf X hX fun b o x y=>ft b o x (gy b o (.inl y))) fun b o x y=>ft b o x (gy b o (.inr y)),fun id b3=>?_⟩
 obtain ⟨ed,d_⟩:=hl id b3
 obtain ⟨fU,jq⟩:=mY id (ed ▸ b3)
 exact⟨fU.trans ed,jq.trans d_⟩
theorem h6.mono(hZ:ah.sub Z Z'):∀(ps:List bx) {us:List Value} {x:(bx.dU ps).D} {F F':ah},ah.sub F F'→h6 w Z ps us x F→h6 w Z' ps us x F'
 | [],_,_,_,_,_,_=>trivial
 | .mut t m m' :: ps,_,_,_,_,hF,⟨b,o,vs,aT,G,H,h1,h2,h3,h4,a7,bj,bE,c3⟩=>⟨b,o,vs,aT,G,H,h1,h2,ae.al.mono hZ _ _ (fun _ _ h=>h) h3,h6.mono hZ ps (fun _ _ h=>h) h4,a7,bj,fun b o h=>hF b o (bE b o h),fun b o h=>hF b o (c3 b o h)⟩
 | .gU t m :: ps,_,_,_,_,hF,⟨vs,aT,G,H,h1,h2,h3,h4,a7,bj⟩=>⟨vs,aT,G,H,h1,ae.al.mono hZ _ _ (fun _ _ h=>h) h2,h6.mono hZ ps (fun _ _ h=>h) h3,h4,fun b o h=>hF b o (a7 b o h),fun b o h=>hF b o (bj b o h)⟩
 | .val _ _ :: ps,_,_,_,_,hF,⟨u,aT,h1,h2⟩=>⟨u,aT,h1,h6.mono hZ ps hF h2⟩
 | .gV _ :: ps,_,_,_,_,hF,⟨u,aT,h1,h2⟩=>⟨u,aT,h1,h6.mono hZ ps hF h2⟩
 | .ref _ :: ps,_,_,_,_,hF,⟨u,aT,h1,h2⟩=>⟨u,aT,h1,h6.mono hZ ps hF h2⟩
 | .fn _ _ :: ps,_,_,_,_,hF,⟨u,aT,h1,h2⟩=>⟨u,aT,h1,h6.mono hZ ps hF h2⟩
theorem rr{dp:List (Nat×Nat)} : ∀(ps:List bx) (vs:List a6) (us:List Value) (x:(bx.dU ps).D) (s:aq) (ι : Nat→bC) (j:Nat) (q:aq×Nat) (F H:ah),lL dp ps vs x s j=some q→Inv w0 F0 Z0 n s a w ι Z →
  eQ false w Z s ι ps vs us H→h6 w (Z.or (db ι dp)) ps us x F→bF w0 F0 s w ι Z F→bF w0 F0 s w ι Z H→ah.apart F H→(∀d,d∈dp→(s.o d.1).live∧ek s d)→nY w0 F0 Z0 n s a w ι Z q.1 (F.or H)
 | [],vs,us,x,s,ι,j,q,F,H,hu,h,hk,hr,hF,cC,ha,ag=>by
  simp only [lL,Option.some.injEq] at hu
  subst hu
  exact s' h _
 | .val t m :: ps,vs,us,x,s,ι,j,q,F,H,hu,h,hk,hr,hF,cC,ha,ag=>by
  obtain ⟨v,bD,u,aT,rfl,rfl,hk⟩:=hk
  obtain ⟨hO,us2,he,hr⟩:=hr
  simp only [List.cons.injEq] at he
  obtain ⟨rfl,rfl⟩:=he
  exact rr ps bD aT x s ι j q F H (by simpa only [lL] using hu) h hk hr hF cC ha ag
 | .gV t :: ps,vs,us,x,s,ι,j,q,F,H,hu,h,hk,hr,hF,cC,ha,ag=>by
  obtain ⟨v,bD,u,aT,rfl,rfl,hk⟩:=hk
  obtain ⟨hO,us2,he,hr⟩:=hr
  simp only [List.cons.injEq] at he
  obtain ⟨rfl,rfl⟩:=he
  exact rr ps bD aT x s ι j q F H (by simpa only [lL] using hu) h hk hr hF cC ha ag
 | .ref t :: ps,vs,us,x,s,ι,j,q,F,H,hu,h,hk,hr,hF,cC,ha,ag=>by
  obtain ⟨v,bD,u,aT,rfl,rfl,hk⟩:=hk
  obtain ⟨hO,us2,he,hr⟩:=hr
  simp only [List.cons.injEq] at he
  obtain ⟨rfl,rfl⟩:=he
  exact rr ps bD aT x s ι j q F H (by simpa only [lL] using hu) h hk hr hF cC ha ag
 | .fn _ _ :: ps,vs,us,x,s,ι,j,q,F,H,hu,h,hk,hr,hF,cC,ha,ag=>by
  obtain ⟨v,bD,u,aT,rfl,rfl,hk⟩:=hk
  obtain ⟨hO,us2,he,hr⟩:=hr
  simp only [List.cons.injEq] at he
  obtain ⟨rfl,rfl⟩:=he
  exact rr ps bD aT x s ι j q F H (by simpa only [lL] using hu) h hk hr hF cC ha ag
 | .gU t m :: ps,vs,us,x,s,ι,j,q,F,H,hu,h,hk,hr,hF,cC,ha,ag=>by
  obtain ⟨v,bD,u,aT,cs,H1,H2,rfl,rfl,hcs,rfl,k1,k2,kB,iJ,gY⟩:=hk
  obtain ⟨ws,us2,G1,G2,he,bB,cc,oW,eW,gK⟩:=hr
  simp only [List.cons.injEq] at he
  obtain ⟨rfl,rfl⟩:=he
  simp only [lL,hcs] at hu
  obtain ⟨r,hb,hu⟩:=bf hu
  have hl:=ae.al.len t _ bB
  rw [Hp hl.1 hl.2] at k1
  have H8:t.al w Z t.own x.1 ws G1:=sQ t bB
  obtain ⟨e1,dv,i1,rq,fs,x5⟩:=ae.x4 t t.own x.1 cs [] s ι r ws G1 H1 (by rw [List.append_nil];exact hb) h k1 H8 (hF.sub eW) (cC.sub iJ) (fun b o x y=>ha b o (eW b o x) (iJ b o y))
  have hdl:=x6 (dp:=dp) (fun d hm=>(ag d hm).1) x5
  have x7:=rr ps bD aT x.2 r.2 dv j q G2 H2 hu i1 (eQ.move (rq.mono fun _ _ _=>trivial) (fun _ _ h=>h) ps k2) (by rw [hdl.2];exact cc)
   (fs G2 (hF.sub gK) (by rintro b o x (y | y);exact oW b o y x;exact ha b o (gK b o x) (iJ b o y)))
   (fs H2 (cC.sub gY) (by rintro b o x (y | y);exact ha b o (eW b o y) (gY b o x);exact kB b o y x))
   (fun b o x y=>ha b o (gK b o x) (gY b o y)) (fun d hm=>⟨hdl.1 d hm,by have:=(ag d hm).2;unfold ek known j7 at *;rw [(x5 d.1 (ag d hm).1).1];exact this⟩)
  refine nY.trans i1 rq fs x5 x7 ?_
  rintro b o ((y | y) | (y | y))
  ·exact .inl (eW b o y)
  ·exact .inr (iJ b o y)
  ·exact .inl (gK b o y)
  ·exact .inr (gY b o y)
 | .mut t m m' :: ps,vs,us,x,s,ι,j,q,F,H,hu,h,hk,hr,hF,cC,ha,ag=>by
  obtain ⟨p,bD,u,aT,H1,H2,rfl,rfl,k1,k2,kB,iJ,gY⟩:=hk
  obtain ⟨b,o,ws,us2,G,fG,he,cl,bB,cc,oW,rp,eW,gK⟩:=hr
  simp only [List.cons.injEq] at he
  obtain ⟨rfl,rfl⟩:=he
  have hGF:ah.sub G F:=fun b o x=>eW b o (.inl x)
  have YZ:ah.sub (ah.run b o t.size) F:=fun b o x=>eW b o (.inr x)
  have sV:=ae.al.len t _ bB
  simp only [lL] at hu
  cases ho:s.o p.id with
  | b_ er =>
   rw [ho] at hu
   cases eL:p.fa with
   | none =>
    rw [eL] at hu
    cases er with
    | var ver old =>
     simp only at hu
     obtain ⟨r,hx,hu⟩:=bf hu
     rcases k1 with k1 | ⟨_,_,_,_,_,_,_,_,_,_,_,_,hk2,_⟩
     case inr=>rw [eL] at hk2;simp at hk2
     obtain ⟨mM,akv,b',o',Bk,_,hl,_,iW,hle,Px,hwr,Bl,hcell⟩:=k1
     obtain ⟨bU,et⟩:=hl _ ho
     simp only [ck.var.injEq] at bU
     obtain ⟨rfl,rfl⟩:=bU
     simp only [Value.pointer.injEq,Option.some.injEq,at_,Addr.mk.injEq,and_true] at iW
     obtain ⟨rfl,rfl⟩:=iW
     obtain ⟨dv,i1,iK,c1,fs⟩:=ae.nO t m' dp x.1 s ι j r ws G hx h bB (hF.sub hGF) ((hF.sub hGF).db fun d hm=>(ag d hm).1) (fun d hm=>(ag d hm).2)
     obtain ⟨hs1,Y0⟩:=iK.o p.id (by rw [ho];simp)
     have hcl:=c1.len
     have hol:=Px.len
     have akw:=sV.1
     have Y1:=iK.keeps
     have H9:bF w0 F0 r.2.1 w dv Z ((ah.run b (o'+p.off) t.size).or H1):=(fs _ (hF.sub YZ) (fun b o x y=>rp b o y x)).or (fs _ (cC.sub iJ) (fun b o x y=>ha b o (hGF b o y) (iJ b o x)))
     have lh:=x3 i1 (id:=p.id) (o:=.var (ver+1) (old.take p.off++r.1++old.drop (p.off+t.size))) (i:=⟨(dv p.id).base,(dv p.id).cap,(ah.run b (o'+p.off) t.size).or H1⟩)
      (by rw [hs1,ho];exact fun h=>h) (fun o'=>by simp) (by rw [hs1,ho];exact .xI _ _ _ _ _ _ (by omega) rfl) (fun hm=>by
       refine⟨at_ b o',da Bk p.off ws,by rw [Y0];exact et,rfl,?_,?_,?_⟩
       ·have Y2:bG w Z r.2.1 dv old Bk:=Px.move iK.ec
        have:=(bG.da Y2 c1 p.off).move hm
        rwa [show p.off+r.1.length=p.off+t.size by omega] at this
       ·intro i v hv
        unfold da at hv
        show w.cell? (at_ b (o'+i))=some v
        by_cases h1:i<p.off
        ·rw [List.append_assoc,List.getElem?_append_left (by simp;omega),List.getElem?_take,if_pos h1] at hv
         exact hcell i v hv (.inl h1)
        ·by_cases h2:i<p.off+t.size
         ·rw [List.getElem?_append_left (by simp;omega),List.getElem?_append_right (by simp;omega)] at hv
          simp only [List.length_take] at hv
          have:=cl _ v hv
          rwa [show o'+p.off +(i-min p.off Bk.length)=o'+i by omega] at this
         ·rw [List.getElem?_append_right (by simp;omega)] at hv
          simp only [List.length_append,List.length_take,List.getElem?_drop] at hv
          rw [show p.off+ws.length +(i-(min p.off Bk.length+ws.length))=i by omega] at hv
          exact hcell i v hv (.inr (by omega))
       ·intro i hi
        have c5:i<old.length:=by simp only [List.length_append,List.length_take,List.length_drop] at hi;omega
        refine⟨hwr i c5,?_⟩
        show(ah.run b (o'+p.off) t.size).or H1 b (o'+i)
        by_cases hh:i<p.off∨p.off+t.size≤i
        ·exact .inr (Bl i c5 hh)
        ·exact .inl ⟨rfl,by omega,by omega⟩) H9
     obtain ⟨ep,i2,mX,l0,mY⟩:=lh
     have H_:∀id,(s.o id).live→(r.2.1.bN p.id (.var (ver+1) (old.take p.off++r.1++old.drop (p.off+t.size)))).o id=s.o id ∧ ep id = ι id:=fun id b3=>by
      obtain ⟨ed,d_⟩:=Y1 id b3
      obtain ⟨fU,jq⟩:=mY id (ed ▸ b3)
      exact⟨fU.trans ed,jq.trans d_⟩
     have vN:gw false w Z s ι w Z (r.2.1.bN p.id (.var (ver+1) (old.take p.off++r.1++old.drop (p.off+t.size)))) ep (fun _ _=>True):=(iK.held _).trans mX
     have jK:∀X,bF w0 F0 s w ι Z X→ah.apart X ((G.or (ah.run b (o'+p.off) t.size)).or H1)→bF w0 F0 (r.2.1.bN p.id (.var (ver+1) (old.take p.off++r.1++old.drop (p.off+t.size)))) w ep Z X:=fun X hX ft=>by
      refine l0 X (fs X hX fun b o x y=>ft b o x (.inl (.inl y))) ?_
      rintro b o x (y | y)
      ·exact ft b o x (.inl (.inr y))
      ·exact ft b o x (.inr y)
     have hdl:=x6 (dp:=dp) (fun d hm=>(ag d hm).1) H_
     have x7:=rr ps bD aT x.2 _ ep r.2.2 q fG H2 hu i2 (eQ.move (vN.mono fun _ _ _=>trivial) (fun _ _ h=>h) ps k2) (by rw [hdl.2];exact cc)
      (jK fG (hF.sub gK) (by rintro b o x (y | y);exact oW b o y x;exact ha b o (gK b o x) (iJ b o y)))
      (jK H2 (cC.sub gY) (by rintro b o x (y | y);exact ha b o (eW b o y) (gY b o x);exact kB b o y x))
      (fun b o x y=>ha b o (gK b o x) (gY b o y)) (fun d hm=>⟨hdl.1 d hm,by have:=(ag d hm).2;unfold ek known j7 at *;rw [(H_ d.1 (ag d hm).1).1];exact this⟩)
     refine nY.trans i2 vN jK H_ x7 ?_
     rintro b o ((y | y) | (y | y))
     ·exact .inl (eW b o y)
     ·exact .inr (iJ b o y)
     ·exact .inl (gK b o y)
     ·exact .inr (gY b o y)
    | _=>simp at hu
   | some i =>
    rw [eL] at hu
    cases er with
    | row gx em ver xs =>
     simp only at hu
     obtain ⟨y,aO,hu⟩:=bf hu
     obtain ⟨e1,ta⟩:=AI aO
     subst e1
     have ta:x.1=y:=ta.symm
     subst ta
     rcases k1 with⟨_,_,_,_,_,_,_,hk2,_⟩ | ⟨lS,nX,k1⟩
     ·rw [eL] at hk2;simp at hk2
     obtain ⟨mM,fD,dW,b',o',c,G1,G2,_,hl,Py,hi,iW,H7,hwr,Bl,Y3,Y4,Y5,Pz,PA,PB⟩:=k1
     obtain ⟨bU,et,hcap⟩:=hl _ ho
     simp only [ck.row.injEq,heq_eq_eq,true_and] at bU
     obtain ⟨rfl,rfl,rfl⟩:=bU
     rw [eL] at Py
     obtain rfl:=aV Py
     simp only [Value.pointer.injEq,Option.some.injEq,at_,Addr.mk.injEq,and_true] at iW
     obtain ⟨rfl,rfl⟩:=iW
     subst lS
     have H8:t.al w Z m' x.1 ws G:=by rw [nX] at bB ⊢;exact sQ t bB
     have hcs:(i+1)*t.size≤c*t.size:=Nat.mul_le_mul_right _ (by omega)
     rw [Nat.add_one_mul] at hcs
     have H9:bF w0 F0 s w ι Z ((G.or (ah.run b (o'+i*t.size) t.size)).or H1):=(hF.sub eW).or (cC.sub iJ)
     have lh:=x3 h (id:=p.id) (o:=.row t m' (ver+1) (xs.set i x.1)) (i:=⟨(ι p.id).base,(ι p.id).cap,(G.or (ah.run b (o'+i*t.size) t.size)).or H1⟩)
      (by rw [ho];exact fun h=>h) (fun o'=>by simp) (by rw [ho];exact .q9 _ _ _ _ _ _ _ _ _ (by omega) (by simp) rfl rfl) (fun hm=>by
       right
       refine⟨at_ b o',et,rfl,?_,?_,?_,?_⟩
       ·show(xs.set i x.1).length≤(ι p.id).cap
        rw [List.length_set,hcap];exact H7
       ·show ∀j,j<(ι p.id).cap*t.size→_
        rw [hcap];exact hwr
       ·show ∀j,j<(ι p.id).cap*t.size→_
        rw [hcap]
        intro j hj
        show((G.or (ah.run b (o'+i*t.size) t.size)).or H1) b (o'+j)
        by_cases hh:j<i*t.size∨(i+1)*t.size≤j
        ·exact .inr (Bl j hj hh)
        ·rw [Nat.add_one_mul] at hh
         exact .inl (.inr ⟨rfl,by omega,by omega⟩)
       ·refine⟨G1.or (G.or G2),Row.Ba i hi Y3 H8 sV.1 cl Y4 (fun b o x y=>ha b o (hGF b o y) (iJ b o (Pz b o x))) Y5 (fun b o x y=>ha b o (hGF b o x) (iJ b o (PA b o y))),?_,?_⟩
        ·show ∀j,j<(ι p.id).cap*t.size→_
         rw [hcap]
         rintro j hj (aA | aA | aA)
         ·exact(PB j hj).1 aA
         ·by_cases hh:j<i*t.size∨(i+1)*t.size≤j
          ·exact ha _ _ (hGF _ _ aA) (iJ _ _ (Bl j hj hh))
          ·rw [Nat.add_one_mul] at hh
           exact rp _ _ aA ⟨rfl,by show o'+i*t.size≤o'+j;omega,by show o'+j<_;omega⟩
         ·exact(PB j hj).2 aA
        ·rintro b o (aA | aA | aA)
         ·exact .inr (Pz b o aA)
         ·exact .inl (.inl aA)
         ·exact .inr (PA b o aA)) H9
     obtain ⟨ep,i2,mX,l0,mY⟩:=lh
     have hdl:=x6 (dp:=dp) (fun d hm=>(ag d hm).1) mY
     have x7:=rr ps bD aT x.2 _ ep j q fG H2 hu i2 (eQ.move (mX.mono fun _ _ _=>trivial) (fun _ _ h=>h) ps k2) (by rw [hdl.2];exact cc)
      (l0 fG (hF.sub gK) (by rintro b o x (y | y);exact oW b o y x;exact ha b o (gK b o x) (iJ b o y)))
      (l0 H2 (cC.sub gY) (by rintro b o x (y | y);exact ha b o (eW b o y) (gY b o x);exact kB b o y x))
      (fun b o x y=>ha b o (gK b o x) (gY b o y)) (fun d hm=>⟨hdl.1 d hm,by have:=(ag d hm).2;unfold ek known j7 at *;rw [(mY d.1 (ag d hm).1).1];exact this⟩)
     refine nY.trans i2 mX l0 mY x7 ?_
     rintro b o ((y | y) | (y | y))
     ·exact .inl (eW b o y)
     ·exact .inr (iJ b o y)
     ·exact .inl (gK b o y)
     ·exact .inr (gY b o y)
    | _=>simp at hu
  | _=>rw [ho] at hu;simp at hu
end
end Go.LM
namespace Go.LM
section
variable{P:Program}{Q:Exit→Act→World→Prop}
variable{g:Bool}{w0:World}{F0 Z0:ah}{n:cB}{s ar:aq}{a b6:Act}{w w' b7:World}{ι bd ep:Nat→bC}{Z Z' bK:ah}
variable{E:Env}{o:Oper}{bs : Type}{K:aq→Option bs}{r : bs}{id:Nat}
theorem Bm:∀ {dp:List (Nat×Nat)},alive s dp=true→∀d,d∈dp→(s.o d.1).live
 | [],_,d,ag=>by simp at ag
 | (i,v) :: dp,h,d,ag=>by
  unfold alive at h
  rcases List.mem_cons.1 ag with rfl | ag
  ·cases ho:s.o i with
   | row=>trivial
   | var=>trivial
   | _=>rw [ho] at h;simp at h
  ·cases ho:s.o i with
   | row t em ver xs =>
    rw [ho] at h
    simp only at h
    cases hb:Nat.beq ver v
    ·rw [hb] at h;simp at h
    ·rw [hb] at h;exact Bm h d ag
   | var ver cs =>
    rw [ho] at h
    simp only at h
    cases hb:Nat.beq ver v
    ·rw [hb] at h;simp at h
    ·rw [hb] at h;exact Bm h d ag
   | _=>rw [ho] at h;simp at h
theorem aZ.append:∀ {x y:List a6} {us vs:List Value},aZ w Z s ι x us→aZ w Z s ι y vs→aZ w Z s ι (x++y) (us++vs)
 | [],_,_,_,h,k=>by simp only [aZ] at h;subst h;exact k
 | _ :: _,_,_,_,h,k=>by
  simp only [aZ] at h
  obtain ⟨u,aT,rfl,h1,h2⟩:=h
  simp only [List.cons_append,aZ]
  exact⟨u,_,rfl,h1,h2.append k⟩
theorem H':∀ {x:List a6} {us:List Value},nJ x=true→aZ w Z s ι x us→aZ w Z s ι (kX x) (fQ us)
 | [],_,_,h=>by simp only [aZ] at h;subst h;simp only [kX,fQ,aZ]
 | v :: l,_,hn,h=>by
  simp only [aZ] at h
  obtain ⟨u,aT,rfl,h1,h2⟩:=h
  have hl:nJ l=true:=by cases v <;> simp_all [nJ]
  have ih:=H' hl h2
  cases v with
  | fn f a b =>
   simp only [aQ] at h1
   obtain ⟨xs,ys,rfl,c6,eE⟩:=h1
   simp only [kX,fQ]
   exact(c6.append eE).append ih
  | aD=>simp [nJ] at hn
  | aU c =>
   simp only [kX]
   have:∀f a b,u≠.func f a b:=by
    rintro f a b rfl
    simp only [aQ] at h1
    cases c with
    | bW=>obtain ⟨_,⟨_,_,_,h⟩,_⟩:=h1;simp at h
    | ag=>obtain ⟨_,_,_,_,h,_⟩:=h1;simp at h
    | str=>obtain ⟨_,h,_⟩:=h1;simp at h
    | raw=>obtain ⟨h,_,_,_,h2⟩:=h1;rw [h2] at h;simp at h
    | _=>simp [cf] at h1
   cases u <;> first | exact ih | exact absurd rfl (this _ _ _)
  | h7 cs=>simp only [aQ] at h1;obtain ⟨_,rfl,_⟩:=h1;exact ih
  | ptr p=>simp only [aQ] at h1;obtain ⟨_,_,rfl,_⟩:=h1;exact ih
  | dg=>simp only [aQ] at h1;obtain ⟨_,_,_,_,rfl,_⟩:=h1;exact ih
  | gone=>simp [nJ] at hn
  | q0=>simp [nJ] at hn
  | jD=>simp only [aQ] at h1;subst h1;exact ih
  | kq=>simp only [aQ] at h1;subst h1;exact ih
  | may=>simp only [aQ] at h1;rcases h1 with⟨_,rfl⟩ | ⟨_,_,_,_,_,rfl,_⟩ <;> exact ih
  | opt=>simp only [aQ] at h1;rcases h1.2 with⟨_,rfl⟩ | ⟨_,_,rfl,_⟩ <;> exact ih
  | oE=>simp only [aQ] at h1;obtain ⟨_,rfl,_⟩:=h1;exact ih
mutual
theorem cW.l1:∀(t:ae) (m:ba) {cs:List a8} {vs:List Value} {H:ah},cW true w Z s ι t m cs vs H→cW false w Z s ι t m cs vs H
 | .int _,_,_,_,_,hk=>by simp only [cW] at hk ⊢;exact hk
 | .bool,_,_,_,_,hk=>by simp only [cW] at hk ⊢;exact hk
 | .str,_,_,_,_,hk=>by simp only [cW] at hk ⊢;exact hk
 | .raw,_,_,_,_,hk=>by simp only [cW] at hk ⊢;exact hk
 | .sl t,.R,_,_,_,hk=>by simp only [cW] at hk
 | .sl t,.S _,_,_,_,hk=>by simp only [cW] at hk
 | .sl t,.O e,_,_,_,hk=>by
  simp only [cW] at hk ⊢
  obtain ⟨c,v,h1,h2,hk⟩:=hk
  refine⟨c,v,h1,h2,?_⟩
  cases c with
  | nil=>exact hk
  | ag id sub =>
   cases sub with
   | some=>exact hk
   | none=>obtain ⟨ver,xs,A,k,c,_,h⟩:=hk;exact⟨ver,xs,A,k,c,fun h=>by simp at h,h⟩
  | bW u dp cr xs=>obtain ⟨p,i,T,ver,ys,b,o,c,h1,h2,_,h⟩:=hk;exact⟨p,i,T,ver,ys,b,o,c,h1,h2,fun h=>by simp at h,h⟩
  | _=>exact hk
 | .st aj,m,_,_,_,hk=>by simp only [cW] at hk ⊢;exact fr.l1 aj m.parts hk
theorem fr.l1:∀(aj:ay) (m:cS) {cs:List a8} {vs:List Value} {H:ah},fr true w Z s ι aj m cs vs H→fr false w Z s ι aj m cs vs H
 | .nil,_,_,_,_,hk=>by simp only [fr] at hk ⊢;exact hk
 | .cons t aj,m,_,_,_,hk=>by
  simp only [fr] at hk ⊢
  obtain ⟨c1,gf,v1,v2,H1,H2,h1,h2,h3,h4,a7⟩:=hk
  exact⟨c1,gf,v1,v2,H1,H2,h1,h2,cW.l1 t m.ag h3,fr.l1 aj m.dt h4,a7⟩
end
theorem eQ.l1:∀(ps:List bx) {vs:List a6} {us:List Value} {H:ah},eQ true w Z s ι ps vs us H→eQ false w Z s ι ps vs us H
 | [],_,_,_,_=>trivial
 | .mut t m m' :: ps,_,_,_,⟨p,bD,u,aT,H1,H2,h1,h2,h3,h4,a7⟩ =>
  ⟨p,bD,u,aT,H1,H2,h1,h2,h3.imp (fun⟨a,b,c,d,e,_,h⟩=>⟨a,b,c,d,e,fun h=>by simp at h,h⟩) (fun⟨c6,eE,a,b,c,d,e,f,g1,g2,_,h⟩=>⟨c6,eE,a,b,c,d,e,f,g1,g2,fun h=>by simp at h,h⟩),eQ.l1 ps h4,a7⟩
 | .gU t m :: ps,_,_,_,⟨v,bD,u,aT,cs,H1,H2,h1,h2,h3,nX,h4,a7,bj⟩=>⟨v,bD,u,aT,cs,H1,H2,h1,h2,h3,nX,cW.l1 t m h4,eQ.l1 ps a7,bj⟩
 | .val _ _ :: ps,_,_,_,⟨v,bD,u,aT,h1,h2,h3⟩=>⟨v,bD,u,aT,h1,h2,eQ.l1 ps h3⟩
 | .gV _ :: ps,_,_,_,⟨v,bD,u,aT,h1,h2,h3⟩=>⟨v,bD,u,aT,h1,h2,eQ.l1 ps h3⟩
 | .ref _ :: ps,_,_,_,⟨v,bD,u,aT,h1,h2,h3⟩=>⟨v,bD,u,aT,h1,h2,eQ.l1 ps h3⟩
 | .fn _ _ :: ps,_,_,_,⟨v,bD,u,aT,h1,h2,h3⟩=>⟨v,bD,u,aT,h1,h2,eQ.l1 ps h3⟩
theorem hP.mono(hZ:ah.sub Z Z'){ps:List bx}{us:List Value} : ∀(rs:List cU) {x:(cU.outs rs (bx.dU ps)).D} {dk:List Value} {F F':ah},ah.sub F F'→hP w Z ps us rs x dk F→hP w Z' ps us rs x dk F'
 | [],_,_,_,_,hF,⟨h1,h2⟩=>⟨h1,h6.mono hZ ps hF h2⟩
 | .val t m :: rs,_,_,_,_,hF,⟨vs,dX,G,H,h1,h2,h3,h4,a7,bj⟩=>⟨vs,dX,G,H,h1,ae.al.mono hZ _ _ (fun _ _ h=>h) h2,hP.mono hZ rs (fun _ _ h=>h) h3,h4,fun b o h=>hF b o (a7 b o h),fun b o h=>hF b o (bj b o h)⟩
 | .opt a off t :: rs,_,_,_,_,hF,⟨v,dX,h1,h2,h3⟩=>⟨v,dX,h1,h2,hP.mono hZ rs hF h3⟩
 | .any t :: rs,_,_,_,_,hF,⟨v,dX,h1,h2,h3⟩=>⟨v,dX,h1,h2,hP.mono hZ rs hF h3⟩
 | .oG t :: rs,_,_,_,_,hF,⟨v,dX,h1,h2,h3⟩=>⟨v,dX,h1,h2.imp (fun h=>h) fun⟨y,b,o,vs,k1,k2,k3,bh,bu⟩=>⟨y,b,o,vs,k1,k2,k3,ae.al.mono hZ _ _ (fun _ _ h=>h) bh,fun j hj=>hZ _ _ (bu j hj)⟩,hP.mono hZ rs hF h3⟩
 | .new t m :: rs,_,_,_,_,hF,⟨b,o,vs,dX,G,H,h1,h2,hw,h3,h4,a7,bj,bE,c3⟩=>⟨b,o,vs,dX,G,H,h1,h2,hw,ae.al.mono hZ _ _ (fun _ _ h=>h) h3,hP.mono hZ rs (fun _ _ h=>h) h4,a7,bj,fun b o h=>hF b o (bE b o h),fun b o h=>hF b o (c3 b o h)⟩
theorem iV.plus{p:Place}{b o:Nat}(k:Nat)(h:iV s ι p (at_ b o)):iV s ι { p with off:=p.off+k } (at_ b (o+k)):=by
 obtain ⟨_,h⟩:=h
 refine⟨rfl,?_⟩
 show match (s.o p.id).core with | .var _ _=>_ | .row .. => _ | _=>_
 cases hc:(s.o p.id).core with
 | var ver cs =>
  rw [hc] at h
  obtain ⟨h1,a0,h2,h3⟩:=h
  simp only [at_,Addr.mk.injEq,and_true] at h3
  exact⟨h1,a0,h2,by simp only [at_,Addr.mk.injEq,and_true];exact⟨h3.1,by omega⟩⟩
 | row t em ver xs =>
  rw [hc] at h
  obtain ⟨i,h1,h2,a0,h3,h4⟩:=h
  simp only [at_,Addr.mk.injEq,and_true] at h4
  exact⟨i,h1,h2,a0,h3,by simp only [at_,Addr.mk.injEq,and_true];exact⟨h4.1,by omega⟩⟩
 | _=>trivial
theorem aZ.get:∀ {x:List a6} {us:List Value} (i:Nat) {v:a6},aZ w Z s ι x us→x[i]?=some v→∃u,us[i]?=some u∧aQ w Z s ι v u
 | [],_,i,_,_,h=>by simp at h
 | y :: l,_,0,v,h,hv=>by
  simp only [aZ] at h
  obtain ⟨u,aT,rfl,h1,h2⟩:=h
  simp at hv;subst hv
  exact⟨u,rfl,h1⟩
 | y :: l,_,i+1,v,h,hv=>by
  simp only [aZ] at h
  obtain ⟨u,aT,rfl,h1,h2⟩:=h
  simp only [List.getElem?_cons_succ] at hv ⊢
  exact h2.get i hv
theorem aZ.held{g:Bool}{H:ah}(h:gw g w Z s ι w' Z' ar bd H):∀ {x:List a6} {us:List Value},aZ w Z s ι x us→aZ w' Z' ar bd x us
 | [],_,hx=>by simp only [aZ] at hx ⊢;exact hx
 | y :: l,_,hx=>by
  simp only [aZ] at hx ⊢
  obtain ⟨u,aT,h0,h1,h2⟩:=hx
  exact⟨u,aT,h0,h.az _ _ h1,aZ.held h h2⟩
theorem vO{bn:List (Nat×Nat)}{ps:List bx}{vs:List a6}{us:List Value} : ∀(rs:List cU) (x:(cU.outs rs (bx.dU ps)).D) (dk:List Value) (s:aq) (ι : Nat→bC) (j:Nat) (q:List a6×aq) (F H:ah),kW vs ps bn rs x s j=some q →
  Inv w0 F0 Z0 n s a w ι Z→eQ false w Z s ι ps vs us H→hP w (Z.or (db ι bn)) ps us rs x dk F→bF w0 F0 s w ι Z F→bF w0 F0 s w ι Z H→ah.apart F H→(∀d,d∈bn→(s.o d.1).live∧ek s d)→aZ w Z s ι vs us →
  ∃ bd,Inv w0 F0 Z0 n q.2 a w bd Z∧(∀x u,aQ w Z s ι x u→aQ w Z q.2 bd x u)∧aZ w Z q.2 bd q.1 dk
 | [],x,dk,s,ι,j,q,F,H,hu,h,hk,hr,hF,cC,ha,ag,hv=>by
  simp only [kW] at hu
  obtain ⟨r,hx,hu⟩:=bf hu
  obtain rfl:=aV hu
  obtain ⟨rfl,hr⟩:=hr
  obtain ⟨bd,dW,held,_⟩:=rr ps vs us x s ι j r F H hx h hk hr hF cC ha ag
  exact⟨bd,dW,held.az,by simp only [aZ]⟩
 | .val t m :: rs,x,dk,s,ι,j,q,F,H,hu,h,hk,hr,hF,cC,ha,ag,hv=>by
  simp only [kW] at hu
  obtain ⟨r,hx,hu⟩:=bf hu
  cases hw:jE t r.1 with
  | none=>rw [hw] at hu;simp at hu
  | some v =>
   rw [hw] at hu
   simp only at hu
   obtain ⟨p,au,hu⟩:=bf hu
   obtain rfl:=aV hu
   obtain ⟨ws,dX,G1,G2,rfl,bB,cc,oW,eW,gK⟩:=hr
   obtain ⟨dv,i1,iK,c1,fs⟩:=ae.nO t m bn x.1 s ι j r ws G1 hx h bB (hF.sub eW) ((hF.sub eW).db fun d hm=>(ag d hm).1) (fun d hm=>(ag d hm).2)
   have rq:gw false w Z s ι w Z r.2.1 dv (fun _ _=>True):=iK.held _
   have hdl:=x6 (dp:=bn) (fun d hm=>(ag d hm).1) iK.keeps
   have Ia:aZ w Z r.2.1 dv vs us:=aZ.move (iK.ec (w:=w) (Z:=Z)) hv
   obtain ⟨ep,i2,oX,gZ⟩:=vO rs x.2 dX r.2.1 dv r.2.2 p G2 H au i1 (eQ.move (rq.mono fun _ _ _=>trivial) (fun _ _ h=>h) ps hk) (by rw [hdl.2];exact cc)
    (fs G2 (hF.sub gK) (fun b o x y=>oW b o y x)) (fs H cC (fun b o x y=>ha b o (eW b o y) x)) (fun b o x y=>ha b o (gK b o x) y)
    (fun d hm=>⟨hdl.1 d hm,by have:=(ag d hm).2;unfold ek known j7 at *;rw [(iK.keeps d.1 (ag d hm).1).1];exact this⟩) Ia
   refine⟨ep,i2,fun x u hx=>oX x u (rq.az x u hx),?_⟩
   simp only [aZ]
   exact⟨_,dX,rfl,oX _ _ (oO hw c1),gZ⟩
 | .new t m :: rs,x,dk,s,ι,j,q,F,H,hu,h,hk,hr,hF,cC,ha,ag,hv=>by
  simp only [kW] at hu
  obtain ⟨r,hx,hu⟩:=bf hu
  obtain ⟨s1,hm,hu⟩:=bf hu
  obtain ⟨p,au,hu⟩:=bf hu
  obtain rfl:=aV hu
  obtain ⟨b3,rfl⟩:=p0 hm
  obtain ⟨b,o,ws,dX,G1,G2,rfl,cl,hwr,bB,cc,oW,rp,eW,gK⟩:=hr
  have hG:ah.sub G1 F:=fun b o x=>eW b o (.inl x)
  have dG:ah.sub (ah.run b o t.size) F:=fun b o x=>eW b o (.inr x)
  obtain ⟨dv,i1,iK,c1,fs⟩:=ae.nO t m bn x.1 s ι j r ws G1 hx h bB (hF.sub hG) ((hF.sub hG).db fun d hm=>(ag d hm).1) (fun d hm=>(ag d hm).2)
  have hl:=(ae.al.len t _ bB).1
  have hcl:=c1.len
  have jK:=fs _ (hF.sub dG) (fun b o x y=>rp b o y x)
  obtain ⟨i2,mX,l0,mY⟩:=H6 i1 (id:=r.2.2) (o:=.var 0 r.1) (i:=⟨some (at_ b o),0,ah.run b o t.size⟩) (by rw [b3];exact fun h=>h) (fun o'=>by simp) (by rw [b3];exact .made _ _ _) (fun hm=>by
   refine⟨at_ b o,ws,rfl,rfl,c1.move hm,cl,fun k hk=>⟨hwr k (by omega),rfl,by simp [at_],by simp [at_];omega⟩⟩) jK
  have held:gw false w Z s ι w Z _ _ (fun _ _=>True):=(iK.held _).trans mX
  have PC:∀id,(s.o id).live→(r.2.1.bN r.2.2 (.var 0 r.1)).o id=s.o id∧bQ dv r.2.2 ⟨some (at_ b o),0,ah.run b o t.size⟩ id = ι id:=fun id b8=>by
   obtain ⟨h1,h2⟩:=iK.keeps id b8
   obtain ⟨h3,h4⟩:=mY id (by rw [h1];exact b8)
   exact⟨h3.trans h1,h4.trans h2⟩
  have hdl:=x6 (dp:=bn) (fun d hm=>(ag d hm).1) PC
  have Ia:aZ w Z _ _ vs us:=aZ.held held hv
  have x8:∀X,bF w0 F0 s w ι Z X→ah.apart X (G1.or (ah.run b o t.size))→bF w0 F0 (r.2.1.bN r.2.2 (.var 0 r.1)) w (bQ dv r.2.2 ⟨some (at_ b o),0,ah.run b o t.size⟩) Z X:=fun X hX ft =>
   l0 X (fs X hX fun b o x y=>ft b o x (.inl y)) fun b o x y=>ft b o x (.inr y)
  obtain ⟨Ib,i3,PD,gZ⟩:=vO rs x.2 dX _ _ _ p G2 H au i2 (eQ.move (held.mono fun _ _ _=>trivial) (fun _ _ h=>h) ps hk) (by rw [hdl.2];exact cc)
   (x8 G2 (hF.sub gK) (fun b o x y=>oW b o y x)) (x8 H cC (fun b o x y=>ha b o (eW b o y) x)) (fun b o x y=>ha b o (gK b o x) y)
   (fun d hm=>⟨hdl.1 d hm,by have:=(ag d hm).2;unfold ek known j7 at *;rw [(PC d.1 (ag d hm).1).1];exact this⟩) Ia
  refine⟨Ib,i3,fun x u hx=>PD x u (held.az x u hx),?_⟩
  simp only [aZ]
  refine⟨_,dX,rfl,PD _ _ ?_,gZ⟩
  simp only [aQ]
  refine⟨by show bQ r.2.1.o r.2.2 _ r.2.2≠_;rw [cw];simp,_,rfl,rfl,?_⟩
  show match (bQ r.2.1.o r.2.2 _ r.2.2).core with | .var _ _=>_ | .row .. => _ | _=>_
  rw [cw]
  exact⟨rfl,at_ b o,by rw [cw],by simp [at_]⟩
 | .any t :: rs,x,dk,s,ι,j,q,F,H,hu,h,hk,hr,hF,cC,ha,ag,hv=>by
  simp only [kW] at hu
  obtain ⟨p,au,hu⟩:=bf hu
  obtain rfl:=aV hu
  obtain ⟨v,dX,rfl,Y6,cc⟩:=hr
  obtain ⟨ep,i2,oX,gZ⟩:=vO rs x dX s ι j p F H au h hk cc hF cC ha ag hv
  refine⟨ep,i2,oX,?_⟩
  simp only [aZ]
  exact⟨_,dX,rfl,by simp only [aQ];exact Y6,gZ⟩
 | .oG t :: rs,x,dk,s,ι,j,q,F,H,hu,h,hk,hr,hF,cC,ha,ag,hv=>by
  simp only [kW] at hu
  obtain ⟨p,au,hu⟩:=bf hu
  obtain rfl:=aV hu
  obtain ⟨v,dX,rfl,ho,cc⟩:=hr
  obtain ⟨ep,i2,oX,gZ⟩:=vO rs x.2 dX s ι j p F H au h hk cc hF cC ha ag hv
  refine⟨ep,i2,oX,?_⟩
  simp only [aZ]
  refine⟨v,dX,rfl,oX _ _ ?_,gZ⟩
  simp only [aQ]
  rcases ho with⟨h1,h2⟩ | ⟨y,b,o,bD,h1,h2,h3,h4,a7⟩
  ·exact .inl ⟨by rw [h1];rfl,h2⟩
  ·right
   rw [h1]
   refine⟨rfl,fun d hm=>(ag d hm).2,b,o,bD,h2,fun _=>?_⟩
   have hc:bG w Z s ι (t.cells bn none y) bD:=ae.pW t bn none (fun d hm=>(ag d hm).2) (fun _=>h4) ⟨_,_,_,h4⟩ .none
   refine⟨hc,h3,fun j hj=>?_⟩
   have hl:=(ae.al.len t _ h4).1
   have dO:=hc.len
   exact a7 j (by rw [show(J t [y] 0)=y from rfl] at hj;omega)
 | .opt lk off t :: rs,x,dk,s,ι,j,q,F,H,hu,h,hk,hr,hF,cC,ha,ag,hv=>by
  simp only [kW] at hu
  obtain ⟨p,au,hu⟩:=bf hu
  cases dR:pQ p.2 vs lk off with
  | none=>rw [dR] at hu;simp at hu
  | some id =>
   rw [dR] at hu
   simp only at hu
   cases l2:pR p.2 t id
   ·rw [l2] at hu;cases hu
   rw [l2] at hu
   simp only [cond_true] at hu
   obtain rfl:=aV hu
   obtain ⟨v,dX,rfl,ho,cc⟩:=hr
   obtain ⟨ep,i2,oX,gZ⟩:=vO rs x.2 dX s ι j p F H au h hk cc hF cC ha ag hv
   refine⟨ep,i2,oX,?_⟩
   simp only [aZ]
   refine⟨v,dX,rfl,?_,gZ⟩
   unfold pQ at dR
   cases mS:vs[lk]? with
   | none=>rw [mS] at dR;simp at dR
   | some kY =>
    rw [mS] at dR
    cases kY with
    | ptr pl =>
     simp only at dR
     cases c2:lK p.2 1 { pl with off:=pl.off+off } with
     | none=>rw [c2] at dR;simp at dR
     | some cs =>
      rw [c2] at dR
      have hcs:cs=[.ag id none]:=by
       split at dR
       ·rename_i h;obtain rfl:=aV dR;exact aV h
       ·simp at dR
      subst hcs
      obtain ⟨u,vP,ru⟩:=hv.get lk mS
      have ru:=oX _ _ ru
      simp only [aQ] at ru
      obtain ⟨jI,A,rfl,mZ⟩:=ru
      obtain ⟨b,o,sp⟩:=A
      have hsp:=mZ.1
      simp only at hsp
      subst hsp
      obtain ⟨pV,eC,ws,hA,hc1,hc2,x2⟩:=xL i2 c2 (iV.plus (b:=b) (o:=o) off mZ)
      simp only [at_,Addr.mk.injEq,and_true] at hA
      obtain ⟨rfl,rfl⟩:=hA
      match ws,hc1 with
      | [v0],hc1 =>
       obtain ⟨hk0,A,m,k,rfl,hh⟩:=hc1.1
       simp only [aQ]
       refine⟨hk0,?_⟩
       rcases ho with⟨h1,h2⟩ | ⟨h1,rj,eP,iF,dy,fF,c1,h2,h3,h4,a7⟩
       ·exact .inl ⟨h1,h2⟩
       ·right
        refine⟨h1,_,a7,rfl,?_⟩
        rw [vP] at h2
        simp only [Option.some.injEq,Value.pointer.injEq,at_,Addr.mk.injEq,and_true] at h2
        obtain ⟨rfl,rfl⟩:=h2
        have:=hc2.head
        rw [h3] at this
        simp only [Option.some.injEq,Value.slice.injEq] at this
        obtain ⟨rfl,rfl,rfl⟩:=this
        show match (p.2.o id).core with | .var _ _=>_ | .row .. => _ | _=>_
        unfold pR at l2
        cases bU:p.2.o id with
        | row u em ver xs =>
         rw [bU] at l2
         have:=ae.eq_of_beq _ _ l2
         subst this
         obtain ⟨c6,eE,h8,h9,h_⟩:=hh u em ver xs (k0 bU)
         have c6:fF=xs.length:=c6
         rcases h_ with h_ | ⟨a0,mN,mT⟩
         ·omega
         ·simp only [eb,Nat.zero_mul,Nat.add_zero,Option.some.injEq,at_,Addr.mk.injEq,and_true] at mT
          refine⟨_,rfl,by omega,a0,mN,?_⟩
          simp only [at_,Addr.mk.injEq,and_true]
          exact⟨mT.1,by omega⟩
        | _=>rw [bU] at l2;cases l2
    | _=>simp at dR
end
end Go.LM
namespace Go.LM
section
variable{P:Program}{Q:Exit→Act→World→Prop}
variable{g:Bool}{w0:World}{F0 Z0:ah}{n:cB}{s ar:aq}{a b6:Act}{w w' b7:World}{ι bd ep:Nat→bC}{Z Z' bK:ah}
variable{E:Env}{o:Oper}{bs : Type}{K:aq→Option bs}{r : bs}{id:Nat}
def Bn:List a6→a6
 | [v]=>v
 | l=>.oE l
theorem Calls.mono{P:Program}{f:FuncId}{args:Array Value}{w:World}{R iB:Ending→World→Prop}(h:Calls P f args w R)(dG:∀e w',R e w'→iB e w'):Calls P f args w iB:=by
 intro cs
 obtain ⟨e,w',m0,h1,h2⟩:=h cs
 exact⟨e,w',m0,dG e w' h1,h2⟩
theorem vH.mono{P:Program}{f:FuncId}{args:Array Value}{w:World}{R iB:Ending→World→Prop}(h:vH P f args w R)(dG:∀e w',R e w'→iB e w'):vH P f args w iB:=by
 rcases h with⟨h1,h2⟩ | ⟨v,w',h1,h2⟩
 ·exact .inl ⟨h1,Calls.mono h2 dG⟩
 ·exact .inr ⟨v,w',h1,dG _ _ h2⟩
def Bo(P:Program)(E:Env):Prop:=∀f key e,E.fns f key=some e→hD P f key e
theorem Y7{f:FuncId}{vs:List a6}{us:List Value}{K:a6→aq→Option bs}(dN:Bo P E)(h:Inv w0 F0 Z0 n s a w ι Z)(hv:aZ w Z s ι vs us)(hk:GO E id s f vs K=some r) :
  ∃(T:a6→aq→Prop),(∀v ar,T v ar→K v ar=some r)∧(∃v ar,T v ar)∧vH P f us.toArray w fun e w'=>∃u,e=.returned u∧∀v ar,T v ar→∃ bd Z',Inv w0 F0 Z0 n ar a w' bd Z'∧aQ w' Z' ar bd v u:=by
 unfold GO at hk
 cases hf:E.fns f (oI vs) with
 | none=>rw [hf] at hk;simp at hk
 | some e =>
  rw [hf] at hk
  simp only at hk
  cases hm:fS (oI vs) s e.ps (vs++kX vs) [] with
  | none=>rw [hm] at hk;simp at hk
  | some q =>
   obtain ⟨x,s1,bn⟩:=q
   rw [hm] at hk
   simp only at hk
   cases dQ:(alive s1 bn&&nJ vs)
   ·rw [dQ] at hk;simp at hk
   rw [dQ] at hk
   simp only [Bool.and_eq_true] at dQ
   obtain ⟨dQ,Ic⟩:=dQ
   simp only [cond_true] at hk
   obtain ⟨y,aO,hk⟩:=bf hk
   cases hu:kW (vs++kX vs) e.ps bn e.rs y s1 id with
   | none=>rw [hu] at hk;simp at hk
   | some q =>
    obtain ⟨l,s2⟩:=q
    rw [hu] at hk
    have Ie:=dN f _ e hf
    have hvc:=hv.append (H' Ic hv)
    obtain ⟨F,H,cp,i1,g1,bB,k1,f1,h1,a1,_,d1,_⟩:=p8 e.ps _ _ s Z [] _ hm h hvc (by simp)
    simp only at i1 g1 bB k1 f1 h1 d1
    have b8:=Bm dQ
    have hcall:=Ie.calls w (cp.or (db ι bn)) F x us y
     (by
      rintro b o (hz | ⟨d,ag,hf⟩)
      ·exact i1.iC b o hz
      ·exact(i1.own d.1 (b8 d ag) b o hf).2)
     (fun b o hf=>(f1.own b o hf).2)
     (by
      rintro b o hf (hz | hz)
      ·exact f1.c0 b o hf hz
      ·exact f1.db b8 b o hf hz) bB aO
    refine⟨fun eK ar=>eK=Bn l∧ar=s2,?_,⟨_,s2,rfl,rfl⟩,hcall.mono ?_⟩
    ·rintro eK ar ⟨rfl,rfl⟩
     clear hu
     match l,hk with
     | [],hk=>exact hk
     | [_],hk=>exact hk
     | _ :: _ :: _,hk=>exact hk
    ·rintro end_ w' ⟨u,rfl,⟨dk,Z',F',rfl,hx,iY,hz2,hf2,x9,gZ⟩⟩
     refine⟨_,rfl,?_⟩
     rintro eK ar ⟨rfl,rfl⟩
     let S:ah:=fun b o=>Z' b o∧(F b o∨w.heap.size≤b)
     have l3:=i1.A3 f1 hx
     have PE:∀(X:ah),(∀b o,X b o→(F b o∨w.heap.size≤b)∧b<w'.heap.size)→bF w0 F0 s1 w' ι cp X:=by
      intro X hX
      have hsz:=i1.ext.size
      refine⟨fun b o hb=>⟨?_,(hX b o hb).2⟩,fun id hl b o hb hi=>?_,fun b o hb hz=>?_⟩
      ·rcases (hX b o hb).1 with hf | hf
       ·exact(f1.own b o hf).1
       ·exact .inr (by omega)
      ·rcases (hX b o hb).1 with hf | hf
       ·exact f1.apart id hl b o hf hi
       ·have:=(i1.own id hl b o hi).2;omega
      ·rcases (hX b o hb).1 with hf | hf
       ·exact f1.c0 b o hf hz
       ·have:=i1.iC b o hz;omega
     have HJ:bF w0 F0 s1 w' ι cp S:=PE S (by
      rintro b o ⟨hz,hf⟩
      refine⟨hf,?_⟩
      rcases hz2 b o hz with h1 | h1
      ·have hsz:=hx.size
       rcases h1 with h1 | ⟨d,ag,h1⟩
       ·have:=i1.iC b o h1;omega
       ·have:=(i1.own d.1 (b8 d ag) b o h1).2;omega
      ·exact h1.2)
     have ew:=l3.freeze HJ
     have Ig:bF w0 F0 s1 w' ι (cp.or S) F':=(PE F' hf2).freeze (fun b o hb hs=>x9 b o hb hs.1)
     have cC:bF w0 F0 s1 w' ι (cp.or S) H:=(h1.ext hx).freeze (by
      rintro b o hb ⟨_,hf | hf⟩
      ·exact a1 b o hf hb
      ·have:=(h1.own b o hb).2;omega)
     have PF:ah.apart cp F:=fun b o hz hf=>f1.c0 b o hf hz
     have rm:eD w cp s1 ι w' (cp.or S) s1 ι := by
      refine⟨fun id=>.stay _ _,fun _ _ h=>.inl h,b5.iE hx i1.ra ?_⟩
      rintro b o (hz | ⟨id,hl,_,_,hf⟩) hs
      ·exact PF b o hz hs
      ·exact f1.apart id hl b o hs hf
     have vN:gw false w cp s1 ι w' (cp.or S) s1 ι H :=
      ⟨fun _ _=>aQ.move rm,fun _ _=>cf.move rm,rm.dz,fun _ _ _ h=>⟨h,rfl⟩,fun h=>by simp at h,b5.iE hx (fun b o hb=>(h1.own b o hb).2) (fun b o hb hf=>a1 b o hf hb),b5.iE hx i1.iC PF,fun b o hw=>hx.pN hw,fun z b o hw=>hx.j5 hw⟩
     have hvs1:aZ w' (cp.or S) s1 ι (vs++kX vs) (us++fQ us):=aZ.move rm (aZ.move g1.ec hvc)
     obtain ⟨ep,i2,_,cK⟩:=vO e.rs y dk s1 ι id (l,ar) F' H hu ew (eQ.move vN (fun _ _ h=>h) e.ps k1.l1) (hP.mono (by
      intro b o hz
      by_cases hc:(F b o∨w.heap.size≤b)
      ·exact .inl (.inr ⟨hz,hc⟩)
      ·rcases hz2 b o hz with h1 | h1
       ·rcases h1 with h1 | h1
        ·exact .inl (.inl h1)
        ·exact .inr h1
       ·exact absurd h1.1 hc) e.rs (fun _ _ h=>h) gZ) Ig cC (by
      intro b o hb hh
      rcases (hf2 b o hb).1 with hf | hf
      ·exact a1 b o hf hh
      ·have:=(h1.own b o hh).2;omega) (fun d ag=>⟨b8 d ag,d1 d ag⟩) hvs1
     refine⟨ep,_,i2,?_⟩
     show aQ w' _ ar ep (Bn l) (nW dk)
     simp only at cK
     clear hk hu
     match l,cK with
     | [],cK=>simp only [aZ] at cK;subst cK;simp only [Bn,aQ,nW];exact⟨[],rfl,by simp only [aZ]⟩
     | [v0],cK =>
      simp only [aZ] at cK
      obtain ⟨j',vu,rfl,h0,rfl⟩:=cK
      exact h0
     | v0 :: v1 :: l,cK =>
      have vQ:=cK
      simp only [aZ] at cK
      obtain ⟨j',vu,rfl,h0,kZ,us1,rfl,h1,h2⟩:=cK
      simp only [Bn,aQ,nW]
      exact⟨_,rfl,vQ⟩
theorem PG{m:Nat}{n:Int}{k:Nat}(hx:aN m n=some k):0≤n∧k=n.toNat:=by
 unfold aN at hx
 by_cases hc:0≤n∧n<(m:Int)
 ·rw [if_pos hc] at hx;exact⟨hc.1,(aV hx).symm⟩
 ·rw [if_neg hc] at hx;cases hx
theorem Bp{bs : Type}{r : bs} : ∀ {vs:List a6} {us:List Value} {K:List a6→Option bs},q3 s vs K=some r→aZ w Z s ι vs us→∃bD,K bD=some r∧aZ w Z s ι bD us
 | [],us,K,hk,hv=>⟨[],hk,hv⟩
 | v :: l,us,K,hk,hv=>by
  simp only [aZ] at hv
  obtain ⟨u,aT,rfl,h1,h2⟩:=hv
  have keep:(q3 s l fun l'=>K (v :: l'))=some r→∃bD,K bD=some r∧aZ w Z s ι bD (u :: aT):=fun hk=>by
   obtain ⟨l',k1,k2⟩:=Bp (K:=fun l'=>K (v :: l')) hk h2
   exact⟨v :: l',k1,by simp only [aZ];exact⟨u,aT,rfl,h1,k2⟩⟩
  cases v with
  | opt i n =>
   simp only [q3] at hk
   obtain ⟨k,hx,hk⟩:=bf hk
   obtain ⟨l',k1,k2⟩:=Bp (K:=fun l'=>K (.ptr ⟨i,some k,0⟩ :: l')) hk h2
   refine⟨_,k1,?_⟩
   simp only [aZ]
   refine⟨u,aT,rfl,?_,k2⟩
   simp only [aQ] at h1 ⊢
   obtain ⟨h0,rfl⟩:=PG hx
   obtain ⟨jI,⟨h3,_⟩ | ⟨h3,vR,rfl,h4⟩⟩:=h1
   ·omega
   ·exact⟨jI,vR,rfl,h4⟩
  | may b dp cs =>
   simp only [q3] at hk
   cases b
   ·cases hk
   obtain ⟨l',k1,k2⟩:=Bp (K:=fun l'=>K (.dg dp cs 0 :: l')) hk h2
   refine⟨_,k1,?_⟩
   simp only [aZ]
   refine⟨u,aT,rfl,?_,k2⟩
   simp only [aQ] at h1 ⊢
   rcases h1 with⟨h1,_⟩ | ⟨_,h1⟩
   ·cases h1
   ·exact h1
  | _=>exact keep hk
theorem Y8{f:FuncId}{vs:List a6}{us:List Value}{K:a6→aq→Option bs}(dN:Bo P E)(h:Inv w0 F0 Z0 n s a w ι Z)(hv:aZ w Z s ι vs us)(hk:GP E id s f vs K=some r) :
  ∃(T:a6→aq→Prop),(∀v ar,T v ar→K v ar=some r)∧(∃v ar,T v ar)∧vH P f us.toArray w fun e w'=>∃u,e=.returned u∧∀v ar,T v ar→∃ bd Z',Inv w0 F0 Z0 n ar a w' bd Z'∧aQ w' Z' ar bd v u:=by
 unfold GP at hk
 obtain ⟨bD,ee,k4⟩:=Bp hk hv
 exact Y7 dN h k4 ee
theorem Y9{c:Call}{bZ:Operand}(dN:Bo P E)(h:Inv w0 F0 Z0 n s a w ι Z)(ag:∀k,o.dst=some k→k<n)(ho:o.op=.call c)(hc:c.callee=.value bZ)(hk:cQ E id o s K=some r) :
  ∃ar,K ar=some r∧o.wp P a w (cV w0 F0 Z0 n ar) Q:=by
 unfold cQ at hk
 rw [ho] at hk
 simp only [hc] at hk
 have hvs:=s4 h c.args.toList
 have hf:=eT h bZ
 cases Bq:bT s bZ with
 | fn Ih first kU =>
  rw [Bq] at hk hf
  simp only at hk
  simp only [aQ] at hf
  obtain ⟨cm,cs,Ii,kx,hcs⟩:=hf
  have p9:aZ w Z s ι (first++c.args.toList.map (bT s)++kU) (cm++c.args.toList.map a.eval++cs):=(kx.append hvs).append hcs
  obtain ⟨T,Y_,⟨v,ar,bX⟩,vS⟩:=Y8 dN h p9 hk
  refine⟨_,Y_ v ar bX,?_⟩
  unfold Oper.wp
  have hrun:(execOp a.eval o).run P w=(callFunc Ih (cm++c.args.toList.map a.eval++cs).toArray).run P w:=by
   unfold execOp;rw [ho]
   simp only [run_bind,resolve,hc,Ii,Deferred.ofValue,run_pure,invoke]
   congr 2
   apply Array.ext'
   simp
  rw [hrun]
  rcases vS with⟨⟨fn,x_,Ij,iL⟩,vS⟩ | ⟨u,w',tb,gx,xT,hu⟩
  ·have Ik:(callFunc Ih (cm++c.args.toList.map a.eval++cs).toArray).run P w=.ok (.enter Ih (cm++c.args.toList.map a.eval++cs).toArray) w:=by
    simp only [callFunc,run_bind,run_pure,program,Sem.run,x_]
    rw [if_neg (by rw [iL];simp),if_neg (by rw [Ij];simp)]
    simp only [run_pure]
   rw [Ik,Oper.upon_enter]
   refine vS.mono ?_
   rintro e w' ⟨u,rfl,hu⟩
   obtain ⟨bd,Z',hinv,cK⟩:=hu v ar bX
   exact⟨bd,Z',hinv.dst cK ag⟩
  ·rw [tb,Oper.upon_value]
   cases xT
   obtain ⟨bd,Z',hinv,cK⟩:=hu v ar bX
   exact⟨bd,Z',hinv.dst cK ag⟩
 | _=>rw [Bq] at hk;simp at hk
structure jt(P:Program)(E:Env):Prop where
 ty:gI P E
 eq:ON P E
 fns:Bo P E
 mix:P.follows .mixedOrders=true
theorem Y'(bL:jt P E)(h:Inv w0 F0 Z0 n s a w ι Z)(ag:∀k,o.dst=some k→k<n)(hk:cQ E id o s K=some r) :
  ∃ar,K ar=some r∧o.wp P a w (cV w0 F0 Z0 n ar) Q:=by
 have e4:(∃ar,K ar=some r∧Pure P o a w (cV w0 F0 Z0 n ar))→∃ar,K ar=some r∧o.wp P a w (cV w0 F0 Z0 n ar) Q:=fun⟨ar,h1,h2⟩=>⟨ar,h1,h2.wp⟩
 cases ho:o.op with
 | move x=>exact e4 (AU h ag (.inl ho) hk)
 | assign x=>exact e4 (AU h ag (.inr ho) hk)
 | pick c x y=>exact e4 (Ow h ag ho hk)
 | alloc t=>exact XZ bL.ty h ag ho hk
 | box t x=>exact X0 bL.ty h ag ho hk
 | build t ps=>exact e4 (O6 bL.ty h ag ho hk)
 | buildSlice t m ps=>exact Yp bL.ty h ag ho hk
 | load t x=>exact X1 bL.ty h ag ho hk
 | store t x y=>exact X3 bL.ty h ag ho hk
 | nilCheck x=>exact e4 (Oy h ag ho hk)
 | binOp op t x y AZ=>exact e4 (OQ bL.ty bL.eq h ag ho hk)
 | unOp op t x=>exact e4 (OM h ag ho hk)
 | convert st fY x=>exact Yf bL.ty h ag ho hk
 | makeFunc f first kU =>
  cases f with
  | func f=>exact e4 (OD h ag ho hk)
  | _=>unfold cQ at hk;rw [ho] at hk;simp at hk
 | makeSlice t x y=>exact Yb bL.ty h ag ho hk
 | slice t x lo hi gE=>exact e4 (OI bL.ty h ag ho hk)
 | fieldAddr t x f=>exact e4 (OA bL.ty h ag ho hk)
 | field t x f=>exact e4 (OB bL.ty h ag ho hk)
 | indexAddr t x i=>exact e4 (OE bL.ty h ag ho hk)
 | index t x i=>exact e4 (OF bL.ty h ag ho hk)
 | extract x i=>exact e4 (OC h ag ho hk)
 | call c =>
  cases hc:c.callee with
  | builtin b =>
   by_cases hb:b=.append
   ·subst hb;exact YB bL.ty h ag ho hc hk
   ·by_cases hb2:b=.clear
    ·subst hb2;exact YJ bL.ty h ag ho hc hk
    ·exact e4 (O0 bL.ty h ag ho hc hb hb2 hk)
  | value f=>exact Y9 bL.fns h ag ho hc hk
  | invoke x m=>unfold cQ at hk;rw [ho] at hk;simp [hc] at hk
 | _=>unfold cQ at hk;rw [ho] at hk;simp at hk
end
end Go.LM
namespace Go.LM
mutual
theorem ae.beq_refl:∀t:ae,ae.beq t t=true
 | .int k=>by simp [ae.beq]
 | .bool=>rfl
 | .str=>rfl
 | .raw=>rfl
 | .sl t=>by simp only [ae.beq];exact ae.beq_refl t
 | .st aj=>by simp only [ae.beq];exact ay.beq_refl aj
theorem ay.beq_refl:∀t:ay,ay.beq t t=true
 | .nil=>rfl
 | .cons t aj=>by simp only [ay.beq,ae.beq_refl t,ay.beq_refl aj,cond_true]
end
theorem Za(a:ae)(x:a.D):eB a a x=some x:=by unfold eB;rw [dif_pos (ae.beq_refl a)]
section
variable{w b7:World}{Z bK:ah}
def PH(w:World)(Z:ah)(t:ae)(z:List t.D)(v:Value)(H1 G1:ah)(R:World→ah→List t.D→Value→ah→Prop):Prop :=
 (ae.sl t).al w Z (.O t.own) z [v] H1∧ah.apart H1 G1∧∀(b7:World) (bK X:ah) (y:List t.D) (u:Value),b5 w b7 G1→(ae.sl t).al b7 bK (.O t.own) y [u] X→ah.apart X G1→R b7 bK y u (X.or G1)
mutual
theorem ae.tc:∀(T:ae) (off:Nat) (t:ae) {x:T.D} {z:List t.D} {us:List Value} {G:ah},T.al w Z T.own x us G→T.getAt off t x=some z →
  ∃v H1 G1,us[off]?=some v∧ah.sub H1 G∧ah.sub G1 G∧PH w Z t z v H1 G1 (fun b7 bK y u eG=>∀bz,T.setAt off t y x=some bz→T.al b7 bK T.own bz (us.set off u) eG)
 | .int _,_,_,_,_,_,_,_,h=>by simp [ae.getAt] at h
 | .bool,_,_,_,_,_,_,_,h=>by simp [ae.getAt] at h
 | .str,_,_,_,_,_,_,_,h=>by simp [ae.getAt] at h
 | .raw,_,_,_,_,_,_,_,h=>by simp [ae.getAt] at h
 | .sl u,off,t,x,z,us,G,hr,h=>by
  simp only [ae.getAt] at h
  cases hb:Nat.beq off 0
  ·rw [hb] at h;cases h
  rw [hb] at h
  obtain rfl:=Nat.eq_of_beq_eq_true hb
  obtain ⟨e,rfl⟩:=gH h
  subst e
  have ib:=hr
  simp only [ae.own,ae.al] at hr
  obtain ⟨A,c,rfl,_⟩:=hr
  refine⟨_,G,ah.none,rfl,fun _ _ h=>h,fun _ _ h=>h.elim,ib,fun _ _ _ h=>h.elim,fun b7 bK X y j' _ h2 _ bz hs=>?_⟩
  simp only [ae.setAt] at hs
  obtain ⟨e,rfl⟩:=gH (show eB (.sl u) (.sl u) y=some bz from hs)
  exact ae.al.mono (fun _ _ h=>h) _ _ (fun _ _ h=>.inl h) h2
 | .st aj,off,t,x,z,us,G,hr,h=>by
  have hM:aj.flat=false:=by
   cases hf:aj.flat
   ·rfl
   ·exact(ae.vG (.st aj) (by simpa only [ae.flat] using hf) h).elim
  simp only [ae.own,hM,Bool.false_eq_true,if_false,ae.al,ba.parts] at hr
  simp only [ae.getAt] at h
  obtain ⟨v,H1,G1,h1,h2,h3,h4,a7,bj⟩:=ay.tc aj off t hr h
  refine⟨v,H1,G1,h1,h2,h3,h4,a7,fun b7 bK X y j' k1 k2 k3 bz hs=>?_⟩
  simp only [ae.setAt] at hs
  simp only [ae.own,hM,Bool.false_eq_true,if_false,ae.al,ba.parts]
  exact bj b7 bK X y j' k1 k2 k3 bz hs
theorem ay.tc:∀(aj:ay) (off:Nat) (t:ae) {x:aj.D} {z:List t.D} {us:List Value} {G:ah},aj.al w Z aj.own x us G→aj.getAt off t x=some z →
  ∃v H1 G1,us[off]?=some v∧ah.sub H1 G∧ah.sub G1 G∧PH w Z t z v H1 G1 (fun b7 bK y u eG=>∀bz,aj.setAt off t y x=some bz→aj.al b7 bK aj.own bz (us.set off u) eG)
 | .nil,_,_,_,_,_,_,_,h=>by simp [ay.getAt] at h
 | .cons T aj,off,t,x,z,us,G,hr,h=>by
  simp only [ay.own,ay.al,cS.ag,cS.dt] at hr
  obtain ⟨kZ,hO,mU,mV,rfl,bB,cc,hap,ha,hb⟩:=hr
  have hl:=(ae.al.len T _ bB).1
  simp only [ay.getAt] at h
  cases cz:Nat.blt off T.size
  ·rw [cz] at h
   have HP:T.size≤off:=by
    rcases Nat.lt_or_ge off T.size with h1 | h1
    ·have:Nat.blt off T.size=true:=Nat.ble_eq_true_of_le h1
     rw [this] at cz;cases cz
    ·exact h1
   obtain ⟨v,H1,G1,h1,h2,h3,h4,a7,bj⟩:=ay.tc aj (off-T.size) t cc h
   refine⟨v,H1,mU.or G1,?_,fun b o x=>hb b o (h2 b o x),?_,h4,?_,fun b7 bK X y j' k1 k2 k3 bz hs=>?_⟩
   ·rw [List.getElem?_append_right (by omega),hl];exact h1
   ·rintro b o (y | y)
    ·exact ha b o y
    ·exact hb b o (h3 b o y)
   ·rintro b o y (q | q)
    ·exact hap b o q (h2 b o y)
    ·exact a7 b o y q
   ·simp only [ay.setAt,cz,cond_false] at hs
    obtain ⟨js,hz,hs⟩:=bf hs
    obtain rfl:=aV hs
    simp only [ay.own,ay.al,cS.ag,cS.dt]
    refine⟨kZ,hO.set (off-T.size) j',mU,X.or G1,by rw [List.set_append_right _ _ (by omega),hl],p6 T (k1.mono fun _ _ h=>.inl h) bB,bj b7 bK X y j' (k1.mono fun _ _ h=>.inr h) k2 (fun b o p q=>k3 b o p (.inr q)) js hz,?_,fun _ _ h=>.inr (.inl h),?_⟩
    ·rintro b o p (q | q)
     ·exact k3 b o q (.inl p)
     ·exact hap b o p (h3 b o q)
    ·rintro b o (q | q)
     ·exact .inl q
     ·exact .inr (.inr q)
  ·rw [cz] at h
   have HP:off<T.size:=Nat.le_of_ble_eq_true cz
   obtain ⟨v,H1,G1,h1,h2,h3,h4,a7,bj⟩:=ae.tc T off t bB h
   refine⟨v,H1,G1.or mV,?_,fun b o x=>ha b o (h2 b o x),?_,h4,?_,fun b7 bK X y j' k1 k2 k3 bz hs=>?_⟩
   ·rw [List.getElem?_append_left (by omega)];exact h1
   ·rintro b o (y | y)
    ·exact ha b o (h3 b o y)
    ·exact hb b o y
   ·rintro b o y (q | q)
    ·exact a7 b o y q
    ·exact hap b o (h2 b o y) q
   ·simp only [ay.setAt,cz,cond_true] at hs
    obtain ⟨js,hz,hs⟩:=bf hs
    obtain rfl:=aV hs
    simp only [ay.own,ay.al,cS.ag,cS.dt]
    refine⟨kZ.set off j',hO,X.or G1,mV,by rw [List.set_append_left _ _ (by omega)],bj b7 bK X y j' (k1.mono fun _ _ h=>.inl h) k2 (fun b o p q=>k3 b o p (.inl q)) js hz,Pn aj (k1.mono fun _ _ h=>.inr h) cc,?_,?_,fun _ _ h=>.inr (.inr h)⟩
    ·rintro b o (p | p) q
     ·exact k3 b o p (.inr q)
     ·exact hap b o (h3 b o p) q
    ·rintro b o (q | q)
     ·exact .inl q
     ·exact .inr (.inl q)
end
theorem mD.tc{T:ae}{ys:List T.D}{a:Addr}{c:Nat}{F:ah}{i off:Nat}{t:ae}{z:List t.D}(h:mD w (T.al w Z T.own) T.size ys a c F)(hi:i<ys.length)(aA:T.getAt off t (J T ys i)=some z) :
  ∃v H1,w.cell? (at_ a.block (a.off+i*T.size+off))=some v∧(ae.sl t).al w Z (.O t.own) z [v] H1∧ah.sub H1 F∧ah.diff F H1 a.block (a.off+i*T.size+off)∧fB w T.size a.block (a.off+i*T.size+off) ∧
   ∀(b7:World) (bK X:ah) (y:List t.D) (bz:T.D) (u:Value),b5 w b7 (fun b o=>ah.diff F H1 b o∧¬(b=a.block∧o=a.off+i*T.size+off))→b7.cell? (at_ a.block (a.off+i*T.size+off))=some u →
    fB b7 T.size a.block (a.off+i*T.size+off)→(ae.sl t).al b7 bK (.O t.own) y [u] X→ah.apart X (ah.diff F H1)→T.setAt off t y (J T ys i)=some bz →
    mD b7 (T.al b7 bK T.own) T.size (ys.set i bz) a c (X.or (ah.diff F H1)):=by
 rw [c7 hi] at aA ⊢
 obtain ⟨G,g1,g2,g3⟩:=h.row
 obtain ⟨mU,iI,mV,vs,bB,HQ,hvl,cl,cc,a1,a2,a3,s1,s2,s3⟩:=g1.A' i hi
 obtain ⟨v,H1,G1,hv,k1,k2,k3,bh,bu⟩:=ae.tc T off t HQ aA
 have xV:ah.sub H1 G:=fun b o x=>s2 b o (k1 b o x)
 have hle:ys.length*T.size≤c*T.size:=Nat.mul_le_mul_right _ h.cap
 have gu:(i+1)*T.size≤ys.length*T.size:=Nat.mul_le_mul_right _ hi
 rw [Nat.add_one_mul] at gu
 have fh:off<T.size:=by
  rcases Nat.lt_or_ge off T.size with h1 | h1
  ·exact h1
  ·rw [List.getElem?_eq_none (by omega)] at hv;cases hv
 have s6:∀ {A:ah},ah.sub A G→ah.apart A H1→ah.sub A (ah.diff F H1):=fun hA au b o x=>⟨g3 b o (hA b o x),fun y=>au b o x y⟩
 have s7:ah.sub mU (ah.diff F H1):=s6 s1 fun b o x y=>a1 b o x (k1 b o y)
 have s8:ah.sub mV (ah.diff F H1):=s6 s3 fun b o x y=>a3 b o (k1 b o y) x
 have d1:ah.sub G1 (ah.diff F H1):=s6 (fun b o x=>s2 b o (k2 b o x)) fun b o x y=>bh b o y x
 have oR:∀j,j<c*T.size→ah.diff F H1 a.block (a.off+j):=fun j hj=>⟨h.inF j hj,fun y=>g2 j hj (xV _ _ y)⟩
 have hspot:i*T.size+off<c*T.size:=by omega
 have bO:∀ {A:ah},ah.sub A G→∀b o,A b o→¬(b=a.block∧o=a.off+i*T.size+off):=by
  rintro A hA b o x ⟨rfl,rfl⟩
  have:=g2 (i*T.size+off) hspot
  rw [← Nat.add_assoc] at this
  exact this (hA _ _ x)
 refine⟨v,H1,cl off v hv,k3,fun b o x=>g3 b o (xV b o x),by have:=oR _ hspot;rwa [← Nat.add_assoc] at this,by have:=h.wr _ hspot;rwa [← Nat.add_assoc] at this,fun b7 bK X y bz u hs hu hwr hr hap HR=>?_⟩
 have Zb:b5 w b7 mU:=fun b o x=>hs b o ⟨s7 b o x,bO s1 b o x⟩
 have ig:b5 w b7 mV:=fun b o x=>hs b o ⟨s8 b o x,bO s3 b o x⟩
 have Zc:b5 w b7 G1:=fun b o x=>hs b o ⟨d1 b o x,bO (fun b o x=>s2 b o (k2 b o x)) b o x⟩
 have hcell:∀j,j<c*T.size→j≠i*T.size+off→b7.cell? (at_ a.block (a.off+j))=w.cell? (at_ a.block (a.off+j)):=fun j hj hne=>(hs _ _ ⟨oR j hj,fun h=>hne (by omega)⟩).1
 have hw2:∀j,j<c*T.size→fB b7 T.size a.block (a.off+j):=by
  intro j hj
  by_cases hne:j=i*T.size+off
  ·subst hne;rwa [Nat.add_assoc] at hwr
  ·exact hs.j5 ⟨oR j hj,fun h=>hne (by omega)⟩ (h.wr j hj)
 have fa:=bu b7 bK X y u Zc hr (fun b o p q=>hap b o p (d1 b o q)) bz HR
 refine⟨h.spot,by simpa using h.cap,hw2,fun j hj=>.inr (oR j hj),mU.or ((X.or G1).or mV),?_,?_,?_⟩
 ·refine Row.Ba i hi (bB.imp (fun y us dh hG hr=>p6 T (Zb.mono fun b o p=>hG b o p) hr) fun j hj=>hcell j ?_ ?_) fa (by simpa using hvl) ?_ (cc.imp (fun y us dh hG hr=>p6 T (ig.mono fun b o p=>hG b o p) hr) fun j hj=>?_) ?_ a2 ?_
  ·simp only [List.length_take] at hj
   have:min i ys.length*T.size≤ys.length*T.size:=Nat.mul_le_mul_right _ (Nat.min_le_right _ _)
   omega
  ·simp only [List.length_take] at hj
   have:min i ys.length*T.size≤i*T.size:=Nat.mul_le_mul_right _ (Nat.min_le_left _ _)
   omega
  ·intro k q hk
   by_cases PI:k=off
   ·subst PI
    rw [List.getElem?_set_self (by omega)] at hk
    rw [← aV hk];exact hu
   ·rw [List.getElem?_set_ne (by omega)] at hk
    have nE:k<vs.length:=by
     rcases Nat.lt_or_ge k vs.length with h1 | h1
     ·exact h1
     ·rw [List.getElem?_eq_none h1] at hk;cases hk
    have:=hcell (i*T.size+k) (by omega) (by omega)
    rw [← Nat.add_assoc] at this
    rw [this];exact cl k q hk
  ·simp only [List.length_drop] at hj
   have e1:(ys.length-(i+1))*T.size=ys.length*T.size-(i*T.size+T.size):=by rw [Nat.sub_mul,Nat.add_one_mul]
   rw [e1] at hj
   have:=hcell ((i+1)*T.size+j) (by rw [Nat.add_one_mul];omega) (by rw [Nat.add_one_mul];omega)
   rwa [← Nat.add_assoc] at this
  ·rintro b o p (q | q)
   ·exact hap b o q (s7 b o p)
   ·exact a1 b o p (k2 b o q)
  ·rintro b o (p | p) q
   ·exact hap b o p (s8 b o q)
   ·exact a3 b o (k2 b o p) q
 ·rintro j hj (p | (p | p) | p)
  ·exact g2 j hj (s1 _ _ p)
  ·exact hap _ _ p (oR j hj)
  ·exact g2 j hj (s2 _ _ (k2 _ _ p))
  ·exact g2 j hj (s3 _ _ p)
 ·rintro b o (p | (p | p) | p)
  ·exact .inr (s7 b o p)
  ·exact .inl p
  ·exact .inr (d1 b o p)
  ·exact .inr (s8 b o p)
end
section
variable{P:Program}{Q:Exit→Act→World→Prop}
variable{w0:World}{F0 Z0:ah}{n:cB}{s ar:aq}{a b6:Act}{w w':World}{ι bd:Nat→bC}{Z Z':ah}
variable{E:Env}{bs : Type}{r : bs}
theorem Il(a:Act){d:Nat}(v:Value)(ag:d<a.tmps.size):(a.put (some d) v).eval (.tmp d)=v:=by
 show(a.tmps.setIfInBounds d v).getD d undef=v
 rw [G8 _ _ _ _ ag,if_pos rfl]
theorem x'(a:Act){d k:Nat}(v:Value)(ag:d<a.tmps.size)(hk:d≠k):(a.put (some d) v).eval (.tmp k)=a.eval (.tmp k):=by
 show(a.tmps.setIfInBounds d v).getD k undef=a.tmps.getD k undef
 rw [G8 _ _ _ _ ag,if_neg hk]
theorem PJ(a:Act)(d:Nat)(v:Value):(a.put (some d) v).tmps.size=a.tmps.size:=by
 show(a.tmps.setIfInBounds d v).size=_
 simp
theorem PK{u t:ae}{dp:List (Nat×Nat)}{p:Place}{xs:List u.D}{v:Value}{ll:List t.D}{s0:aq}(h:Inv w0 F0 Z0 n s a w ι Z)(hc:cf w Z s ι (.bW u dp (some p) xs) v)
  (hl:sJ t t.own s dp (some p)=some (ll,s0)) :
  ∃(i:Nat) (T:ae) (ver:Nat) (ys:List T.D) (cM dI:Nat) (H1:ah),p.fa=some i∧s.o p.id=.row T T.own ver ys∧s0=s.bN p.id (.b_ (.row T T.own ver ys))∧i<ys.length∧(ι p.id).base=some (at_ cM dI) ∧
   Inv w0 F0 Z0 n s0 a w ι Z∧fj s ι Z s0 Z∧bF w0 F0 s0 w ι Z H1∧bF w0 F0 s0 w ι Z (ah.diff (ι p.id).F H1)∧(ae.sl t).al w Z (.O t.own) ll [v] H1∧ah.sub H1 (ι p.id).F ∧
   ah.diff (ι p.id).F H1 cM (dI+i*T.size+p.off)∧fB w T.size cM (dI+i*T.size+p.off) ∧
   ∀(b7:World) (bK X:ah) (y:List t.D) (bz:T.D) (q:Value),b5 w b7 (fun b o=>ah.diff (ι p.id).F H1 b o∧¬(b=cM∧o=dI+i*T.size+p.off))→b7.cell? (at_ cM (dI+i*T.size+p.off))=some q →
    fB b7 T.size cM (dI+i*T.size+p.off)→(ae.sl t).al b7 bK (.O t.own) y [q] X→ah.apart X (ah.diff (ι p.id).F H1)→T.setAt p.off t y (J T ys i)=some bz →
    mD b7 (T.al b7 bK T.own) T.size (ys.set i bz) (at_ cM dI) (ι p.id).cap (X.or (ah.diff (ι p.id).F H1)):=by
 simp only [sJ] at hl
 cases eL:p.fa with
 | none=>rw [eL] at hl;simp at hl
 | some i =>
  rw [eL] at hl
  cases ho:s.o p.id with
  | row T em ver ys =>
   rw [ho] at hl
   simp only at hl
   cases hb:(alive s dp&&ba.beq em T.own&&ba.beq t.own t.own)
   ·rw [hb] at hl;simp at hl
   rw [hb] at hl
   simp only [cond_true] at hl
   simp only [Bool.and_eq_true] at hb
   obtain rfl:=ba.eq_of_beq _ _ hb.1.2
   obtain ⟨x,hx,hl⟩:=bf hl
   simp only [Option.some.injEq,Prod.mk.injEq] at hl
   obtain ⟨rfl,rfl⟩:=hl
   obtain ⟨_,_,_,kz⟩:=hc
   obtain ⟨_,kz⟩:=kz _ rfl
   obtain ⟨iF,dy,⟨_,fI⟩,hcell,hin⟩:=kz hb.1.1
   simp only [ho,ck.core] at fI
   obtain ⟨dW,hii,kA,a0,et,mN⟩:=fI
   rw [eL] at hii
   obtain rfl:=aV hii
   have b8:(s.o p.id).live:=by rw [ho];trivial
   have aA:fj s ι Z (s.bN p.id (.b_ (.row T T.own ver ys))) Z:=by have:=xW (s:=s) (ι := ι) (Z:=Z) b8;rw [ho] at this;exact this
   have eZ:bF w0 F0 (s.bN p.id (.b_ (.row T T.own ver ys))) w ι Z (ι p.id).F:=by have:=h.xX b8;rw [ho] at this;exact this
   have cX:=h.fC p.id
   rw [ho] at cX
   rcases cX with⟨hx0,_⟩ | ⟨a1,hb1,hr⟩
   ·rw [hx0] at kA;simp at kA
   rw [et] at hb1
   obtain rfl:=aV hb1
   obtain ⟨ab,ao,sp⟩:=a0
   have hsp:=hr.spot
   simp only at hsp
   subst hsp
   obtain ⟨eK,H1,dP,eF,nR,Zd,Ze,oN⟩:=hr.tc kA hx
   rw [← mN] at dP
   have HV:eK=v:=by rw [hcell] at dP;exact(aV dP).symm
   subst HV
   exact⟨i,T,ver,ys,ab,ao,H1,rfl,rfl,rfl,kA,et,h.lX aA,aA,eZ.sub nR,eZ.sub fun _ _ h=>h.1,eF,nR,Zd,Ze,oN⟩
  | _=>rw [ho] at hl;simp at hl
theorem Zf{v:a6}{K:Place→Option bs}(hk:GU s v K=some r):∃jn,K jn=some r∧∀ {w':World} {Z':ah} {ar:aq} {bd:Nat→bC} {x:Value},aQ w' Z' ar bd v x→∃A,x=.pointer (some A)∧iV ar bd jn A:=by
 unfold GU at hk
 cases v <;> simp only at hk <;> try (cases hk;done)
 ·exact⟨_,hk,fun hv=>by simp only [aQ] at hv;exact hv.2⟩
 ·obtain ⟨k,h1,hk⟩:=bf hk
  obtain ⟨h2,rfl⟩:=PG h1
  refine⟨_,hk,fun hv=>?_⟩
  simp only [aQ] at hv
  rcases hv.2 with⟨h3,_⟩ | ⟨_,h3⟩
  ·omega
  ·exact h3
theorem Zg{dy:Oper}{T:ae}{k1 d0 i ver cM dI:Nat}{p jn:Place}{ys:List T.D}{hv:Value}{s1:aq}(l4:dy.op=.nilCheck (.tmp k1))(h8:k1≠d0)(iM:d0<n.n)(td:jn.id=p.id)(Br:jn.fa=some i)(rv:Inv w0 F0 Z0 n s1 a w' ι Z)
  (Im:∀ {w':World} {Z':ah} {ar:aq} {bd:Nat→bC} {x:Value},aQ w' Z' ar bd (s1.t k1) x→∃A,x=.pointer (some A)∧iV ar bd jn A)
  (oY:s1.o p.id=.b_ (.row T T.own ver ys)) (et:(ι p.id).base=some (at_ cM dI)):(execOp (a.put (some d0) hv).eval dy).run P w'=.ok (.value (.pointer (some (at_ cM (dI+i*T.size+jn.off))))) w':=by
 obtain ⟨akx,Zh,hsp,mZ⟩:=Im (rv.tmps k1)
 rw [td,oY] at mZ
 simp only [ck.core] at mZ
 obtain ⟨dW,hii,_,a0,fW,Io⟩:=mZ
 rw [hii] at Br
 obtain rfl:=aV Br
 rw [et] at fW
 obtain rfl:=aV fW
 subst Io
 have:(a.put (some d0) hv).eval (.tmp k1)=.pointer (some (at_ cM (dI+dW*T.size+jn.off))):=by rw [x' _ _ (by rw [rv.size];exact iM) (Ne.symm h8)];exact Zh
 unfold execOp;rw [l4];simp only [this];rfl
theorem PL{dy eC eP:Oper}{aj:ay}{t T u:ae}{d0 d1 d2 mE mF nK k i ver cM dI:Nat}{p:Place}{po:Nat}{ys:List T.D}{y:List t.D}{hv:Value}{G oZ:ah}{s1 Bs:aq}{A:Option Addr}{vT Zi:Nat}{K:aq→Option bs}(bL:jt P E)
  (jJ:eC.op=.fieldAddr mE (.tmp d1) nK) (p_:eP.op=.store mF (.tmp d2) (.tmp d0)) (fV:dy.dst=some d1) (ij:eC.dst=some d2) (oS:eP.dst=none)
  (h9:d0≠d1) (h_:d0≠d2) (iM:d0<n.n) (l5:d1<n.n) (l6:d2<n.n) (te:E.ty mE=some (.st aj)) (tf:E.ty mF=some (.sl t)) (fh:aj.off nK=some (k,u)) (hz:u.size≠0)
  (jN:po+k=p.off) (eL:p.fa=some i) (kA:i<ys.length) (rv:Inv w0 F0 Z0 n s1 a w' ι Z)
  (Ip:(execOp (a.put (some d0) hv).eval dy).run P w'=.ok (.value (.pointer (some (at_ cM (dI+i*T.size+po))))) w')
  (oY:s1.o p.id=.b_ (.row T T.own ver ys)) (et:(ι p.id).base=some (at_ cM dI)) (o0:hv=.slice A Zi vT) (cK:(ae.sl t).al w' Z (.O t.own) y [hv] G)
  (o1:bF w0 F0 s1 w' ι Z G) (ln:bF w0 F0 s1 w' ι Z oZ) (vU:ah.apart G oZ) (vV:oZ cM (dI+i*T.size+p.off)) (Bt:fB w' T.size cM (dI+i*T.size+p.off))
  (vW:∀(b7:World) (bK X:ah) (y:List t.D) (bz:T.D) (q:Value),b5 w' b7 (fun b o=>oZ b o∧¬(b=cM∧o=dI+i*T.size+p.off))→b7.cell? (at_ cM (dI+i*T.size+p.off))=some q→fB b7 T.size cM (dI+i*T.size+p.off) →
   (ae.sl t).al b7 bK (.O t.own) y [q] X→ah.apart X oZ→T.setAt p.off t y (J T ys i)=some bz→mD b7 (T.al b7 bK T.own) T.size (ys.set i bz) (at_ cM dI) (ι p.id).cap (X.or oZ))
  (hbk:vd t y (((s1.set d0 .aD).set d1 .aD).set d2 .aD) (some p)=some Bs) (hk:K Bs=some r) :
  dy.wp P (a.put (some d0) hv) w' (fun a w=>eC.wp P a w (fun a w=>eP.wp P a w (fun a w=>∃ar,K ar=some r∧cV w0 F0 Z0 n ar a w) Q) Q) Q:=by
 have hcl:hv.cells = #[hv]:=by rw [o0];rfl
 have nZ:dY hv=true:=by rw [o0];rfl
 have hsz:=rv.size
 have Zj:Inv w0 F0 Z0 n (s1.set d0 .aD) (a.put (some d0) hv) w' ι Z:=rv.set (by simp only [aQ]) iM
 have Bu:(a.put (some d0) hv).tmps.size=n.n:=by rw [PJ];exact hsz
 unfold Oper.wp
 rw [Ip,Oper.upon_value,fV]
 obtain ⟨a2,ya⟩:∃a2,a2=(a.put (some d0) hv).put (some d1) (.pointer (some (at_ cM (dI+i*T.size+po)))):=⟨_,rfl⟩
 rw [← ya]
 have PM:a2.tmps.size=n.n:=by rw [ya,PJ];exact Bu
 have qa:a2.eval (.tmp d1)=.pointer (some (at_ cM (dI+i*T.size+po))):=by rw [ya];exact Il _ _ (by rw [Bu];exact l5)
 have Zk:a2.eval (.tmp d0)=hv:=by rw [ya,x' _ _ (by rw [Bu];exact l5) (Ne.symm h9)];exact Il _ _ (by rw [hsz];exact iM)
 obtain ⟨pos,fK⟩:∃pos,pos=dI+i*T.size+p.off:=⟨_,rfl⟩
 rw [← fK] at vV Bt vW
 have Zl:(execOp a2.eval eC).run P w'=.ok (.value (.pointer (some (at_ cM pos)))) w':=by
  obtain ⟨cm,hu,kx⟩:=Hr (bL.ty.ty mE _ te)
  obtain ⟨aky,h1,h2,h3⟩:=ay.AV kx fh
  rw [Array.getElem?_toList] at h1
  unfold execOp;rw [jJ]
  refine fH ?_
  simp only [Instr.fieldAt,run_bind,run_underlying hu,h1,Instr.sureAddr,qa,run_pure,Oz h3 hz,h2,Nat.zero_add]
  rw [fK,← jN,Nat.add_assoc]
 rw [Zl,Oper.upon_value,ij]
 obtain ⟨a3,Bv⟩:∃a3,a3=a2.put (some d2) (.pointer (some (at_ cM pos))):=⟨_,rfl⟩
 rw [← Bv]
 have Zm:a3.eval (.tmp d2)=.pointer (some (at_ cM pos)):=by rw [Bv];exact Il _ _ (by rw [PM];exact l6)
 have Zn:a3.eval (.tmp d0)=hv:=by rw [Bv,x' _ _ (by rw [PM];exact l6) (Ne.symm h_)];exact Zk
 have Bw:Inv w0 F0 Z0 n (((s1.set d0 .aD).set d1 .aD).set d2 .aD) a3 w' ι Z:=by
  rw [Bv,ya]
  exact(Zj.set (by simp only [aQ]) l5).set (by simp only [aQ]) l6
 have PN:(execOp a3.eval eP).run P w'=.ok .skip (setCells w' cM pos [hv]):=by
  unfold execOp;rw [p_]
  have:=Ho (P:=P) (w:=w') (bL.ty.ty mF _ tf) (b:=cM) (o:=pos) (v:=hv) (by rw [hcl];rfl) (by rw [hcl];intro u hu;simp at hu;rw [hu];exact nZ) (fun j hj=>by
   rw [hcl] at hj
   have:j=0:=by simp at hj;omega
   subst this;exact Bt.1)
  rw [hcl] at this
  simp only [Instr.storeAt,Instr.sureAddr,Zm,Zn,run_bind,run_pure,this]
 have Iq:bF w0 F0 (((s1.set d0 .aD).set d1 .aD).set d2 .aD) w' ι Z oZ:=⟨ln.own,ln.apart,ln.c0⟩
 have o1:bF w0 F0 (((s1.set d0 .aD).set d1 .aD).set d2 .aD) w' ι Z G:=⟨o1.own,o1.apart,o1.c0⟩
 obtain ⟨o2,hw3⟩:∃o2,o2=setCells w' cM pos [hv]:=⟨_,rfl⟩
 rw [← hw3] at PN
 have hx3:Ext w' o2 (ah.run cM pos 1):=by
  rw [hw3]
  exact nD cM [hv] w' pos fun j hj=>by
   have:j=0:=by simp at hj;omega
   subst this;exact⟨rfl,by omega,by omega⟩
 have PO:ah.sub (ah.run cM pos 1) oZ:=by
  rintro b o ⟨rfl,k2,k3⟩
  rw [show o=pos by omega];exact vV
 have Ir:Inv w0 F0 Z0 n (((s1.set d0 .aD).set d1 .aD).set d2 .aD) a3 o2 ι Z:=Bw.A3 (Iq.sub PO) hx3
 have Zo:o2.cell? (at_ cM pos)=some hv:=by
  rw [hw3,vm cM [hv] w' pos (fun j hj=>by
   have:j=0:=by simp at hj;omega
   subst this;exact Bt.1.1),if_pos ⟨rfl,by omega,by simp⟩]
  simp
 have Zp:b5 w' o2 G:=b5.iE hx3 (fun b o aA=>(o1.own b o aA).2) fun b o aA hr=>vU b o aA (PO b o hr)
 have Zq:(ae.sl t).al o2 Z (.O t.own) y [hv] G:=p6 (.sl t) Zp cK
 have yb:b5 w' o2 (fun b o=>oZ b o∧¬(b=cM∧o=pos)):=by
  refine b5.iE hx3 (fun b o hb=>(Iq.own b o hb.1).2) ?_
  rintro b o ⟨_,hne⟩ ⟨rfl,k2,k3⟩
  exact hne ⟨rfl,by omega⟩
 have Is:(((s1.set d0 .aD).set d1 .aD).set d2 .aD).o p.id=.b_ (.row T T.own ver ys):=oY
 simp only [vd,eL] at hbk
 rw [Is] at hbk
 simp only at hbk
 obtain ⟨z,Zr,hbk⟩:=bf hbk
 obtain rfl:=aV hbk
 obtain ⟨PQ,PR,_⟩:=x3 Ir (id:=p.id) (o:=.row T T.own (ver+1) (ys.set i z)) (i:=⟨(ι p.id).base,(ι p.id).cap,G.or oZ⟩) (by rw [Is];exact fun h=>h) (fun o'=>by simp) (by rw [Is];exact .q9 _ _ _ _ _ _ _ _ _ (by omega) (by simp) rfl rfl)
  (fun hm=>.inr ⟨at_ cM dI,et,vW o2 Z G y z hv yb Zo (hx3.j5 Bt) Zq vU Zr⟩) ((o1.ext hx3).or (Iq.ext hx3))
 refine Oper.wp_mono (fun a w hs=>⟨_,hk,?_⟩) (wp_skip PN PR (fun k hk=>by rw [oS] at hk;cases hk))
 rw [oS] at hs
 exact hs
def vX(s:aq)(ι : Nat→bC)(X:ah):ah:=fun b o=>X b o∨∃id,(s.o id).live∧(ι id).F b o
theorem Inv.here(h:Inv w0 F0 Z0 n s a w ι Z)(X:ah):Inv w (vX s ι X) Z n s a w ι Z :=
 ⟨Ext.refl _ _,fun _ _ hz=>.inl hz,fun _ _ h=>h,h.iC,h.fC,fun id hl b o hf=>⟨.inl (.inr ⟨id,hl,hf⟩),(h.own id hl b o hf).2⟩,h.apart,h.c0,h.tmps,h.size,h.ghost,h.seen,h.defers⟩
theorem Bx(h:Inv w0 F0 Z0 n s a w ι Z){X:ah}(hX:bF w0 F0 s w ι Z X){b o:Nat}(hf:vX s ι X b o∨w.heap.size≤b):F0 b o∨w0.heap.size≤b:=by
 have hsz:=h.ext.size
 rcases hf with(hf | ⟨id,hl,hf⟩) | hf
 ·exact(hX.own b o hf).1
 ·exact(h.own id hl b o hf).1
 ·exact .inr (by omega)
theorem Inv.Zs(h:Inv w0 F0 Z0 n s a w ι Z){X:ah}(hX:bF w0 F0 s w ι Z X)(h':Inv w (vX s ι X) Z n ar b6 w' bd Z'):Inv w0 F0 Z0 n ar b6 w' bd Z':=by
 refine⟨h.ext.trans' h'.ext fun i o hf=>Bx h hX (.inl hf),fun b o hz=>?_,fun b o hz=>h'.q8 b o (h.q8 b o hz),h'.iC,h'.fC,fun id hl b o hf=>⟨Bx h hX (h'.own id hl b o hf).1,(h'.own id hl b o hf).2⟩,h'.apart,h'.c0,h'.tmps,h'.size,h'.ghost,h'.seen,h'.defers⟩
 rcases h'.dz b o hz with h1 | h1
 ·exact h.dz b o h1
 ·exact .inr (Bx h hX h1)
theorem Zt{o dy eC eP:Oper}{c:Call}{aj:ay}{t u ul:ae}{d0 d1 d2 mE mF nK k i id:Nat}{p:Place}{po:Nat}{dp:List (Nat×Nat)}{It:List ul.D}{vb:a6}{cb:a8}{M:aq→Bool}{K:aq→Option bs}(bL:jt P E)(h:Inv w0 F0 Z0 n s a w ι Z)
  (ho:o.op=.call c) (hc:c.callee=.builtin .append) (ld:c.args.toList.map (bT s)=[.aU (.bW ul dp (some p) It),vb]) (gv:vf E c.argTypes.toList=some t) (s5:oneCell t vb=some cb) (tg:o.dst=some d0)
  (jJ:eC.op=.fieldAddr mE (.tmp d1) nK) (p_:eP.op=.store mF (.tmp d2) (.tmp d0)) (fV:dy.dst=some d1) (ij:eC.dst=some d2) (oS:eP.dst=none)
  (h9:d0≠d1) (h_:d0≠d2) (iM:d0<n.n) (l5:d1<n.n) (l6:d2<n.n) (te:E.ty mE=some (.st aj)) (tf:E.ty mF=some (.sl t)) (fh:aj.off nK=some (k,u)) (hz:u.size≠0)
  (jN:po+k=p.off) (yc:p.fa=some i)
  (Ip:∀ {T:ae} {ver cM dI:Nat} {ys:List T.D} {s1:aq} {dv:Nat→bC} {cp:ah} {n0:World} {hv:Value},Inv w0 F0 Z0 n s1 a n0 dv cp→s1.t=s.t→s1.o p.id=.b_ (.row T T.own ver ys)→s.o p.id=.row T T.own ver ys→(dv p.id).base=some (at_ cM dI) →
   (execOp (a.put (some d0) hv).eval dy).run P n0=.ok (.value (.pointer (some (at_ cM (dI+i*T.size+po))))) n0)
  (hk:GY id t p dp s cb d0 d1 d2 M K=some r) :
  o.wp P a w (fun a w=>(∃nL,M nL=true∧cV w0 F0 Z0 n nL a w)∧dy.wp P a w (fun a w=>eC.wp P a w (fun a w=>eP.wp P a w (fun a w=>∃ar,K ar=some r∧cV w0 F0 Z0 n ar a w) Q) Q) Q) Q:=by
 have hvs:=s4 h c.args.toList
 have PS:(c.args.map a.eval).toList=c.args.toList.map a.eval:=by simp
 rw [ld] at hvs
 simp only [aZ] at hvs
 obtain ⟨Pk,_,he,mS,YC,_,rfl,HL,rfl⟩:=hvs
 simp only [aQ] at mS
 obtain ⟨gX,hH,rest,e,rn,hu,ca,jL⟩:=Pj bL.ty gv
 have hb1:=HK s5 HL
 unfold GY at hk
 cases p4:added s t cb with
 | none=>rw [p4] at hk;cases hk
 | some q =>
 obtain ⟨j9,ys,s1⟩:=q
 rw [p4] at hk
 simp only at hk
 cases lS:ba.beq j9 t.own
 ·rw [lS] at hk;cases hk
 rw [lS] at hk
 simp only [cond_true] at hk
 obtain rfl:=ba.eq_of_beq _ _ lS
 obtain ⟨⟨ll,s2⟩,ie,hk⟩:=bf hk
 obtain ⟨s3,mL,hk⟩:=bf hk
 obtain ⟨hroom,hk⟩:=ri hk
 cases qb:M (s3.set d0 .aD)
 ·rw [qb] at hk;cases hk
 rw [qb] at hk
 simp only [cond_true] at hk
 obtain ⟨Bs,hbk,Iu⟩:=bf hk
 obtain ⟨b3,rfl⟩:=p0 mL
 simp only at b3 hbk hroom
 obtain ⟨vs,gJ,hlen,p5,hels,h1,hs1,nT⟩:=O' (P:=P) p4 h hb1
 have hc1:cf w Z s1 ι (.bW ul dp (some p) It) Pk:=cf.move hs1.ec mS
 obtain ⟨dW,T,ver,yd,cM,dI,H1,eL,dR,nU,kA,et,i0,By,th,ln,Iv,PT,vV,Iw,vW⟩:=PK h1 hc1 ie
 rw [eL] at yc
 obtain rfl:=aV yc
 have Bz:=nT.s9 By
 have PU:(s1.o p.id).live:=by rw [dR];trivial
 have lf:ah.apart H1 gJ:=fun b o x y=>nT.apart p.id PU b o y (PT b o x)
 have PV:=th.or Bz
 have Zu:bF w (vX s2 ι (H1.or gJ)) s2 w ι Z H1:=⟨fun b o x=>⟨.inl (.inl (.inl x)),(th.own b o x).2⟩,th.apart,th.c0⟩
 have Zv:bF w (vX s2 ι (H1.or gJ)) s2 w ι Z gJ:=⟨fun b o x=>⟨.inl (.inl (.inr x)),(Bz.own b o x).2⟩,Bz.apart,Bz.c0⟩
 obtain ⟨eK,w',l7,hrun,hinv,hcell⟩:=Pc (P:=P) (id:=id) (ty:=o.type) (ats:=c.argTypes) (args:=c.args.map a.eval) (by rw [← Array.getElem?_toList,rn];rfl) (by rw [← Array.getElem?_toList,rn];rfl)
  (by rw [← Array.getElem?_toList,PS,he];rfl) (by rw [← Array.getElem?_toList,PS,he];rfl) hu ca jL (Nat.le_of_ble_eq_true hroom) (i0.here _) b3 Iv hels Zu Zv lf hlen p5
 have xU:taken (s2.bN id (.row t t.own 0 (ll++ys))) t (.ag id none)=some (t.own,ll++ys,(s2.bN id (.row t t.own 0 (ll++ys))).bN id .dead):=by
  simp only [taken]
  rw [show(s2.bN id (.row t t.own 0 (ll++ys))).o id=.row t t.own 0 (ll++ys) from cw _ _ _]
  simp only [kr]
  rw [Za];rfl
 obtain ⟨G,PW,i4,akz,vY,akA⟩:=Pb xU hinv hcell
 have Zw:(s2.bN id (.row t t.own 0 (ll++ys))).bN id .dead=s2.bN id .dead:=by
  show { s2 with o:=bQ (bQ s2.o id _) id ck.dead } = { s2 with o:=bQ s2.o id ck.dead }
  congr 1
  funext j
  by_cases hj:j=id
  ·subst hj;rw [cw,cw]
  ·rw [q1 hj,q1 hj,q1 hj]
 rw [Zw] at i4 vY
 have PX:p.id≠id:=by
  intro e0
  rw [nU] at b3
  rw [show(s1.bN p.id (.b_ (.row T T.own ver yd))).o id=.b_ (.row T T.own ver yd) from by rw [e0];exact cw _ _ _] at b3
  cases b3
 have PY : bQ ι id l7 p.id = ι p.id:=q1 PX
 have i5:=i0.Zs PV i4
 have hcl:∀j,((s2.bN id .dead).o j).live→j≠id∧(s2.o j).live:=by
  intro j hj
  by_cases lp:j=id
  ·subst lp
   rw [show(s2.bN j .dead).o j=.dead from cw _ _ _] at hj
   exact hj.elim
  ·rw [show(s2.bN id .dead).o j=s2.o j from q1 lp] at hj
   exact⟨lp,hj⟩
 have Ix:=hinv.ext
 have hap:∀b o,ah.diff (ι p.id).F H1 b o→vX s2 ι (H1.or gJ) b o→False:=by
  rintro b o ag ((hf | hf) | ⟨j,hj,hf⟩)
  ·exact ag.2 hf
  ·exact nT.apart p.id PU b o hf ag.1
  ·exact ln.apart j hj b o ag hf
 have o1:bF w0 F0 (s2.bN id .dead) w' (bQ ι id l7) Z G:=⟨fun b o x=>⟨Bx i0 PV (vY.own b o x).1,(vY.own b o x).2⟩,vY.apart,vY.c0⟩
 have Zx:bF w0 F0 (s2.bN id .dead) w' (bQ ι id l7) Z (ah.diff (ι p.id).F H1):=by
  refine⟨(ln.ext Ix).own,fun j hj b o x y=>?_,ln.c0⟩
  obtain ⟨ye,iZ⟩:=hcl j hj
  rw [q1 ye] at y
  exact ln.apart j iZ b o x y
 have vU:ah.apart G (ah.diff (ι p.id).F H1):=by
  intro b o aA ag
  rcases (vY.own b o aA).1 with hf | hf
  ·exact hap b o ag hf
  ·have:=(ln.own b o ag).2;omega
 have yb:b5 w w' (ah.diff (ι p.id).F H1):=b5.iE Ix (fun b o hb=>(ln.own b o hb).2) hap
 have yf:=PW
 simp only [ae.al] at yf
 obtain ⟨A,vT,o0,_⟩:=yf
 have o0:eK=.slice A (ll++ys).length vT:=by simpa using o0
 have Zy:(execOp a.eval o).run P w=.ok (.value eK) w':=by
  unfold execOp;rw [ho]
  simp only [run_bind,resolve,hc,run_pure,invoke]
  unfold builtin
  exact fH hrun
 have ht:(s2.bN id .dead).t=s.t:=by
  show s2.t=s.t
  rw [nU]
  exact hs1.t
 unfold Oper.wp
 rw [Zy,Oper.upon_value,tg]
 have Zz:s2.o p.id=.b_ (.row T T.own ver yd):=by rw [nU];exact cw _ _ _
 have PZ:(s2.bN id .dead).o p.id=.b_ (.row T T.own ver yd):=by rw [show(s2.bN id .dead).o p.id=s2.o p.id from q1 PX];exact Zz
 have P0:(bQ ι id l7 p.id).base=some (at_ cM dI):=by rw [PY];exact et
 have BA:s.o p.id=.row T T.own ver yd:=by
  rcases hs1.o p.id with h2 | ⟨_,h2⟩
  ·rw [← h2];exact dR
  ·rw [h2] at dR;cases dR
 refine⟨⟨_,qb,bQ ι id l7,Z,i5.set (by simp only [aQ]) iM⟩,?_⟩
 exact PL bL jJ p_ fV ij oS h9 h_ iM l5 l6 te tf fh hz jN eL kA i5 (Ip i5 ht PZ BA P0) PZ P0 o0 PW o1 Zx vU vV (Ix.j5 Iw)
  (by rw [PY];exact fun b7 bK X y bz q hs=>vW b7 bK X y bz q ((yb.mono fun _ _ h=>h.1).trans hs)) hbk Iu
set_option maxHeartbeats 1000000 in
theorem ZA{o:Oper}{l:List Oper}{K:aq→Option bs}(bL:jt P E)(hn:E.n=n)(h:Inv w0 F0 Z0 n s a w ι Z)(hk:GV E s o l K=some r) :
  ∃dy eC eP l',l=dy :: eC :: eP :: l'∧o.guard=none∧dy.guard=none∧eC.guard=none∧eP.guard=none ∧
   o.wp P a w (fun a w=>dy.wp P a w (fun a w=>eC.wp P a w (fun a w=>eP.wp P a w (fun a w=>∃ar,K ar=some r∧cV w0 F0 Z0 n ar a w) Q) Q) Q) Q:=by
 unfold GV at hk
 split at hk
 case h_2=>cases hk
 rename_i dy eC eP l'
 refine⟨dy,eC,eP,l',rfl,?_⟩
 split at hk
 case h_2=>cases hk
 rename_i c k1 mE e1 nK mF e2 e0 ho l4 jJ p_
 split at hk
 case h_2=>cases hk
 rename_i bZ d0 d1 d2 hc tg fV ij
 cases hb:vj E o dy eC eP k1 e1 e2 e0 d0 d1 d2
 ·rw [hb] at hk;cases hk
 rw [hb] at hk
 simp only [cond_true] at hk
 unfold vj at hb
 simp only [Bool.and_eq_true,Bool.not_eq_true',Option.isNone_iff_eq_none] at hb
 obtain ⟨BB,c6,eE,h8,h9,h_,g0,g1,g2,g3,oS,iM,l5,l6⟩:=hb
 obtain rfl:=Nat.eq_of_beq_eq_true BB
 obtain rfl:=Nat.eq_of_beq_eq_true c6
 obtain rfl:=Nat.eq_of_beq_eq_true eE
 have h8:k1≠d0:=Nat.ne_of_beq_eq_false h8
 have h9:d0≠d1:=Nat.ne_of_beq_eq_false h9
 have h_:d0≠d2:=Nat.ne_of_beq_eq_false h_
 have iM:d0<n.n:=by rw [← hn];exact Nat.le_of_ble_eq_true iM
 have l5:d1<n.n:=by rw [← hn];exact Nat.le_of_ble_eq_true l5
 have l6:d2<n.n:=by rw [← hn];exact Nat.le_of_ble_eq_true l6
 refine⟨g0,g1,g2,g3,?_⟩
 split at hk
 case h_2=>cases hk
 rename_i g aj t Bq te tf
 split at hk
 case h_2=>cases hk
 rename_i e k u p P1 fh kz
 obtain ⟨jn,hk,Im⟩:=Zf hk
 cases fI:(!(Nat.beq u.size 0)&&(Nat.beq jn.id p.id&&Nat.beq (jn.off+k) p.off))
 ·rw [fI] at hk;cases hk
 rw [fI] at hk
 simp only [cond_true] at hk
 simp only [Bool.and_eq_true,Bool.not_eq_true'] at fI
 obtain ⟨hz,td,jN⟩:=fI
 have hz:u.size≠0:=Nat.ne_of_beq_eq_false hz
 have td:jn.id=p.id:=Nat.eq_of_beq_eq_true td
 have jN:jn.off+k=p.off:=Nat.eq_of_beq_eq_true jN
 split at hk
 case h_2=>cases hk
 rename_i ZB ZC Br yc
 cases qc:Nat.beq ZB ZC
 ·rw [qc] at hk;cases hk
 rw [qc] at hk
 simp only [cond_true] at hk
 have hvs:=s4 h c.args.toList
 have hf:=eT h bZ
 rw [Bq] at hf
 simp only [aQ] at hf
 obtain ⟨cm,cs,Ii,kx,hcs⟩:=hf
 simp only [aZ] at kx hcs
 subst kx hcs
 cases Iy:c.args.toList.map (bT s) with
 | nil=>rw [Iy] at kz;cases kz
 | cons v0 bD =>
  rw [Iy] at kz hk hvs
  cases v0 with
  | aU Hz =>
   cases Hz with
   | bW dt dp cr xs =>
    simp only [vh] at kz
    subst kz
    simp only [aZ] at hvs
    obtain ⟨j',aT,hus,oV,P2⟩:=hvs
    simp only [aQ] at oV
    rw [Iy] at P1
    obtain ⟨ps,rs,f⟩:=e
    cases hm:vi (oI (a6.aU (a8.bW dt dp (some p) xs) :: bD)) s t ps (a6.aU (a8.bW dt dp (some p) xs) :: bD++kX (a6.aU (a8.bW dt dp (some p) xs) :: bD)) with
    | none=>rw [hm] at hk;cases hk
    | some X =>
     obtain ⟨x,s1,bn⟩:=X
     rw [hm] at hk
     simp only at hk
     cases dQ:(alive s1 bn&&nJ (a6.aU (a8.bW dt dp (some p) xs) :: bD))
     ·rw [dQ] at hk;cases hk
     rw [dQ] at hk
     simp only [cond_true] at hk
     simp only [Bool.and_eq_true] at dQ
     obtain ⟨dQ,Ic⟩:=dQ
     obtain ⟨bm,eg,hk⟩:=bf hk
     obtain ⟨y,aO,hk⟩:=bf hk
     obtain ⟨Bs,hbk,Iu⟩:=bf hk
     have Ie:=bL.fns g _ _ P1
     cases ps with
     | nil=>simp [vi] at hm
     | cons sp ps =>
      cases sp with
      | val T m =>
       cases T with
       | sl c8 =>
        simp only [List.cons_append,vi] at hm
        cases BC:(ba.beq m (.O c8.own)&&(ae.beq t c8&&GS ps))
        ·rw [BC] at hm;cases hm
        rw [BC] at hm
        simp only [cond_true] at hm
        simp only [Bool.and_eq_true] at BC
        obtain ⟨rm,vx,akB⟩:=BC
        obtain rfl:=ba.eq_of_beq _ _ rm
        obtain rfl:=ae.eq_of_beq _ _ vx
        obtain ⟨⟨ll,s0⟩,ie,hm⟩:=bf hm
        obtain ⟨q,hq,hm⟩:=bf hm
        obtain ⟨c6,akC,mH⟩:=q
        simp only [Option.some.injEq,Prod.mk.injEq] at hm
        obtain ⟨rfl,rfl,rfl⟩:=hm
        obtain ⟨i,T,ver,ys,cM,dI,H1,eL,dR,hs0,kA,et,i0,By,th,ln,Iv,PT,vV,Iw,vW⟩:=PK h oV ie
        have BA:s0.o p.id=.b_ (.row T T.own ver ys):=by rw [hs0];exact cw _ _ _
        have ZD:aZ w Z s ι (kX (a6.aU (a8.bW dt dp (some p) xs) :: bD)) (fQ (j' :: aT)):=H' Ic (by simp only [aZ];exact⟨j',aT,rfl,by simpa only [aQ] using oV,P2⟩)
        have akD:∃A m' c',j'=.slice A m' c':=oV.2.1
        obtain ⟨l3,ew,cp,i1,vZ,P3,_,P4,_,_,_,ZE,src⟩:=p8 ps _ _ s0 Z [] _ hq i0 (aZ.move By.ec (P2.append ZD)) (by simp)
        simp only at i1 vZ P3 P4 ZE src
        have ZF:=th.s9 vZ
        have Iz:=ln.s9 vZ
        have b8:=Bm dQ
        have ti:bF w0 F0 s1 w ι cp (H1.or l3):=ZF.or P4
        have IA:∀ {X:ah},bF w0 F0 s0 w ι Z X→∀b o,X b o→l3 b o→False:=by
         intro X hX b o hx hj
         obtain ⟨id,hl,hf⟩:=src b o (.inl hj)
         exact hX.apart id hl b o hx hf
        have hA:gh w (cp.or (db ι bn)) (oI (a6.aU (a8.bW dt dp (some p) xs) :: bD)) (.val (.sl t) (.O t.own) :: ps) (ll,c6) (c.args.toList.map a.eval++fQ (c.args.toList.map a.eval)) (H1.or l3):=by
         rw [hus]
         exact⟨[j'],aT++fQ (j' :: aT),H1,l3,rfl,ae.al.mono (fun b o hz=>.inl (vZ.dz b o hz)) _ _ (fun _ _ h=>h) Iv,P3,fun b o x y=>IA th b o x y,fun _ _ h=>.inl h,fun _ _ h=>.inr h⟩
        obtain ⟨rfl,rfl⟩:∃e:rs=[.val (.sl t) (.O t.own)],y=(e ▸ bm:(cU.outs [.val (.sl t) (.O t.own)] (bx.dU (.val (.sl t) (.O t.own) :: ps))).D).1:=by
         cases rs with
         | nil=>simp [xH] at aO
         | cons Be rs =>
          cases Be with
          | val hO ZG =>
           cases rs with
           | cons=>simp [xH] at aO
           | nil =>
            simp only [xH] at aO
            cases lS:ba.beq ZG (.O t.own)
            ·rw [lS] at aO;cases aO
            rw [lS] at aO
            obtain rfl:=ba.eq_of_beq _ _ lS
            obtain ⟨e,rfl⟩:=AI aO
            subst e
            exact⟨rfl,rfl⟩
          | _=>simp [xH] at aO
        have hcall:=Ie.calls w (cp.or (db ι bn)) (H1.or l3) (ll,c6) (c.args.toList.map a.eval) bm
         (by
          rintro b o (hz | ⟨d,ag,hf⟩)
          ·exact i1.iC b o hz
          ·exact(i1.own d.1 (b8 d ag) b o hf).2)
         (fun b o hf=>(ti.own b o hf).2)
         (by
          rintro b o hf (hz | hz)
          ·exact ti.c0 b o hf hz
          ·exact ti.db b8 b o hf hz) hA eg
        suffices key:∀(eK:Value) (w':World),Ends w (cp.or (db ι bn)) (H1.or l3) ⟨.val (.sl t) (.O t.own) :: ps,[.val (.sl t) (.O t.own)],f⟩ (c.args.toList.map a.eval) bm eK w' →
          dy.wp P (a.put o.dst eK) w' (fun a w=>eC.wp P a w (fun a w=>eP.wp P a w (fun a w=>∃ar,K ar=some r∧cV w0 F0 Z0 n ar a w) Q) Q) Q by
         unfold Oper.wp
         have hrun:(execOp a.eval o).run P w=(callFunc g (c.args.toList.map a.eval).toArray).run P w:=by
          unfold execOp;rw [ho]
          simp only [run_bind,resolve,hc,Ii,Deferred.ofValue,run_pure,invoke]
          congr 2
          apply Array.ext'
          simp
         rw [hrun]
         rcases hcall with⟨⟨fn,x_,Ij,iL⟩,hcall⟩ | ⟨akE,w',tb,gx,xT,hu⟩
         ·have Ik:(callFunc g (c.args.toList.map a.eval).toArray).run P w=.ok (.enter g (c.args.toList.map a.eval).toArray) w:=by
           simp only [callFunc,run_bind,run_pure,program,Sem.run,x_]
           rw [if_neg (by rw [iL];simp),if_neg (by rw [Ij];simp)]
           simp only [run_pure]
          rw [Ik,Oper.upon_enter]
          refine hcall.mono ?_
          rintro akF w' ⟨v9,rfl,hu⟩
          exact key v9 w' hu
         ·rw [tb,Oper.upon_value]
          cases xT
          exact key _ w' hu
        rintro eK w' ⟨⟨dk,Z',F',rfl,hx,iY,hz2,hf2,x9,gZ⟩⟩
        simp only [hP] at gZ
        obtain ⟨vs1,dX,G,ZH,rfl,cK,⟨rfl,_⟩,_,hGF,_⟩:=gZ
        have yf:=cK
        simp only [ae.al] at yf
        obtain ⟨A,vT,rfl,_⟩:=yf
        obtain ⟨hv,o0⟩:∃hv,hv=Value.slice A bm.1.length vT:=⟨_,rfl⟩
        rw [← o0] at cK
        rw [show nW [dB (.sl t) [Value.slice A bm.1.length vT]]=hv from o0.symm]
        have rv:Inv w0 F0 Z0 n s1 a w' ι cp:=i1.A3 ti hx
        rw [tg]
        have BD:s1.t=s.t:=vZ.t.trans By.t
        have oY:s1.o p.id=.b_ (.row T T.own ver ys):=by
         rcases vZ.o p.id with h1 | ⟨h1,_⟩
         ·rw [h1,BA]
         ·rw [BA] at h1;exact h1.elim
        rw [eL] at yc
        obtain rfl:=aV yc
        obtain rfl:=Nat.eq_of_beq_eq_true qc
        have eW:ah.sub G F':=hGF
        have vU:ah.apart G (ah.diff (ι p.id).F H1):=by
         intro b o aA ag
         rcases (hf2 b o (eW b o aA)).1 with(hf | hf) | hf
         ·exact ag.2 hf
         ·exact IA ln b o ag hf
         ·have:=(Iz.own b o ag).2;omega
        have o1:bF w0 F0 s1 w' ι cp G:=by
         have akG:=i1.ext.size
         refine⟨fun b o aA=>⟨?_,(hf2 b o (eW b o aA)).2⟩,fun id hl b o aA hi=>?_,fun b o aA hz=>?_⟩
         ·rcases (hf2 b o (eW b o aA)).1 with hf | hf
          ·exact(ti.own b o hf).1
          ·exact .inr (by omega)
         ·rcases (hf2 b o (eW b o aA)).1 with hf | hf
          ·exact ti.apart id hl b o hf hi
          ·have:=(i1.own id hl b o hi).2;omega
         ·rcases (hf2 b o (eW b o aA)).1 with hf | hf
          ·exact ti.c0 b o hf hz
          ·have:=i1.iC b o hz;omega
        have yb:b5 w w' (ah.diff (ι p.id).F H1):=b5.iE hx (fun b o hb=>(Iz.own b o hb).2) (by
         rintro b o ag (hf | hf)
         ·exact ag.2 hf
         ·exact IA ln b o ag hf)
        exact PL bL jJ p_ fV ij oS h9 h_ iM l5 l6 te tf fh hz jN eL kA rv (Zg l4 h8 iM td Br rv (by rw [BD];exact Im) oY et) oY et o0 (p6 (.sl t) (b5.refl _ _) cK) o1 (Iz.ext hx) vU vV (hx.j5 Iw)
         (fun b7 bK X y bz q hs=>vW b7 bK X y bz q ((yb.mono fun _ _ h=>h.1).trans hs)) hbk Iu
       | _=>simp [vi] at hm
      | _=>simp [vi] at hm
   | _=>simp [vh] at kz
  | _=>simp [vh] at kz
theorem ZI{dy:Oper}{T:ae}{vk k1 k2 d0 i m ver cM dI:Nat}{p:Place}{sub:Option (Nat×Nat)}{ys:List T.D}{q:Int}{hv:Value}{s1:aq}(bX:gI P E)(gv:E.ty vk=some (.sl T))(l4:dy.op=.indexAddr vk (.tmp k1) (.tmp k2))(h8:k1≠d0)(IB:k2≠d0)(iM:d0<n.n)
  (hx:s1.t k1=.aU (.ag p.id sub)) (hq:j8 (s1.t k2)=some q) (hm:aN (kV sub ys) q=some m) (hi:eb sub+m=i) (h:Inv w0 F0 Z0 n s1 a w ι Z)
  (oY:s1.o p.id=.b_ (.row T T.own ver ys)) (et:(ι p.id).base=some (at_ cM dI)):(execOp (a.put (some d0) hv).eval dy).run P w=.ok (.value (.pointer (some (at_ cM (dI+i*T.size+0))))) w:=by
 obtain ⟨e,hu,iW⟩:=k_ (bX.ty vk _ gv)
 have h1:=h.tmps k1
 have h2:=h.tmps k2
 rw [hx] at h1
 simp only [aQ] at h1
 obtain ⟨_,A,len,c,iG,hh⟩:=h1
 obtain ⟨g1,g2,g3,g4,g5⟩:=hh T T.own ver ys (by rw [oY];rfl)
 obtain ⟨de,vv⟩:=rh hq h2
 have hl:kV sub ys=len:=by
  cases sub with
  | none=>simp [kV,g1]
  | some p=>obtain ⟨lo,l⟩:=p;simp [kV,g1]
 rw [hl] at hm
 obtain ⟨h2,h3,rfl,h4⟩:=xM hm
 rcases g5 with g5 | ⟨a0,fW,rfl⟩
 ·omega
 rw [et] at fW
 obtain rfl:=aV fW
 unfold execOp;rw [l4]
 refine fH ?_
 rw [x' _ _ (by rw [h.size];exact iM) (Ne.symm h8),x' _ _ (by rw [h.size];exact iM) (Ne.symm IB)]
 have e1:a.eval (.tmp k1)=a.tmps.getD k1 undef:=rfl
 have e2:a.eval (.tmp k2)=a.tmps.getD k2 undef:=rfl
 rw [e1,e2,iG,vv]
 have:=Hv (P:=P) (w:=w) (A:=at_ cM (dI+eb sub*T.size)) (b:=cM) (o:=dI+eb sub*T.size) (c:=c) (k:=de) hu iW h2 h3
 rw [← hi,Nat.add_zero,Nat.add_mul,← Nat.add_assoc]
 exact this
theorem ZJ{o dy eC eP:Oper}{id:Nat}{M:aq→Bool}{K:aq→Option bs}(bL:jt P E)(hn:E.n=n)(h:Inv w0 F0 Z0 n s a w ι Z)(hk:GZ E id s o dy eC eP M K=some r) :
  o.guard=none∧dy.guard=none∧eC.guard=none∧eP.guard=none ∧
   o.wp P a w (fun a w=>(∃nL,M nL=true∧cV w0 F0 Z0 n nL a w)∧dy.wp P a w (fun a w=>eC.wp P a w (fun a w=>eP.wp P a w (fun a w=>∃ar,K ar=some r∧cV w0 F0 Z0 n ar a w) Q) Q) Q) Q:=by
 unfold GZ at hk
 split at hk
 case h_2=>cases hk
 rename_i c vk k1 k2 mE e1 nK mF e2 e0 ho l4 jJ p_
 split at hk
 case h_2=>cases hk
 rename_i d0 d1 d2 hc tg fV ij
 cases hb:(vj E o dy eC eP k1 e1 e2 e0 d0 d1 d2 && !(Nat.beq k2 d0))
 ·rw [hb] at hk;cases hk
 rw [hb] at hk
 simp only [cond_true] at hk
 unfold vj at hb
 simp only [Bool.and_eq_true,Bool.not_eq_true',Option.isNone_iff_eq_none] at hb
 obtain ⟨⟨BB,c6,eE,h8,h9,h_,g0,g1,g2,g3,oS,iM,l5,l6⟩,IB⟩:=hb
 obtain rfl:=Nat.eq_of_beq_eq_true BB
 obtain rfl:=Nat.eq_of_beq_eq_true c6
 obtain rfl:=Nat.eq_of_beq_eq_true eE
 have iM:d0<n.n:=by rw [← hn];exact Nat.le_of_ble_eq_true iM
 have l5:d1<n.n:=by rw [← hn];exact Nat.le_of_ble_eq_true l5
 have l6:d2<n.n:=by rw [← hn];exact Nat.le_of_ble_eq_true l6
 refine⟨g0,g1,g2,g3,?_⟩
 split at hk
 case h_2=>cases hk
 rename_i kZ aj t gX ul dp p It vb ZK te tf gv ld
 split at hk
 case h_2=>cases hk
 rename_i k u cb i sub q v em ver xs j fh s5 hx1 nQ dR eL
 cases fI:(ae.beq gX t&&(ae.beq kZ v&&(!(Nat.beq u.size 0)&&(Nat.beq i p.id&&Nat.beq k p.off))))
 ·rw [fI] at hk;cases hk
 rw [fI] at hk
 simp only [cond_true] at hk
 simp only [Bool.and_eq_true,Bool.not_eq_true'] at fI
 obtain ⟨ht,vP,hz,td,jN⟩:=fI
 obtain rfl:=ae.eq_of_beq _ _ ht
 obtain rfl:=ae.eq_of_beq _ _ vP
 obtain rfl:=Nat.eq_of_beq_eq_true td
 obtain ⟨m,hm,hk⟩:=bf hk
 cases qc:Nat.beq (eb sub+m) j
 ·rw [qc] at hk;cases hk
 rw [qc] at hk
 simp only [cond_true] at hk
 have qc:=Nat.eq_of_beq_eq_true qc
 refine Zt (po:=0) bL h ho hc ld gv s5 tg jJ p_ fV ij oS (Nat.ne_of_beq_eq_false h9) (Nat.ne_of_beq_eq_false h_) iM l5 l6 te tf fh (Nat.ne_of_beq_eq_false hz) (by rw [Nat.zero_add];exact Nat.eq_of_beq_eq_true jN) eL ?_ hk
 intro T mM cM dI ys s1 dv cp n0 hv h1 BD oY P5 hb1
 rw [dR] at P5
 obtain ⟨rfl,_,_,h4⟩:=ck.row.inj P5
 have h4:=eq_of_heq h4
 subst h4
 exact ZI bL.ty ZK l4 (Nat.ne_of_beq_eq_false h8) (Nat.ne_of_beq_eq_false IB) iM (by rw [BD];exact hx1) (by rw [BD];exact nQ) hm qc h1 oY hb1
end
end Go.LM
