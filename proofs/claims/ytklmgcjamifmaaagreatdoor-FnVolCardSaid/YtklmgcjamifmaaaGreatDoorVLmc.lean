/- Calls are what the interpreter says. Conditions: each theorem's own hypotheses. -/
import Derived.Test.YtklmgcjamifmaaaGreatDoorVLmb
set_option linter.unusedVariables false
set_option linter.unusedSimpArgs false
namespace Go.LM
def fP:List Value→List Value
 | []=>[]
 | .func _ a b :: l=>a.toList++b.toList++fP l
 | _ :: l=>fP l
def gf(w:World)(Z:ah)(key:Nat):(ps:List bw)→(bw.ins ps).D→List Value→ah→Prop
 | [],_,us,_=>us=[]
 | .fn lF oy :: ps,x,us,F=>∃a b aR,us=.func (.func key) a b :: aR∧(a.size=lF∧b.size=oy)∧gf w Z key ps x aR F
 | .val t m :: ps,x,us,F=>∃vs aR G H,us=dB t vs :: aR∧t.al w Z m x.1 vs G∧gf w Z key ps x.2 aR H∧ah.apart G H∧ah.sub G F∧ah.sub H F
 | .gQ t :: ps,x,us,F=>∃vs aR G H,us=dB t vs :: aR∧t.al w Z .R x.1 vs G∧gf w Z key ps x.2 aR H∧ah.apart G H∧ah.sub G F∧ah.sub H F
 | .gP t m :: ps,x,us,F=>∃vs aR G H,us=dB t vs :: aR∧t.al w Z m x.1 vs G∧gf w Z key ps x.2 aR H∧ah.apart G H∧ah.sub G F∧ah.sub H F
 | .ref t :: ps,x,us,F=>∃b o vs aR,us=.pointer (some (at_ b o)) :: aR∧b2 w b o vs∧t.al w Z .R x.1 vs ah.none∧(∀j,j<t.size→Z b (o+j))∧gf w Z key ps x.2 aR F
 | .mut t m _ :: ps,x,us,F=>∃b o vs aR G H,us=.pointer (some (at_ b o)) :: aR∧b2 w b o vs∧(∀j,j<t.size→e' w b (o+j))∧t.al w Z m x.1 vs G∧gf w Z key ps x.2 aR H ∧
   ah.apart (G.or (ah.run b o t.size)) H∧ah.apart G (ah.run b o t.size)∧ah.sub (G.or (ah.run b o t.size)) F∧ah.sub H F
def hV(w:World)(Z:ah):(ps:List bw)→List Value→(bw.dU ps).D→ah→Prop
 | [],_,_,_=>True
 | .mut t _ m' :: ps,us,x,F=>∃b o vs aR G H,us=.pointer (some (at_ b o)) :: aR∧b2 w b o vs∧t.al w Z m' x.1 vs G∧hV w Z ps aR x.2 H ∧
   ah.apart (G.or (ah.run b o t.size)) H∧ah.apart G (ah.run b o t.size)∧ah.sub (G.or (ah.run b o t.size)) F∧ah.sub H F
 | .gP t m :: ps,us,x,F=>∃vs aR G H,us=dB t vs :: aR∧t.al w Z m x.1 vs G∧hV w Z ps aR x.2 H∧ah.apart G H∧ah.sub G F∧ah.sub H F
 | .val _ _ :: ps,us,x,F=>∃u aR,us=u :: aR∧hV w Z ps aR x F
 | .gQ _ :: ps,us,x,F=>∃u aR,us=u :: aR∧hV w Z ps aR x F
 | .ref _ :: ps,us,x,F=>∃u aR,us=u :: aR∧hV w Z ps aR x F
 | .fn _ _ :: ps,us,x,F=>∃u aR,us=u :: aR∧hV w Z ps aR x F
def HB(w:World)(us:List Value)(a off size:Nat)(x:Int)(v:Value):Prop :=
 (x<0∧v=.pointer none)∨(0≤x∧∃b o iS dz n c,us[a]?=some (.pointer (some (at_ b o)))∧w.cell? (at_ b (o+off))=some (.slice (some (at_ iS dz)) n c)∧x.toNat<n∧v=.pointer (some (at_ iS (dz+x.toNat*size))))
def hL(w:World)(Z:ah)(ps:List bw)(us:List Value):(rs:List cS)→(cS.outs rs (bw.dU ps)).D→List Value→ah→Prop
 | [],x,di,F=>di=[]∧hV w Z ps us x F
 | .val t m :: rs,x,di,F=>∃vs dX G H,di=dB t vs :: dX∧t.al w Z m x.1 vs G∧hL w Z ps us rs x.2 dX H∧ah.apart G H∧ah.sub G F∧ah.sub H F
 | .opt a off t :: rs,x,di,F=>∃v dX,di=v :: dX∧HB w us a off t.size x.1 v∧hL w Z ps us rs x.2 dX F
 | .any t :: rs,x,di,F=>∃v dX,di=v :: dX∧(v.cells.toList.length=t.size∧∀u∈v.cells.toList,dY u=true)∧hL w Z ps us rs x dX F
 | .oz t :: rs,x,di,F=>∃v dX,di=v :: dX∧((x.1=[]∧v=.pointer none)∨∃y b o vs,x.1=[y]∧v=.pointer (some (at_ b o))∧b2 w b o vs∧t.al w Z .R y vs ah.none∧∀j,j<t.size→Z b (o+j))∧hL w Z ps us rs x.2 dX F
 | .new t m :: rs,x,di,F=>∃b o vs dX G H,di=.pointer (some (at_ b o)) :: dX∧b2 w b o vs∧(∀j,j<t.size→e' w b (o+j))∧t.al w Z m x.1 vs G∧hL w Z ps us rs x.2 dX H ∧
   ah.apart (G.or (ah.run b o t.size)) H∧ah.apart G (ah.run b o t.size)∧ah.sub (G.or (ah.run b o t.size)) F∧ah.sub H F
def nR:List Value→Value
 | [v]=>v
 | l=>.tuple l.toArray
structure Ends(w:World)(Z F:ah)(e:Entry)(us:List Value)(r:(cS.outs e.rs (bw.dU e.ps)).D)(v:Value)(w':World):Prop where
 out:∃di Z' F',v=nR di∧Ext w w' F∧ah.sub Z Z'∧(∀b o,Z' b o→Z b o∨((F b o∨w.heap.size≤b)∧b<w'.heap.size))∧(∀b o,F' b o→(F b o∨w.heap.size≤b)∧b<w'.heap.size) ∧
  ah.apart F' Z'∧hL w' Z' e.ps (us++fP us) e.rs r di F'
structure Sound(P:Program)(f:FuncId)(key:Nat)(e:Entry):Prop where
 fn:∃fn,P.funcs[f]?=some fn∧fn.body.isNone=false∧(fn.name == "runtime.NumGoroutine")=false
 calls:∀(w:World) (Z F:ah) (x:(bw.ins e.ps).D) (us:List Value) (r:(cS.outs e.rs (bw.dU e.ps)).D),
  (∀b o,Z b o→b<w.heap.size)→(∀b o,F b o→b<w.heap.size)→ah.apart F Z→gf w Z key e.ps x (us++fP us) F→e.f x=some r →
  Calls P f us.toArray w fun end_ w'=>∃v,end_=.returned v∧Ends w Z F e us r v w'
def vy(P:Program)(f:FuncId)(us:Array Value)(w:World)(R:Ending→World→Prop):Prop :=
 ((∃fn,P.funcs[f]?=some fn∧fn.body.isNone=false∧(fn.name == "runtime.NumGoroutine")=false)∧Calls P f us w R)∨∃v w',(callFunc f us).run P w=.ok (.value v) w'∧R (.returned v) w'
structure hp(P:Program)(f:FuncId)(key:Nat)(e:Entry):Prop where
 calls:∀(w:World) (Z F:ah) (x:(bw.ins e.ps).D) (us:List Value) (r:(cS.outs e.rs (bw.dU e.ps)).D),
  (∀b o,Z b o→b<w.heap.size)→(∀b o,F b o→b<w.heap.size)→ah.apart F Z→gf w Z key e.ps x (us++fP us) F→e.f x=some r →
  vy P f us.toArray w fun end_ w'=>∃v,end_=.returned v∧Ends w Z F e us r v w'
theorem Sound.x{P:Program}{f:FuncId}{key:Nat}{e:Entry}(h:Sound P f key e):hp P f key e :=
 ⟨fun w Z F x us r h1 h2 h3 h4 aZ=>.inl ⟨h.fn,h.calls w Z F x us r h1 h2 h3 h4 aZ⟩⟩
instance {P:Program} {f:FuncId} {key:Nat} {e:Entry} : Coe (Sound P f key e) (hp P f key e):=⟨Sound.x⟩
section
variable{P:Program}{Q:Exit→Act→World→Prop}
variable{w0:World}{F0 Z0:ah}{n:cC}{s aq:an}{a b6:Act}{w w':World}{ι ba:Nat→bD}{Z Z':ah}
theorem gf.mono{key:Nat}(hZ:ah.sub Z Z'):∀(ps:List bw) {x:(bw.ins ps).D} {us:List Value} {F F':ah},ah.sub F F'→gf w Z key ps x us F→gf w Z' key ps x us F'
 | [],_,_,_,_,_,h=>h
 | .fn _ _ :: ps,_,_,_,_,hF,h=>by
  obtain ⟨a,b,aR,h1,h0,h2⟩:=h
  exact⟨a,b,aR,h1,h0,gf.mono hZ ps hF h2⟩
 | .val t m :: ps,_,_,_,_,hF,h=>by
  obtain ⟨vs,aR,G,H,h1,h2,h3,h4,aZ,bd⟩:=h
  exact⟨vs,aR,G,H,h1,ad.al.mono hZ _ _ (fun _ _ h=>h) h2,gf.mono hZ ps (fun _ _ h=>h) h3,h4,fun b o h=>hF b o (aZ b o h),fun b o h=>hF b o (bd b o h)⟩
 | .gQ t :: ps,_,_,_,_,hF,h=>by
  obtain ⟨vs,aR,G,H,h1,h2,h3,h4,aZ,bd⟩:=h
  exact⟨vs,aR,G,H,h1,ad.al.mono hZ _ _ (fun _ _ h=>h) h2,gf.mono hZ ps (fun _ _ h=>h) h3,h4,fun b o h=>hF b o (aZ b o h),fun b o h=>hF b o (bd b o h)⟩
 | .gP t m :: ps,_,_,_,_,hF,h=>by
  obtain ⟨vs,aR,G,H,h1,h2,h3,h4,aZ,bd⟩:=h
  exact⟨vs,aR,G,H,h1,ad.al.mono hZ _ _ (fun _ _ h=>h) h2,gf.mono hZ ps (fun _ _ h=>h) h3,h4,fun b o h=>hF b o (aZ b o h),fun b o h=>hF b o (bd b o h)⟩
 | .ref t :: ps,_,_,_,_,hF,h=>by
  obtain ⟨b,o,vs,aR,h1,h2,h3,h4,aZ⟩:=h
  exact⟨b,o,vs,aR,h1,h2,ad.al.mono hZ _ _ (fun _ _ h=>h) h3,fun j hj=>hZ _ _ (h4 j hj),gf.mono hZ ps hF aZ⟩
 | .mut t m m' :: ps,_,_,_,_,hF,h=>by
  obtain ⟨b,o,vs,aR,G,H,h1,h2,h3,h4,aZ,bd,bC,cU,jo⟩:=h
  exact⟨b,o,vs,aR,G,H,h1,h2,h3,ad.al.mono hZ _ _ (fun _ _ h=>h) h4,gf.mono hZ ps (fun _ _ h=>h) aZ,bd,bC,fun b o h=>hF b o (cU b o h),fun b o h=>hF b o (jo b o h)⟩
structure fj(s:an)(ι : Nat→bD)(Z:ah)(aq:an)(Z':ah):Prop where
 o:∀id,aq.o id=s.o id∨((s.o id).live∧(aq.o id=.dead∨aq.o id=.b_ (s.o id)))
 t:aq.t=s.t
 g:aq.g=s.g
 dA:ah.sub Z Z'
 oC:∀b o,Z' b o→Z b o∨∃id,(s.o id).live∧¬(aq.o id).live∧(ι id).F b o
theorem eV.lS(h:eV s ι Z aq Z'):fj s ι Z aq Z' :=
 ⟨fun id=>(h.o id).imp (fun h=>h) fun h=>⟨h.1,.inl h.2⟩,h.t,h.g,h.dA,fun b o hz=>(h.oC b o hz).imp (fun h=>h) fun⟨id,h1,h2,h3⟩=>⟨id,h1,by rw [h2];exact Yd,h3⟩⟩
where Yd:¬cj.live .dead:=fun h=>h
theorem fj.refl:fj s ι Z s Z:=eV.lS .refl
theorem fj.live(h:fj s ι Z aq Z'){id:Nat}(hl:(aq.o id).live):(s.o id).live∧aq.o id=s.o id:=by
 rcases h.o id with h1 | ⟨_,h1 | h1⟩
 ·exact⟨h1 ▸ hl,h1⟩
 ·rw [h1] at hl;exact hl.elim
 ·rw [h1] at hl;exact hl.elim
theorem fj.trans{s2:an}{bK:ah}(h:fj s ι Z aq Z')(k:fj aq ι Z' s2 bK):fj s ι Z s2 bK:=by
 refine⟨fun id=>?_,k.t.trans h.t,k.g.trans h.g,fun b o hz=>k.dA b o (h.dA b o hz),fun b o hz=>?_⟩
 ·rcases k.o id with h1 | ⟨h0,h1⟩
  ·rw [h1];exact h.o id
  ·obtain ⟨h2,h3⟩:=h.live h0
   rw [h3] at h1
   exact .inr ⟨h2,h1⟩
 ·rcases k.oC b o hz with h1 | ⟨id,h1,h2,h3⟩
  ·rcases h.oC b o h1 with h1 | ⟨id,h1,h2,h3⟩
   ·exact .inl h1
   ·exact .inr ⟨id,h1,fun hl=>h2 (k.live hl).1,h3⟩
  ·exact .inr ⟨id,(h.live h1).1,h2,h3⟩
theorem fj.eb(h:fj s ι Z aq Z'):eB w Z s ι w Z' aq ι := by
 refine⟨fun id=>?_,h.dA,b4.refl _ _⟩
 rcases h.o id with h1 | ⟨h0,h1 | h1⟩
 ·rw [h1];exact .stay _ _
 ·rw [h1];exact .dead _ _ _
 ·rw [h1];exact .fb _ _ h0
theorem bF.sY{F:ah}(hf:bF w0 F0 s w ι Z F)(h:fj s ι Z aq Z'):bF w0 F0 aq w ι Z' F:=by
 refine⟨hf.own,fun id hl=>hf.apart id (h.live hl).1,fun b o h1 h2=>?_⟩
 rcases h.oC b o h2 with h3 | ⟨id,h3,_,h4⟩
 ·exact hf.cY b o h1 h3
 ·exact hf.apart id h3 b o h1 h4
theorem xJ{id:Nat}(hl:(s.o id).live):fj s ι Z (s.bO id (.b_ (s.o id))) Z:=by
 refine⟨fun j=>?_,rfl,rfl,fun _ _ h=>h,fun _ _ h=>.inl h⟩
 by_cases hj:id=j
 ·subst hj;exact .inr ⟨hl,.inr (ct _ _ _)⟩
 ·exact .inl (cO hj)
theorem Inv.lS(h:Inv w0 F0 Z0 n s a w ι Z)(az:fj s ι Z aq Z'):Inv w0 F0 Z0 n aq a w ι Z':=by
 have hm:eB w Z s ι w Z' aq ι := az.eb
 refine h.next hm (Ext.refl _ ah.none) (fun _ _ h=>h.elim) ?_ ?_ ?_ (fun k=>by rw [az.t];exact(h.tmps k).move hm) h.size h.defers az.g
 ·intro b o hz
  rcases az.oC b o hz with h1 | ⟨id,h1,_,h3⟩
  ·exact .inl h1
  ·exact .inr (h.own id h1 b o h3)
 ·intro id hl hne;exact absurd ⟨(az.live hl).2,rfl⟩ hne
 ·intro id hl b o h1 h2
  obtain ⟨dN,_⟩:=az.live hl
  rcases az.oC b o h2 with h3 | ⟨j,h3,h4,aZ⟩
  ·exact h.cY id dN b o h1 h3
  ·have hne:id≠j:=fun e=>h4 (e ▸ hl)
   exact h.apart id j dN h3 hne b o h1 aZ
theorem Inv.xK(h:Inv w0 F0 Z0 n s a w ι Z){id:Nat}(hl:(s.o id).live):bF w0 F0 (s.bO id (.b_ (s.o id))) w ι Z (ι id).F:=by
 refine⟨h.own id hl,fun j hj=>?_,h.cY id hl⟩
 have hj':(bQ s.o id (cj.b_ (s.o id)) j).live:=hj
 by_cases hne:id=j
 ·subst hne;rw [ct] at hj';exact hj'.elim
 ·rw [cO hne] at hj'
  exact h.apart id j hl hj' hne
def vz(g:Bool)(w:World)(Z:ah)(s:an)(ι : Nat→bD)(t:ad)(p:Place)(u:Value)(H:ah):Prop :=
 ∃ver old b o vs,(g=true→¬(s.o p.id).live)∧(∀ep,s.o p.id=.b_ ep→ep=.var ver old∧(ι p.id).base=some (at_ b o))∧p.fa=none∧u=.pointer (some (at_ b (o+p.off)))∧p.off+t.size≤old.length∧bH w Z s ι old vs ∧
  (∀j,j<old.length→e' w b (o+j))∧(∀j,j<old.length→(j<p.off∨p.off+t.size≤j)→H b (o+j)) ∧
  (∀(j:Nat) (v:Value),vs[j]?=some v→(j<p.off∨p.off+t.size≤j)→w.cell? (at_ b (o+j))=some v)
def vA(g:Bool)(w:World)(Z:ah)(s:an)(ι : Nat→bD)(t:ad)(m:a')(p:Place)(u:Value)(H:ah):Prop :=
 ∃ver xs i b o c G1 G2,(g=true→¬(s.o p.id).live)∧(∀ep,s.o p.id=.b_ ep→ep=.row t m ver xs∧(ι p.id).base=some (at_ b o)∧(ι p.id).cap=c)∧p.fa=some i∧i<xs.length∧u=.pointer (some (at_ b (o+i*t.size)))∧xs.length≤c ∧
  (∀j,j<c*t.size→fz w t.size b (o+j))∧(∀j,j<c*t.size→(j<i*t.size∨(i+1)*t.size≤j)→H b (o+j)) ∧
  Row w (t.al w Z m) t.size (xs.take i) b o G1∧Row w (t.al w Z m) t.size (xs.drop (i+1)) b (o +(i+1)*t.size) G2∧ah.apart G1 G2∧ah.sub G1 H∧ah.sub G2 H ∧
  (∀j,j<c*t.size→¬G1 b (o+j)∧¬G2 b (o+j))
def Ye(g:Bool)(s:an)(ι : Nat→bD)(t:ad)(e:a')(cq:Option Place)(v:Value)(H:ah)(w:World):Prop :=
 ∃(p:Place) (i:Nat) (T:ad) (ver:Nat) (ys:List T.D) (b o c:Nat),cq=some p∧p.fa=some i∧(g=true→¬(s.o p.id).live)∧(∀ep,s.o p.id=.b_ ep→ep=.row T T.own ver ys∧(ι p.id).base=some (at_ b o)∧(ι p.id).cap=c)∧i<ys.length∧e=t.own ∧
  ∀(b7:World) (bK X:ah) (y:List t.D) (bz:T.D),b4 w b7 H→(ad.sl t).al b7 bK (.O t.own) y [v] X→ah.apart X H→T.setAt p.off t y (J T ys i)=some bz→mA b7 (T.al b7 bK T.own) T.size (ys.set i bz) (at_ b o) c (X.or H)
mutual
def cV(g:Bool)(w:World)(Z:ah)(s:an)(ι : Nat→bD):(t:ad)→a'→List a8→List Value→ah→Prop
 | .sl t,.O e,cs,vs,H=>∃c v,cs=[c]∧vs=[v]∧match c with
  | .nil _=>v=.slice none 0 0
  | .ag id none=>∃ver xs A k c,(g=true→¬(s.o id).live)∧(∀ep,s.o id=.b_ ep→ep=.row t e ver xs∧(ι id).cap=c∧GM (ι id) t.size none xs.length A xs.length k)∧v=.slice A xs.length k ∧
    ((xs=[]∧c=0)∨∃b o,(∀ep,s.o id=.b_ ep→(ι id).base=some (at_ b o))∧xs.length≤c∧k≤c∧(k=0∨A=some (at_ b o))∧(∀j,j<c*t.size→fz w t.size b (o+j))∧(∀j,k*t.size≤j→j<c*t.size→H b (o+j)))
  | .bY _ _ cq _=>Ye g s ι t e cq v H w
  | _=>False
 | .sl _,_,_,_,_=>False
 | .st aj,m,cs,vs,H=>fo g w Z s ι aj m.parts cs vs H
 | _,_,cs,vs,_=>cs.length=1∧vs.length=1
def fo(g:Bool)(w:World)(Z:ah)(s:an)(ι : Nat→bD):(aj:ax)→cQ→List a8→List Value→ah→Prop
 | .nil,_,cs,vs,_=>cs=[]∧vs=[]
 | .cons t aj,m,cs,vs,H=>∃c1 gm v1 v2 H1 H2,cs=c1++gm∧vs=v1++v2∧cV g w Z s ι t m.ag c1 v1 H1∧fo g w Z s ι aj m.dq gm v2 H2∧ah.apart H1 H2∧ah.sub H1 H∧ah.sub H2 H
end
def eM(g:Bool)(w:World)(Z:ah)(s:an)(ι : Nat→bD):(ps:List bw)→List a6→List Value→ah→Prop
 | [],_,_,_=>True
 | .mut t m m' :: ps,vs,us,H=>∃p bE u aR H1 H2,vs=.ptr p :: bE∧us=u :: aR∧(vz g w Z s ι t p u H1∨(m'=m∧m=t.own∧vA g w Z s ι t m p u H1))∧eM g w Z s ι ps bE aR H2∧ah.apart H1 H2∧ah.sub H1 H∧ah.sub H2 H
 | .gP t m :: ps,vs,us,H=>∃v bE u aR cs H1 H2,vs=v :: bE∧us=u :: aR∧im t v=some cs∧m=t.own∧cV g w Z s ι t m cs u.cells.toList H1∧eM g w Z s ι ps bE aR H2∧ah.apart H1 H2∧ah.sub H1 H∧ah.sub H2 H
 | _ :: ps,vs,us,H=>∃v bE u aR,vs=v :: bE∧us=u :: aR∧eM g w Z s ι ps bE aR H
end
end Go.LM
namespace Go.LM
section
variable{P:Program}{Q:Exit→Act→World→Prop}
variable{g:Bool}{w0:World}{F0 Z0:ah}{n:cC}{s aq:an}{a b6:Act}{w w':World}{ι ba:Nat→bD}{Z Z':ah}
structure gr(g:Bool)(w:World)(Z:ah)(s:an)(ι : Nat→bD)(w':World)(Z':ah)(aq:an)(ba:Nat→bD)(H:ah):Prop where
 aB:∀x v,aO w Z s ι x v→aO w' Z' aq ba x v
 cell:∀c v,cf w Z s ι c v→cf w' Z' aq ba c v
 dA:ah.sub Z Z'
 b_:∀id o',(g=true→¬(s.o id).live)→aq.o id=.b_ o'→s.o id=.b_ o' ∧ ba id = ι id
 nl:g=true→∀id,¬(s.o id).live→¬(aq.o id).live
 same:b4 w w' H
 AW:b4 w w' Z
 wr:∀b o,e' w b o→e' w' b o
 xL:∀z b o,fz w z b o→fz w' z b o
theorem gr.mono{H fE:ah}(h:gr g w Z s ι w' Z' aq ba H)(hs:ah.sub fE H):gr g w Z s ι w' Z' aq ba fE:=⟨h.aB,h.cell,h.dA,h.b_,h.nl,h.same.mono hs,h.AW,h.wr,h.xL⟩
theorem vz.move{t:ad}{p:Place}{u:Value}{H fE:ah}(h:gr g w Z s ι w' Z' aq ba H)(cD:ah.sub H fE)(hk:vz g w Z s ι t p u H):vz g w' Z' aq ba t p u fE:=by
 obtain ⟨ver,old,b,o,vs,h0,h1,h2,h4,aZ,bd,bC,cU,jo⟩:=hk
 have hl:=bd.len
 refine⟨ver,old,b,o,vs,fun az=>h.nl az _ (h0 az),fun ep bU=>?_,h2,h4,aZ,bH.mono h.cell bd,fun j hj=>h.wr _ _ (bC j hj),fun j hj hh=>cD _ _ (cU j hj hh),fun j v hv hh=>?_⟩
 ·obtain ⟨dO,eD⟩:=h.b_ _ _ h0 bU
  rw [eD];exact h1 ep dO
 have hj:j<old.length:=by
  rcases Nat.lt_or_ge j vs.length with h | h
  ·omega
  ·rw [List.getElem?_eq_none h] at hv;simp at hv
 rw [(h.same _ _ (cU j hj hh)).1]
 exact jo j v hv hh
theorem vA.move{t:ad}{m:a'}{p:Place}{u:Value}{H fE:ah}(h:gr g w Z s ι w' Z' aq ba H)(cD:ah.sub H fE)(hk:vA g w Z s ι t m p u H):vA g w' Z' aq ba t m p u fE:=by
 obtain ⟨ver,xs,i,b,o,c,G1,G2,h0,h1,h2,h3,aZ,bd,bC,cU,jo,jL,xM,ld,vB,vC⟩:=hk
 have cK:∀(G:ah),ah.sub G H→∀y us de,ah.sub de G→t.al w Z m y us de→t.al w' Z' m y us de:=fun G hG y us de G0 hr =>
  ad.al.mono h.dA _ _ (fun _ _ h=>h) (ad.al.same h.AW _ _ (h.same.mono fun b o az=>hG b o (G0 b o az)) hr)
 have hcap:(i+1)*t.size≤c*t.size:=Nat.mul_le_mul_right _ (by omega)
 have hcell:∀j,j<c*t.size→(j<i*t.size∨(i+1)*t.size≤j)→w'.cell? (at_ b (o+j))=w.cell? (at_ b (o+j)):=fun j hj hh=>(h.same _ _ (cU j hj hh)).1
 refine⟨ver,xs,i,b,o,c,G1,G2,fun az=>h.nl az _ (h0 az),fun ep bU=>?_,h2,h3,aZ,bd,fun j hj=>h.xL _ _ _ (bC j hj),fun j hj hh=>cD _ _ (cU j hj hh),?_,?_,xM,fun b o az=>cD b o (ld b o az),fun b o az=>cD b o (vB b o az),vC⟩
 ·obtain ⟨dO,eD⟩:=h.b_ _ _ h0 bU
  rw [eD];exact h1 ep dO
 ·refine jo.imp (cK G1 ld) fun j hj=>hcell j ?_ (.inl ?_)
  all_goals
   have:(xs.take i).length=i:=by simp;omega
   rw [this] at hj
   rw [Nat.add_one_mul] at hcap
   omega
 ·refine jL.imp (cK G2 vB) fun j hj=>?_
  have hle:xs.length*t.size≤c*t.size:=Nat.mul_le_mul_right _ bd
  have e1:(xs.drop (i+1)).length=xs.length-(i+1):=by simp
  rw [e1,Nat.sub_mul] at hj
  have:=hcell ((i+1)*t.size+j) (by omega) (.inr (by omega))
  rwa [← Nat.add_assoc] at this
mutual
theorem cV.move{H fE:ah}(h:gr g w Z s ι w' Z' aq ba H)(cD:ah.sub H fE):∀(t:ad) (m:a') {cs:List a8} {vs:List Value},cV g w Z s ι t m cs vs H→cV g w' Z' aq ba t m cs vs fE
 | .int _,_,_,_,hk=>by simp only [cV] at hk ⊢;exact hk
 | .bool,_,_,_,hk=>by simp only [cV] at hk ⊢;exact hk
 | .str,_,_,_,hk=>by simp only [cV] at hk ⊢;exact hk
 | .raw,_,_,_,hk=>by simp only [cV] at hk ⊢;exact hk
 | .sl t,.R,_,_,hk=>by simp only [cV] at hk
 | .sl t,.S _,_,_,hk=>by simp only [cV] at hk
 | .sl t,.O e,_,_,hk=>by
  simp only [cV] at hk ⊢
  obtain ⟨c,v,h1,h2,hk⟩:=hk
  refine⟨c,v,h1,h2,?_⟩
  cases c with
  | nil=>exact hk
  | ag id sub =>
   cases sub with
   | some=>exact hk
   | none =>
    obtain ⟨ver,xs,A,k,c,lP,k1,k2,bf⟩:=hk
    refine⟨ver,xs,A,k,c,fun az=>h.nl az _ (lP az),fun ep bU=>?_,k2,?_⟩
    ·obtain ⟨dO,eD⟩:=h.b_ _ _ lP bU
     rw [eD];exact k1 ep dO
    rcases bf with bf | ⟨b,o,c4,eC,hY,h5,h6,oM⟩
    ·exact .inl bf
    ·right
     refine⟨b,o,fun ep bU=>?_,eC,hY,h5,fun j hj=>h.xL _ _ _ (h6 j hj),fun j h1 h2=>cD _ _ (oM j h1 h2)⟩
     obtain ⟨dO,eD⟩:=h.b_ _ _ lP bU
     rw [eD];exact c4 ep dO
  | bY u dp cq xs =>
   obtain ⟨p,i,T,ver,ys,b,o,c,au,hi,lP,k1,k2,k3,bf⟩:=hk
   refine⟨p,i,T,ver,ys,b,o,c,au,hi,fun az=>h.nl az _ (lP az),fun ep bU=>?_,k2,k3,fun b7 bK X y bz c4 eC hY h5=>?_⟩
   ·obtain ⟨dO,eD⟩:=h.b_ _ _ lP bU
    rw [eD];exact k1 ep dO
   ·have:=bf b7 bK X y bz (h.same.trans (c4.mono cD)) eC (fun b o x y=>hY b o x (cD b o y)) h5
    obtain ⟨G,g1,g2,g3⟩:=this.row
    exact⟨this.spot,this.cap,this.wr,fun j hj=>(this.inF j hj).imp (fun h=>h) (cD _ _),G,g1,g2,fun b o x=>(g3 b o x).imp (fun h=>h) (cD b o)⟩
  | _=>exact hk
 | .st aj,m,_,_,hk=>by simp only [cV] at hk ⊢;exact fo.move h cD aj m.parts hk
theorem fo.move{H fE:ah}(h:gr g w Z s ι w' Z' aq ba H)(cD:ah.sub H fE):∀(aj:ax) (m:cQ) {cs:List a8} {vs:List Value},fo g w Z s ι aj m cs vs H→fo g w' Z' aq ba aj m cs vs fE
 | .nil,_,_,_,hk=>by simp only [fo] at hk ⊢;exact hk
 | .cons t aj,m,_,_,hk=>by
  simp only [fo] at hk ⊢
  obtain ⟨c1,gm,v1,v2,H1,H2,h1,h2,h3,h4,aZ,bd,bC⟩:=hk
  exact⟨c1,gm,v1,v2,H1,H2,h1,h2,cV.move (h.mono bd) (fun _ _ h=>h) t m.ag h3,fo.move (h.mono bC) (fun _ _ h=>h) aj m.dq h4,aZ,fun b o x=>cD b o (bd b o x),fun b o x=>cD b o (bC b o x)⟩
end
theorem eM.move{H fE:ah}(h:gr g w Z s ι w' Z' aq ba H)(cD:ah.sub H fE):∀(ps:List bw) {vs:List a6} {us:List Value},eM g w Z s ι ps vs us H→eM g w' Z' aq ba ps vs us fE
 | [],_,_,_=>trivial
 | .mut t m m' :: ps,_,_,⟨p,bE,u,aR,H1,H2,h1,h2,h3,h4,aZ,bd,bC⟩=>⟨p,bE,u,aR,H1,H2,h1,h2,h3.imp (vz.move (h.mono bd) (fun _ _ h=>h)) (fun hk=>⟨hk.1,hk.2.1,vA.move (h.mono bd) (fun _ _ h=>h) hk.2.2⟩),eM.move (h.mono bC) (fun _ _ h=>h) ps h4,aZ,fun b o x=>cD b o (bd b o x),fun b o x=>cD b o (bC b o x)⟩
 | .gP t m :: ps,_,_,⟨v,bE,u,aR,cs,H1,H2,h1,h2,h3,nS,h4,aZ,bd,bC,cU⟩=>⟨v,bE,u,aR,cs,H1,H2,h1,h2,h3,nS,cV.move (h.mono bC) (fun _ _ h=>h) t m h4,eM.move (h.mono cU) (fun _ _ h=>h) ps aZ,bd,fun b o x=>cD b o (bC b o x),fun b o x=>cD b o (cU b o x)⟩
 | .val _ _ :: ps,_,_,⟨v,bE,u,aR,h1,h2,h3⟩=>⟨v,bE,u,aR,h1,h2,eM.move h cD ps h3⟩
 | .gQ _ :: ps,_,_,⟨v,bE,u,aR,h1,h2,h3⟩=>⟨v,bE,u,aR,h1,h2,eM.move h cD ps h3⟩
 | .ref _ :: ps,_,_,⟨v,bE,u,aR,h1,h2,h3⟩=>⟨v,bE,u,aR,h1,h2,eM.move h cD ps h3⟩
 | .fn _ _ :: ps,_,_,⟨v,bE,u,aR,h1,h2,h3⟩=>⟨v,bE,u,aR,h1,h2,eM.move h cD ps h3⟩
theorem fj.held(h:fj s ι Z aq Z')(H:ah):gr true w Z s ι w Z' aq ι H:=by
 refine⟨fun _ _=>aO.move h.eb,fun _ _=>cf.move h.eb,h.dA,fun id o' hn ho=>⟨?_,rfl⟩,fun _ id hn hl=>hn (h.live hl).1,b4.refl _ _,b4.refl _ _,fun _ _ h=>h,fun _ _ _ h=>h⟩
 rcases h.o id with h1 | ⟨h0,_⟩
 ·rw [← h1,ho]
 ·exact absurd h0 (hn rfl)
def HC(w0:World)(F0 Z0:ah)(n:cC)(s:an)(a:Act)(w:World)(ι : Nat→bD)(Z:ah)(R:List Value→ah→Prop)(AX:an→List a8→List Value→ah→Prop)(cs:List a8)(vs:List Value)(cs':List a8)(aq:an):Prop :=
 ∃c1 us bE F H,cs=c1++cs'∧vs=us++bE∧Inv w0 F0 Z0 n aq a w ι Z∧fj s ι Z aq Z∧bH w Z aq ι cs' bE∧bF w0 F0 aq w ι Z F∧bF w0 F0 aq w ι Z H∧ah.apart F H ∧
  R us F∧AX aq c1 us H∧∀b o,F b o∨H b o→∃id,(s.o id).live∧(ι id).F b o
theorem AY{R:List Value→ah→Prop}{AX:an→List a8→List Value→ah→Prop}{c:a8}{v:Value}{cs':List a8}{bE:List Value}(h:Inv w0 F0 Z0 n s a w ι Z)(hc:bH w Z s ι cs' bE)
  (dt:R [v] ah.none) (xN:AX s [c] [v] ah.none):HC w0 F0 Z0 n s a w ι Z R AX (c :: cs') (v :: bE) cs' s :=
 ⟨[c],[v],bE,ah.none,ah.none,rfl,rfl,h,.refl,hc,.none,.none,fun _ _ h=>h.elim,dt,xN,fun _ _ h=>h.elim (fun h=>h.elim) fun h=>h.elim⟩
mutual
theorem ad.xO:∀(t:ad) (m:a') (cs:List a8) (s:an) (r:t.D×List a8×an) (vs:List Value),t.fb m cs s=some r→Inv w0 F0 Z0 n s a w ι Z→bH w Z s ι cs vs →
  HC w0 F0 Z0 n s a w ι Z (fun us F=>t.al w Z m r.1 us F) (fun s c us H=>cV true w Z s ι t m c us H) cs vs r.2.1 r.2.2
 | .int k,m,cs,s,r,vs,hi,h,hc=>by
  match cs,vs,hc with
  | [],_,_=>simp [ad.fb] at hi
  | _ :: _,[],hc=>exact hc.elim
  | c :: cs,v :: vs,hc =>
   cases c <;> simp only [ad.fb] at hi <;> try (simp at hi;done)
   rename_i k' x
   cases hb:Nat.beq (dg k) (dg k')
   ·rw [hb] at hi;simp at hi
   rw [hb] at hi
   obtain rfl:=aU hi
   have:=AG hb
   subst this
   have hv:v=.int k x:=hc.1
   exact AY h hc.2 (by simp only [ad.al];rw [hv]) (by simp only [cV];exact⟨rfl,rfl⟩)
 | .bool,m,cs,s,r,vs,hi,h,hc=>by
  match cs,vs,hc with
  | [],_,_=>simp [ad.fb] at hi
  | _ :: _,[],hc=>exact hc.elim
  | c :: cs,v :: vs,hc =>
   cases c <;> simp only [ad.fb] at hi <;> try (simp at hi;done)
   obtain rfl:=aU hi
   have hv:=hc.1
   simp only [cf] at hv
   exact AY h hc.2 (by simp only [ad.al];rw [hv]) (by simp only [cV];exact⟨rfl,rfl⟩)
 | .str,m,cs,s,r,vs,hi,h,hc=>by
  match cs,vs,hc with
  | [],_,_=>simp [ad.fb] at hi
  | _ :: _,[],hc=>exact hc.elim
  | c :: cs,v :: vs,hc =>
   cases c <;> simp only [ad.fb] at hi <;> try (simp at hi;done)
   obtain rfl:=aU hi
   have hv:=hc.1
   obtain ⟨j8,hv,hx⟩:=hv
   exact AY h hc.2 (by simp only [ad.al];exact⟨j8,by rw [hv],hx⟩) (by simp only [cV];exact⟨rfl,rfl⟩)
 | .raw,m,cs,s,r,vs,hi,h,hc=>by cases cs <;> cases m <;> simp [ad.fb] at hi
 | .sl t,m,cs,s,r,vs,hi,h,hc=>by
  match cs,vs,hc with
  | [],_,_=>cases m <;> simp [ad.fb] at hi
  | _ :: _,[],hc=>exact hc.elim
  | c :: cs,v :: vs,hc =>
   cases m with
   | R=>simp [ad.fb] at hi
   | S=>simp [ad.fb] at hi
   | O e =>
    cases c with
    | nil u =>
     simp only [ad.fb] at hi
     obtain ⟨x,hx,hi⟩:=bb hi
     obtain ⟨e1,rfl⟩:=gD hx
     subst e1
     obtain rfl:=aU hi
     have hv:v=.slice none 0 0:=hc.1
     refine AY h hc.2 ?_ ?_
     ·simp only [ad.al];exact⟨none,0,by rw [hv];rfl,.inl (by simp)⟩
     ·simp only [cV];exact⟨_,_,rfl,rfl,hv⟩
    | ag id sub =>
     cases sub with
     | some=>simp [ad.fb] at hi
     | none =>
      simp only [ad.fb] at hi
      cases ho:s.o id with
      | row u em ver xs =>
       rw [ho] at hi
       simp only at hi
       cases hb:a'.beq em e
       ·rw [hb] at hi;simp at hi
       rw [hb] at hi
       simp only [cond_true] at hi
       have:=a'.eq_of_beq _ _ hb
       subst this
       obtain ⟨x,hx,hi⟩:=bb hi
       obtain ⟨e1,rfl⟩:=gD hx
       subst e1
       obtain rfl:=aU hi
       have b8:(s.o id).live:=by rw [ho];trivial
       have az:fj s ι Z (s.bO id (.b_ (.row u em ver xs))) Z:=by have:=xJ (s:=s) (ι := ι) (Z:=Z) b8;rw [ho] at this;exact this
       have e4:bF w0 F0 (s.bO id (.b_ (.row u em ver xs))) w ι Z (ι id).F:=by have:=h.xK b8;rw [ho] at this;exact this
       have cW:=h.fA id
       rw [ho] at cW
       obtain ⟨_,A,m',k,hv,hh⟩:=hc.1
       have hh:=hh u em ver xs (kY ho)
       have mN:=vg cW hh
       have oN:m'=xs.length:=hh.NO
       subst oN
       have lT:(s.bO id (.b_ (.row u em ver xs))).o id=.b_ (.row u em ver xs):=ct _ _ _
       simp only [ad.al,kp] at mN
       obtain ⟨oJ,k',kZ,mN⟩:=mN
       simp only [List.cons.injEq,Value.slice.injEq,and_true,true_and] at kZ
       obtain ⟨rfl,rfl⟩:=kZ
       rcases cW with⟨hx0,Yf⟩ | ⟨⟨b,o,sp⟩,er,hr⟩
       ·refine⟨[.ag id none],[v],vs,ah.none,ah.none,rfl,rfl,h.lS az,az,hc.2.move az.eb,.none,.none,fun _ _ h=>h.elim,?_,?_,fun _ _ h=>h.elim (fun h=>h.elim) fun h=>h.elim⟩
        ·simp only [ad.al]
         have hk0:k=0:=by have:=hh.cap;omega
         exact⟨A,k,by rw [hv],.inl ⟨hx0,hk0⟩⟩
        ·simp only [cV]
         exact⟨_,_,rfl,rfl,ver,xs,A,k,_,fun _=>by rw [lT];exact fun h=>h,fun ep bU=>by rw [lT] at bU;exact⟨(cj.b_.inj bU).symm,rfl,hh⟩,hv,.inl ⟨hx0,Yf⟩⟩
       ·have hsp:=hr.spot
        simp only at hsp
        subst hsp
        have Yg:k*u.size≤(ι id).cap*u.size:=Nat.mul_le_mul_right _ (by have:=hh.cap;simp only [ea] at this;omega)
        let T:ah:=ah.run b (o+k*u.size) ((ι id).cap*u.size-k*u.size)
        refine⟨[.ag id none],[v],vs,ah.diff (ι id).F T,fun b o=>(ι id).F b o∧T b o,rfl,rfl,h.lS az,az,hc.2.move az.eb,e4.sub fun _ _ h=>h.1,e4.sub fun _ _ h=>h.1,fun b o h1 h2=>h1.2 h2.2,?_,?_,?_⟩
        ·simp only [ad.al]
         refine⟨A,k,by rw [hv],?_⟩
         rcases mN with mN | ⟨⟨b',o',sp⟩,hA,h8⟩
         ·exact .inl mN
         ·rcases hh.at_ with hk0 | ⟨a1,mQ,sZ⟩
          ·exact .inl ⟨List.eq_nil_of_length_eq_zero (by have:=hh.le;omega),hk0⟩
          ·right
           rw [er] at mQ
           obtain rfl:=aU mQ
           rw [hA] at sZ
           simp only [ea,Nat.zero_mul,Nat.add_zero,Option.some.injEq,at_,Addr.mk.injEq] at sZ
           obtain ⟨rfl,rfl,rfl⟩:=sZ
           obtain ⟨G,g1,g2,g3⟩:=hr.row
           refine⟨_,hA,rfl,h8.cap,h8.wr,fun j hj=>⟨h8.inF j hj,?_⟩,G,g1,fun j hj=>g2 j (by omega),fun b o az=>⟨g3 b o az,?_⟩⟩
           ·rintro ⟨_,h1,_⟩;simp only at h1;omega
           ·rintro ⟨rfl,h1,h2⟩
            have:=g2 (o-o') (by omega)
            simp only at this
            rw [show o' +(o-o')=o by omega] at this
            exact this az
        ·simp only [cV]
         refine⟨_,_,rfl,rfl,ver,xs,A,k,(ι id).cap,fun _=>by rw [lT];exact fun h=>h,fun ep bU=>by rw [lT] at bU;exact⟨(cj.b_.inj bU).symm,rfl,hh⟩,hv,.inr ⟨b,o,fun _ _=>er,hr.cap,by have:=hh.cap;simp only [ea] at this;omega,?_,hr.wr,fun j h1 h2=>⟨hr.inF j h2,rfl,by omega,by omega⟩⟩⟩
         rcases hh.at_ with h0 | ⟨a1,mQ,sZ⟩
         ·exact .inl h0
         ·rw [er] at mQ
          obtain rfl:=aU mQ
          right;rw [sZ];simp [ea,at_]
        ·rintro b o (hf | hf)
         ·exact⟨id,b8,hf.1⟩
         ·exact⟨id,b8,hf.1⟩
      | _=>rw [ho] at hi;simp at hi
    | bY u dp cq xs =>
     simp only [ad.fb] at hi
     obtain ⟨AZ,h_,hi⟩:=bb hi
     obtain rfl:=aU hi
     cases cq with
     | none=>simp [sC] at h_
     | some p =>
      simp only [sC] at h_
      cases eS:p.fa with
      | none=>rw [eS] at h_;simp at h_
      | some i =>
       rw [eS] at h_
       cases ho:s.o p.id with
       | row T em ver ys =>
        rw [ho] at h_
        simp only at h_
        cases hb:(alive s dp&&a'.beq em T.own&&a'.beq e t.own)
        ·rw [hb] at h_;simp at h_
        rw [hb] at h_
        simp only [cond_true] at h_
        simp only [Bool.and_eq_true] at hb
        obtain rfl:=a'.eq_of_beq _ _ hb.1.2
        obtain rfl:=a'.eq_of_beq _ _ hb.2
        obtain ⟨x,hx,h_⟩:=bb h_
        obtain rfl:=aU h_
        obtain ⟨_,_,_,kx⟩:=hc.1
        obtain ⟨_,kx⟩:=kx _ rfl
        obtain ⟨cM,dF,⟨_,fG⟩,hcell,hin⟩:=kx hb.1.1
        simp only [ho,cj.core] at fG
        obtain ⟨dW,hii,ky,a0,er,mK⟩:=fG
        rw [eS] at hii
        obtain rfl:=aU hii
        have b8:(s.o p.id).live:=by rw [ho];trivial
        have az:fj s ι Z (s.bO p.id (.b_ (.row T T.own ver ys))) Z:=by have:=xJ (s:=s) (ι := ι) (Z:=Z) b8;rw [ho] at this;exact this
        have e4:bF w0 F0 (s.bO p.id (.b_ (.row T T.own ver ys))) w ι Z (ι p.id).F:=by have:=h.xK b8;rw [ho] at this;exact this
        have cW:=h.fA p.id
        rw [ho] at cW
        rcases cW with⟨hx0,_⟩ | ⟨a1,hb1,hr⟩
        ·rw [hx0] at ky;simp at ky
        rw [er] at hb1
        obtain rfl:=aU hb1
        obtain ⟨ab,ao,sp⟩:=a0
        have hsp:=hr.spot
        simp only at hsp
        subst hsp
        obtain ⟨eJ,H1,dO,eD,nM,oG⟩:=hr.lens ky hx
        rw [← mK] at dO
        have HD:eJ=v:=by rw [hcell] at dO;exact(aU dO).symm
        subst HD
        have lT:(s.bO p.id (.b_ (.row T T.own ver ys))).o p.id=.b_ (.row T T.own ver ys):=ct _ _ _
        refine⟨[.bY u dp (some p) xs],[eJ],vs,H1,ah.diff (ι p.id).F H1,rfl,rfl,h.lS az,az,hc.2.move az.eb,e4.sub nM,e4.sub fun _ _ h=>h.1,fun b o h1 h2=>h2.2 h1,eD,?_,?_⟩
        ·simp only [cV]
         exact⟨_,_,rfl,rfl,p,i,T,ver,ys,ab,ao,(ι p.id).cap,rfl,eS,fun _=>by rw [lT];exact fun h=>h,fun ep bU=>by rw [lT] at bU;exact⟨(cj.b_.inj bU).symm,er,rfl⟩,ky,rfl,oG⟩
        ·rintro b o (hf | hf)
         ·exact⟨p.id,b8,nM b o hf⟩
         ·exact⟨p.id,b8,hf.1⟩
       | _=>rw [ho] at h_;simp at h_
    | _=>simp [ad.fb] at hi
 | .st aj,m,cs,s,r,vs,hi,h,hc=>by
  simp only [ad.fb] at hi
  have:=ax.xO aj m.parts cs s r vs hi h hc
  simpa only [ad.al,cV] using this
theorem ax.xO:∀(aj:ax) (m:cQ) (cs:List a8) (s:an) (r:aj.D×List a8×an) (vs:List Value),aj.fb m cs s=some r→Inv w0 F0 Z0 n s a w ι Z→bH w Z s ι cs vs →
  HC w0 F0 Z0 n s a w ι Z (fun us F=>aj.al w Z m r.1 us F) (fun s c us H=>fo true w Z s ι aj m c us H) cs vs r.2.1 r.2.2
 | .nil,m,cs,s,r,vs,hi,h,hc=>by
  simp only [ax.fb] at hi
  obtain rfl:=aU hi
  exact⟨[],[],vs,ah.none,ah.none,rfl,rfl,h,.refl,hc,.none,.none,fun _ _ h=>h.elim,by simp only [ax.al],by simp [fo],fun _ _ h=>h.elim (fun h=>h.elim) fun h=>h.elim⟩
 | .cons t aj,m,cs,s,r,vs,hi,h,hc=>by
  simp only [ax.fb] at hi
  obtain ⟨bA,h1,hi⟩:=bb hi
  obtain ⟨cc,h2,hi⟩:=bb hi
  obtain rfl:=aU hi
  obtain ⟨c1,us1,vs1,F1,H1,e1,e2,i1,g1,c4,f1,xP,a1,ec,k1,dO⟩:=ad.xO t m.ag cs s bA vs h1 h hc
  obtain ⟨gm,us2,vs2,dE,H2,d1,d2,i2,g2,eC,f2,Yh,a2,fc,k2,eD⟩:=ax.xO aj m.dq bA.2.1 bA.2.2 cc vs1 h2 i1 c4
  have hap:∀ {X:ah},bF w0 F0 bA.2.2 w ι Z X→∀b o,X b o→(dE b o∨H2 b o)→False:=by
   intro X hX b o hx hh
   obtain ⟨id,hl,hf⟩:=eD b o hh
   exact hX.apart id hl b o hx hf
  refine⟨c1++gm,us1++us2,vs2,F1.or dE,H1.or H2,by rw [e1,d1,List.append_assoc],by rw [e2,d2,List.append_assoc],i2,g1.trans g2,eC,(f1.sY g2).or f2,(xP.sY g2).or Yh,?_,?_,?_,?_⟩
  ·rintro b o (hf | hf) (hh | hh)
   ·exact a1 b o hf hh
   ·exact hap f1 b o hf (.inr hh)
   ·exact hap xP b o hh (.inl hf)
   ·exact a2 b o hf hh
  ·simp only [ax.al]
   exact⟨us1,us2,F1,dE,rfl,ec,fc,fun b o h1 h2=>hap f1 b o h1 (.inl h2),fun _ _ h=>.inl h,fun _ _ h=>.inr h⟩
  ·simp only [fo]
   exact⟨c1,gm,us1,us2,H1,H2,rfl,rfl,cV.move (g2.held H1) (fun _ _ h=>h) t m.ag k1,k2,fun b o h1 h2=>hap xP b o h1 (.inr h2),fun _ _ h=>.inl h,fun _ _ h=>.inr h⟩
  ·rintro b o ((hf | hf) | (hf | hf))
   ·exact dO b o (.inl hf)
   ·obtain ⟨id,hl,pY⟩:=eD b o (.inl hf);exact⟨id,(g1.live hl).1,pY⟩
   ·exact dO b o (.inr hf)
   ·obtain ⟨id,hl,pY⟩:=eD b o (.inr hf);exact⟨id,(g1.live hl).1,pY⟩
end
end
end Go.LM
namespace Go.LM
section
variable{P:Program}{Q:Exit→Act→World→Prop}
variable{w0:World}{F0 Z0:ah}{n:cC}{s aq:an}{a b6:Act}{w w':World}{ι ba:Nat→bD}{Z Z':ah}
theorem A0{t:ad}{x:a6}{v:Value}(hf:nD t x=true)(hv:aO w Z s ι x v):v=dB t v.cells.toList:=by
 cases t <;> cases x <;> simp only [nD] at hf <;> try (simp at hf;done)
 all_goals simp only [aO] at hv
 all_goals first
  | (rw [G9 hv.dY];rfl)
  | (subst hv;rfl)
  | (obtain ⟨vs,rfl,_⟩:=hv;simp [dB,Value.cells])
theorem OZ(h:Inv w0 F0 Z0 n s a w ι Z){k:Nat}{p:Place}{cs:List a8}{A:Addr}(hr:lG s k p=some cs)(au:iR s ι p A) :
  ∃b o vs,A=at_ b o∧bH w Z s ι cs vs∧b2 w b o vs∧vs.length=k∧(s.o p.id).live∧∀j,j<k→(ι p.id).F b (o+j):=by
 obtain ⟨b,o,vs,rfl,h1,h2,h3⟩:=xy h hr au
 refine⟨b,o,vs,rfl,h1,h2,h3,?_⟩
 obtain ⟨hs,au⟩:=au
 unfold lG at hr
 cases ho:s.o p.id with
 | var ver old =>
  rw [ho] at hr au
  obtain ⟨he,a0,hb,hA⟩:=au
  rw [he] at hr
  obtain ⟨hle,rfl⟩:=oE hr
  have cW:=h.fA p.id
  rw [ho] at cW
  obtain ⟨vh,bE,dj,hsp,hc,cl,hF⟩:=cW
  rw [hb] at dj
  obtain rfl:=aU dj
  simp only [at_,Addr.mk.injEq,and_true] at hA
  obtain ⟨rfl,rfl⟩:=hA
  refine⟨trivial,fun j hj=>?_⟩
  have:=(hF (p.off+j) (by omega)).2
  rwa [← Nat.add_assoc] at this
 | row t em ver xs =>
  rw [ho] at hr au
  obtain ⟨i,he,hi,a0,hb,hA⟩:=au
  rw [he] at hr
  obtain ⟨hle,rfl⟩:=oE hr
  have cW:=h.fA p.id
  rw [ho] at cW
  obtain ⟨vh,bE,dj,hsp,hc,cl,hl⟩:=NT h ho hi
  rcases cW with⟨rfl,_⟩ | ⟨a1,hb1,hrow⟩
  ·simp at hi
  rw [hb] at hb1
  obtain rfl:=aU hb1
  simp only [at_,Addr.mk.injEq,and_true] at hA
  obtain ⟨rfl,rfl⟩:=hA
  refine⟨trivial,fun j hj=>?_⟩
  have hcl:=hc.len
  have GY:(i+1)*t.size≤(ι p.id).cap*t.size:=Nat.mul_le_mul_right _ (by have:=hrow.cap;omega)
  rw [Nat.add_one_mul] at GY
  have:=hrow.inF (i*t.size+p.off+j) (by omega)
  rwa [show a0.off +(i*t.size+p.off+j)=a0.off+i*t.size+p.off+j by omega] at this
 | none=>rw [ho] at hr;simp at hr
 | dead=>rw [ho] at hr;simp at hr
 | b_=>rw [ho] at hr;simp at hr
def A1(w0:World)(F0 Z0:ah)(n:cC)(s:an)(a:Act)(w:World)(ι : Nat→bD)(Z:ah)(key:Nat)(bh:List (Nat×Nat))(ps:List bw)(vs:List a6)(us:List Value)(q:(bw.ins ps).D×an×List (Nat×Nat)):Prop :=
 ∃F H cp,Inv w0 F0 Z0 n q.2.1 a w ι cp∧fj s ι Z q.2.1 cp∧gf w (cp.or (c9 ι q.2.2)) key ps q.1 us F∧eM true w cp q.2.1 ι ps vs us H∧bF w0 F0 q.2.1 w ι cp F∧bF w0 F0 q.2.1 w ι cp H∧ah.apart F H ∧
  (∃nb,q.2.2=nb++bh)∧(∀d,d∈q.2.2→ei q.2.1 d)∧∀b o,F b o∨H b o→∃id,(s.o id).live∧(ι id).F b o
theorem HE(h:fj s ι Z aq Z'){d:Nat×Nat}(ag:ei s d):ei aq d:=(h.eb (w:=default)).turns.dep ag
theorem vD{key:Nat}{sp:bw}{ps:List bw}{v:a6}{vs:List a6}{u:Value}{us:List Value}{bh HF nb:List (Nat×Nat)}{s1:an}{cp F1 H1:ah}{q:(bw.ins ps).D×an×List (Nat×Nat)}{x:(bw.ins (sp :: ps)).D}
  (g1:fj s ι Z s1 cp) (f1:bF w0 F0 s1 w ι cp F1) (h1:bF w0 F0 s1 w ι cp H1) (a1:ah.apart F1 H1) (src:∀b o,F1 b o∨H1 b o→∃id,(s.o id).live∧(ι id).F b o) (lU:HF=nb++bh)
  (hr:A1 w0 F0 Z0 n s1 a w ι cp key HF ps vs us q)
  (hA:∀(bK dE:ah),ah.sub (cp.or (c9 ι HF)) bK→gf w bK key ps q.1 us dE→ah.apart F1 dE→gf w bK key (sp :: ps) x (u :: us) (F1.or dE))
  (xN:∀(s2:an) (bK H2:ah),fj s1 ι cp s2 bK→eM true w bK s2 ι ps vs us H2→ah.apart H1 H2→eM true w bK s2 ι (sp :: ps) (v :: vs) (u :: us) (H1.or H2)) :
  A1 w0 F0 Z0 n s a w ι Z key bh (sp :: ps) (v :: vs) (u :: us) (x,q.2):=by
 obtain ⟨dE,H2,bK,i2,g2,cc,k2,f2,h2,a2,⟨GW,lJ⟩,d2,s2⟩:=hr
 have hap:∀ {X:ah},bF w0 F0 s1 w ι cp X→∀b o,X b o→(dE b o∨H2 b o)→False:=by
  intro X hX b o hx hh
  obtain ⟨id,hl,hf⟩:=s2 b o hh
  exact hX.apart id hl b o hx hf
 refine⟨F1.or dE,H1.or H2,bK,i2,g1.trans g2,hA _ _ ?_ cc (fun b o h1 h2=>hap f1 b o h1 (.inl h2)),xN _ _ _ g2 k2 (fun b o x y=>hap h1 b o x (.inr y)),(f1.sY g2).or f2,(h1.sY g2).or h2,?_,⟨GW++nb,by show q.2.2=_;rw [lJ,lU,List.append_assoc]⟩,d2,?_⟩
 ·rintro b o (hz | hz)
  ·exact .inl (g2.dA b o hz)
  ·show bK b o∨c9 ι q.2.2 b o
   rw [lJ];exact .inr (GR _ _ _ b o hz)
 ·rintro b o (hf | hf) (hh | hh)
  ·exact a1 b o hf hh
  ·exact hap f1 b o hf (.inr hh)
  ·exact hap h1 b o hh (.inl hf)
  ·exact a2 b o hf hh
 ·rintro b o ((hf | hf) | (hf | hf))
  ·exact src b o (.inl hf)
  ·obtain ⟨id,hl,pY⟩:=s2 b o (.inl hf);exact⟨id,(g1.live hl).1,pY⟩
  ·exact src b o (.inr hf)
  ·obtain ⟨id,hl,pY⟩:=s2 b o (.inr hf);exact⟨id,(g1.live hl).1,pY⟩
theorem HG{sp:bw}{ps:List bw}{v:a6}{vs:List a6}{u:Value}{us:List Value}{H fE:ah}(hsp:(∃t m,sp=.val t m)∨(∃t,sp=.ref t)∨(∃a b,sp=.fn a b)∨∃t,sp=.gQ t)(cD:ah.sub H fE)
  (h:eM true w Z s ι ps vs us H) (hz:gr true w Z s ι w Z s ι H):eM true w Z s ι (sp :: ps) (v :: vs) (u :: us) fE:=by
 have:=eM.move hz cD ps h
 rcases hsp with⟨t,m,rfl⟩ | ⟨t,rfl⟩ | ⟨a,b,rfl⟩ | ⟨t,rfl⟩ <;> exact⟨v,vs,u,us,rfl,rfl,this⟩
theorem HH:∀ {x:List a6} {us:List Value},aX w Z s ι x us→us.length=x.length
 | [],_,h=>by simp only [aX] at h;rw [h];rfl
 | _ :: _,_,h=>by
  simp only [aX] at h
  obtain ⟨u,aR,rfl,_,h2⟩:=h
  simp [HH h2]
theorem pZ{key:Nat} : ∀(ps:List bw) (vs:List a6) (us:List Value) (s:an) (Z:ah) (bh:List (Nat×Nat)) (q:(bw.ins ps).D×an×List (Nat×Nat)),fR key s ps vs bh=some q→Inv w0 F0 Z0 n s a w ι Z →
  aX w Z s ι vs us→(∀d,d∈bh→ei s d)→A1 w0 F0 Z0 n s a w ι Z key bh ps vs us q
 | [],vs,us,s,Z,bh,q,hm,h,hv,hb=>by
  cases vs with
  | cons=>simp [fR] at hm
  | nil =>
   simp only [fR,Option.some.injEq] at hm
   subst hm
   simp only [aX] at hv
   exact⟨ah.none,ah.none,Z,h,.refl,hv,trivial,.none,.none,fun _ _ h=>h.elim,⟨[],rfl⟩,hb,fun _ _ h=>h.elim (fun h=>h.elim) fun h=>h.elim⟩
 | .fn lF oy :: ps,vs,us,s,Z,bh,q,hm,h,hv,hb=>by
  cases vs with
  | nil=>simp [fR] at hm
  | cons v vs =>
   cases v <;> simp only [fR] at hm <;> try (simp at hm;done)
   rename_i g Yi Hu
   cases az:(Nat.beq g key&&Nat.beq Yi.length lF&&Nat.beq Hu.length oy)
   ·rw [az] at hm;cases hm
   rw [az] at hm
   simp only [Bool.and_eq_true] at az
   obtain ⟨⟨az,O0⟩,A2⟩:=az
   have az:=Nat.eq_of_beq_eq_true az
   have O0:=Nat.eq_of_beq_eq_true O0
   have A2:=Nat.eq_of_beq_eq_true A2
   subst az
   simp only [aX,aO] at hv
   obtain ⟨u,aR,rfl,⟨x,y,hx,Yj,Oz⟩,fC⟩:=hv
   have ajS:=HH Yj
   have ajT:=HH Oz
   obtain ⟨F,H,cp,i1,g1,bA,k1,f1,h1,a1,fD,d1,s1⟩:=pZ ps vs aR s Z bh q hm h fC hb
   exact⟨F,H,cp,i1,g1,⟨_,_,aR,by rw [hx],⟨by simp;omega,by simp;omega⟩,bA⟩,⟨_,_,_,_,rfl,rfl,k1⟩,f1,h1,a1,fD,d1,s1⟩
 | .val t m :: ps,vs,us,s,Z,bh,q,hm,h,hv,hb=>by
  cases vs with
  | nil=>simp [fR] at hm
  | cons v vs =>
   simp only [fR] at hm
   cases hf:nD t v
   ·rw [hf] at hm;simp at hm
   rw [hf] at hm
   simp only [cond_true] at hm
   cases hcs:im t v with
   | none=>rw [hcs] at hm;simp at hm
   | some cs =>
    rw [hcs] at hm
    simp only at hm
    obtain ⟨r,hr,hm⟩:=bb hm
    cases ef:r.2.1 with
    | cons=>rw [ef] at hm;simp at hm
    | nil =>
     rw [ef] at hm
     simp only at hm
     obtain ⟨p,au,hm⟩:=bb hm
     obtain rfl:=aU hm
     simp only [aX] at hv
     obtain ⟨u,aR,rfl,hu,fC⟩:=hv
     obtain ⟨us1,vs1,F1,cp,e1,i1,s1,c1,f1,bA,⟨nb,fD⟩,_,d1,g1⟩:=ad.k0 t true m cs s bh r _ Z hr h (q8 hcs hu) hb
     rw [ef] at c1
     have hvs1:vs1=[]:=by cases vs1 with | nil=>rfl | cons=>exact c1.elim
     subst hvs1
     rw [List.append_nil] at e1
     have hw:=A0 hf hu
     rw [e1] at hw
     have mT:=pZ ps vs aR r.2.2.1 cp r.2.2.2 p au i1 (aX.move s1.eb fC) d1
     refine vD s1.lS f1 .none (fun _ _ _ h=>h) (fun b o hf=>hf.elim (g1 b o) fun h=>h.elim) fD mT ?_ ?_
     ·intro bK dE hZ hA hap
      exact⟨us1,aR,F1,dE,by rw [← hw],ad.al.mono hZ _ _ (fun _ _ h=>h) bA,hA,hap,fun _ _ h=>.inl h,fun _ _ h=>.inr h⟩
     ·intro s2 bK H2 az hk kz
      exact HG (.inl ⟨_,_,rfl⟩) (fun _ _ h=>.inr h) hk (fj.refl.held H2)
 | .gQ t :: ps,vs,us,s,Z,bh,q,hm,h,hv,hb=>by
  cases vs with
  | nil=>simp [fR] at hm
  | cons v vs =>
   simp only [fR] at hm
   cases hf:nD t v
   ·rw [hf] at hm;simp at hm
   rw [hf] at hm
   simp only [cond_true] at hm
   cases hcs:im t v with
   | none=>rw [hcs] at hm;simp at hm
   | some cs =>
    rw [hcs] at hm
    simp only at hm
    obtain ⟨r,hr,hm⟩:=bb hm
    cases ef:r.2.1 with
    | cons=>rw [ef] at hm;simp at hm
    | nil =>
     rw [ef] at hm
     simp only at hm
     obtain ⟨p,au,hm⟩:=bb hm
     obtain rfl:=aU hm
     simp only [aX] at hv
     obtain ⟨u,aR,rfl,hu,fC⟩:=hv
     obtain ⟨us1,vs1,F1,cp,e1,i1,s1,c1,f1,bA,⟨nb,fD⟩,_,d1,g1⟩:=ad.k0 t false .R cs s bh r _ Z hr h (q8 hcs hu) hb
     rw [ef] at c1
     have hvs1:vs1=[]:=by cases vs1 with | nil=>rfl | cons=>exact c1.elim
     subst hvs1
     rw [List.append_nil] at e1
     have hw:=A0 hf hu
     rw [e1] at hw
     have mT:=pZ ps vs aR r.2.2.1 cp r.2.2.2 p au i1 (aX.move s1.eb fC) d1
     refine vD s1.lS f1 .none (fun _ _ _ h=>h) (fun b o hf=>hf.elim (g1 b o) fun h=>h.elim) fD mT ?_ ?_
     ·intro bK dE hZ hA hap
      exact⟨us1,aR,F1,dE,by rw [← hw],ad.al.mono hZ _ _ (fun _ _ h=>h) bA,hA,hap,fun _ _ h=>.inl h,fun _ _ h=>.inr h⟩
     ·intro s2 bK H2 az hk kz
      exact HG (.inr (.inr (.inr ⟨_,rfl⟩))) (fun _ _ h=>.inr h) hk (fj.refl.held H2)
 | .gP t m :: ps,vs,us,s,Z,bh,q,hm,h,hv,hb=>by
  cases vs with
  | nil=>simp [fR] at hm
  | cons v vs =>
   simp only [fR] at hm
   cases hf:(nD t v&&a'.beq m t.own)
   ·rw [hf] at hm;simp at hm
   rw [hf] at hm
   simp only [cond_true] at hm
   simp only [Bool.and_eq_true] at hf
   obtain ⟨hf,nS⟩:=hf
   have nS:=a'.eq_of_beq _ _ nS
   cases hcs:im t v with
   | none=>rw [hcs] at hm;simp at hm
   | some cs =>
    rw [hcs] at hm
    simp only at hm
    obtain ⟨r,hr,hm⟩:=bb hm
    cases ef:r.2.1 with
    | cons=>rw [ef] at hm;simp at hm
    | nil =>
     rw [ef] at hm
     simp only at hm
     obtain ⟨p,au,hm⟩:=bb hm
     obtain rfl:=aU hm
     simp only [aX] at hv
     obtain ⟨u,aR,rfl,hu,fC⟩:=hv
     obtain ⟨c1,us1,vs1,F1,H1,e0,e1,i1,g1,c4,f1,xP,a1,bA,k1,dO⟩:=ad.xO t m cs s r _ hr h (q8 hcs hu)
     rw [ef] at c4 e0
     have hvs1:vs1=[]:=by cases vs1 with | nil=>rfl | cons=>exact c4.elim
     subst hvs1
     rw [List.append_nil] at e1 e0
     subst e0
     have hw:=A0 hf hu
     have mT:=pZ ps vs aR r.2.2 Z bh p au i1 (aX.move g1.eb fC) (fun d ag=>HE g1 (hb d ag))
     refine vD (nb:=[]) g1 f1 xP a1 dO rfl mT ?_ ?_
     ·intro bK dE hZ hA hap
      exact⟨us1,aR,F1,dE,by rw [← e1,← hw],ad.al.mono (fun b o hz=>hZ b o (.inl hz)) _ _ (fun _ _ h=>h) bA,hA,hap,fun _ _ h=>.inl h,fun _ _ h=>.inr h⟩
     ·intro s2 bK H2 az hk kz
      refine⟨v,vs,u,aR,cs,H1,H2,rfl,rfl,hcs,nS,?_,hk,kz,fun _ _ h=>.inl h,fun _ _ h=>.inr h⟩
      rw [e1]
      exact cV.move (az.held H1) (fun _ _ h=>h) t m k1
 | .ref t :: ps,vs,us,s,Z,bh,q,hm,h,hv,hb=>by
  cases vs with
  | nil=>simp [fR] at hm
  | cons v vs =>
   simp only [aX] at hv
   obtain ⟨u,aR,rfl,hu,fC⟩:=hv
   have go:∀(cs:List a8) (mE:List (Nat×Nat)) (b o:Nat) (ws:List Value),bH w Z s ι cs ws→b2 w b o ws→ws.length=t.size→u=.pointer (some (at_ b o))→(∃nb,mE=nb++bh)→(∀d,d∈mE→ei s d) →
     (∀j,j<t.size→Z.or (c9 ι mE) b (o+j)) →
     ((t.imp true .R cs s mE).bind fun r=>match r.2.1 with | []=>(fR key r.2.2.1 ps vs r.2.2.2).bind fun q=>some ((r.1,q.1),q.2) | _=>none)=some q→A1 w0 F0 Z0 n s a w ι Z key bh (.ref t :: ps) (v :: vs) (u :: aR) q:=by
    intro cs mE b o ws oI cl sN iT ⟨Yk,Yl⟩ Ym hin hm
    obtain ⟨r,hr,hm⟩:=bb hm
    cases ef:r.2.1 with
    | cons=>rw [ef] at hm;simp at hm
    | nil =>
     rw [ef] at hm
     simp only at hm
     obtain ⟨p,au,hm⟩:=bb hm
     obtain rfl:=aU hm
     obtain ⟨us1,vs1,F1,cp,e1,i1,s1,c1,f1,bA,⟨nb,fD⟩,_,d1,g1⟩:=ad.k0 t true .R cs s mE r _ Z hr h oI Ym
     rw [ef] at c1
     have hvs1:vs1=[]:=by cases vs1 with | nil=>rfl | cons=>exact c1.elim
     subst hvs1
     rw [List.append_nil] at e1
     subst e1
     have mT:=pZ ps vs aR r.2.2.1 cp r.2.2.2 p au i1 (aX.move s1.eb fC) d1
     refine vD (nb:=nb++Yk) s1.lS .none .none (fun _ _ h=>h.elim) (fun b o hf=>hf.elim (fun h=>h.elim) fun h=>h.elim) (by rw [fD,Yl,List.append_assoc]) mT ?_ ?_
     ·intro bK dE hZ hA hap
      refine⟨b,o,ws,aR,by rw [iT],cl,ad.al.mono hZ _ _ (fun _ _ h=>h) (qZ bA),fun j hj=>hZ _ _ ?_,gf.mono (fun _ _ h=>h) ps (fun _ _ h=>.inr h) hA⟩
      rcases hin j hj with hz | hz
      ·exact .inl (s1.dA _ _ hz)
      ·rw [fD];exact .inr (GR _ _ _ _ _ hz)
     ·intro s2 bK H2 az hk kz
      exact HG (.inr (.inl ⟨_,rfl⟩)) (fun _ _ h=>.inr h) hk (fj.refl.held H2)
   cases v <;> simp only [fR] at hm <;> try (simp at hm;done)
   ·rename_i p
    cases hr:lG s t.size p with
    | none=>rw [hr] at hm;simp at hm
    | some cs =>
     rw [hr] at hm
     simp only [aO] at hu
     obtain ⟨hk,A,hu,au⟩:=hu
     obtain ⟨b,o,ws,rfl,h1,h2,h3,h4,aZ⟩:=OZ h hr au
     refine go cs ((p.id,j5 s p.id) :: bh) b o ws h1 h2 h3 hu ⟨[_],rfl⟩ ?_ (fun j hj=>.inr ⟨_,List.mem_cons_self,aZ j hj⟩) hm
     intro d ag
     rcases List.mem_cons.1 ag with rfl | ag
     ·exact⟨hk,.inr (Nat.le_refl _)⟩
     ·exact hb d ag
   ·rename_i dp cs off
    cases ht:takeN off t.size cs with
    | none=>rw [ht] at hm;simp at hm
    | some ds =>
     rw [ht] at hm
     simp only at hm
     cases dP:alive s dp
     ·rw [dP] at hm;simp at hm
     rw [dP] at hm
     simp only [cond_true] at hm
     obtain ⟨hle,rfl⟩:=oE ht
     simp only [aO] at hu
     obtain ⟨ag,b,o,ws,hu,hx⟩:=hu
     obtain ⟨h1,h2,h3⟩:=hx dP
     have hl:=h1.len
     refine go _ (dp++bh) b (o+off) ((ws.drop off).take t.size) ((h1.drop off).take _) (h2.part off _) (by simp;omega) hu ⟨dp,rfl⟩ ?_ ?_ hm
     ·intro d hH
      rcases List.mem_append.1 hH with h | h
      ·exact ag d h
      ·exact hb d h
     ·intro j hj
      have:=h3 (off+j) (by omega)
      rw [← Nat.add_assoc] at this
      rcases this with hz | ⟨d,ag,hf⟩
      ·exact .inl hz
      ·exact .inr ⟨d,List.mem_append.2 (.inl ag),hf⟩
 | .mut t m m' :: ps,vs,us,s,Z,bh,q,hm,h,hv,hb=>by
  cases vs with
  | nil=>simp [fR] at hm
  | cons v vs =>
   simp only [aX] at hv
   obtain ⟨u,aR,rfl,hu,fC⟩:=hv
   cases v <;> simp only [fR] at hm <;> try (simp at hm;done)
   rename_i p
   simp only [aO] at hu
   obtain ⟨hk,A,hu,au⟩:=hu
   obtain ⟨ajU,au⟩:=au
   cases ho:s.o p.id with
   | none=>rw [ho] at hm;simp at hm
   | dead=>rw [ho] at hm;simp at hm
   | b_=>rw [ho] at hm;simp at hm
   | var ver old =>
    rw [ho] at hm au
    obtain ⟨he,a0,er,hA⟩:=au
    rw [he] at hm
    simp only at hm
    cases ht:takeN p.off t.size old with
    | none=>rw [ht] at hm;simp at hm
    | some cs =>
     rw [ht] at hm
     simp only at hm
     obtain ⟨hle,rfl⟩:=oE ht
     obtain ⟨r,hr,hm⟩:=bb hm
     cases ef:r.2.1 with
     | cons=>rw [ef] at hm;simp at hm
     | nil =>
      rw [ef] at hm
      simp only at hm
      obtain ⟨HI,hq,hm⟩:=bb hm
      obtain rfl:=aU hm
      have b8:(s.o p.id).live:=by rw [ho];trivial
      have az:fj s ι Z (s.bO p.id (.b_ (.var ver old))) Z:=by have:=xJ (s:=s) (ι := ι) (Z:=Z) b8;rw [ho] at this;exact this
      have e4:bF w0 F0 (s.bO p.id (.b_ (.var ver old))) w ι Z (ι p.id).F:=by have:=h.xK b8;rw [ho] at this;exact this
      have cW:=h.fA p.id
      rw [ho] at cW
      obtain ⟨⟨b,o,sp⟩,ws,dj,hsp,hc,cl,hF⟩:=cW
      simp only at hsp
      subst hsp
      rw [er] at dj
      obtain rfl:=aU dj
      have hl:=hc.len
      have lT:(s.bO p.id (.b_ (.var ver old))).o p.id=.b_ (.var ver old):=ct _ _ _
      have O1:=hc.move az.eb
      obtain ⟨us1,vs1,F1,cp,e1,i1,s1,c1,f1,bA,⟨nb,fD⟩,_,d1,g1⟩:=ad.k0 t true m _ _ bh r _ Z hr (h.lS az) ((O1.drop p.off).take t.size) (fun d ag=>HE az (hb d ag))
      rw [ef] at c1
      have hvs1:vs1=[]:=by cases vs1 with | nil=>rfl | cons=>exact c1.elim
      subst hvs1
      rw [List.append_nil] at e1
      have mT:=pZ ps vs aR r.2.2.1 cp r.2.2.2 HI hq i1 (aX.move s1.eb (aX.move az.eb fC)) d1
      have xw:=az.trans s1.lS
      have hrun:ah.sub (ah.run b (o+p.off) t.size) (ι p.id).F:=by
       rintro b' o' ⟨rfl,h1,h2⟩
       have:=(hF (o'-o) (by omega)).2
       simp only at this
       rwa [show o +(o'-o)=o' by omega] at this
      have O2:=e4.shrink s1
      have O3:ah.apart F1 (ι p.id).F:=by
       intro b o h1 h2
       obtain ⟨id,hl,hf⟩:=g1 b o h1
       exact e4.apart id hl b o h2 hf
      refine vD (F1:=F1.or (ah.run b (o+p.off) t.size)) (H1:=ah.diff (ι p.id).F (ah.run b (o+p.off) t.size)) xw (f1.or (O2.sub hrun)) (O2.sub fun _ _ h=>h.1) ?_ ?_ fD mT ?_ ?_
      ·rintro b o (hf | hf) hh
       ·exact O3 b o hf hh.1
       ·exact hh.2 hf
      ·rintro b' o' ((hf | hf) | hh)
       ·obtain ⟨id,hl,pY⟩:=g1 b' o' hf;exact⟨id,(az.live hl).1,pY⟩
       ·exact⟨p.id,b8,hrun b' o' hf⟩
       ·exact⟨p.id,b8,hh.1⟩
      ·intro bK dE hZ oO hap
       refine⟨b,o+p.off,us1,aR,F1,dE,by rw [hu,hA],?_,?_,ad.al.mono hZ _ _ (fun _ _ h=>h) bA,oO,hap,fun b o h1 h2=>O3 b o h1 (hrun b o h2),fun _ _ h=>.inl h,fun _ _ h=>.inr h⟩
       ·rw [← e1];exact cl.part p.off t.size
       ·intro j hj
        have:=(hF (p.off+j) (by omega)).1
        rwa [← Nat.add_assoc] at this
      ·intro s2 bK H2 HJ hkk kz
       refine⟨p,vs,u,aR,_,H2,rfl,rfl,.inl ?_,hkk,kz,fun _ _ h=>.inl h,fun _ _ h=>.inr h⟩
       refine vz.move ((s1.lS.trans HJ).held (ah.diff (ι p.id).F (ah.run b (o+p.off) t.size))) (fun _ _ h=>h) ?_
       refine⟨ver,old,b,o,ws,fun _=>by rw [lT];exact fun h=>h,fun ep bU=>by rw [lT] at bU;exact⟨(cj.b_.inj bU).symm,er⟩,he,by rw [hu,hA],hle,O1,fun j hj=>(hF j hj).1,fun j hj hh=>⟨(hF j hj).2,?_⟩,fun j v hv hh=>cl j v hv⟩
       rintro ⟨_,h1,h2⟩
       omega
   | row gu em ver xs =>
    rw [ho] at hm au
    obtain ⟨i,he,hi,a0,er,hA⟩:=au
    rw [he] at hm
    simp only at hm
    cases A3:(Nat.beq p.off 0&&a'.beq em m&&a'.beq m' em&&a'.beq m t.own)
    ·rw [A3] at hm;simp at hm
    rw [A3] at hm
    simp only [Bool.and_eq_true] at A3
    obtain ⟨⟨⟨hc1,hc2⟩,xQ⟩,HK⟩:=A3
    have HK:=a'.eq_of_beq _ _ HK
    have hc1:=Nat.eq_of_beq_eq_true hc1
    have hc2:=a'.eq_of_beq _ _ hc2
    have xQ:=a'.eq_of_beq _ _ xQ
    subst hc2
    subst xQ
    simp only [cond_true] at hm
    obtain ⟨x,hx,hm⟩:=bb hm
    obtain ⟨e1,rfl⟩:=Aq hx
    subst e1
    obtain ⟨HI,hq,hm⟩:=bb hm
    obtain rfl:=aU hm
    have b8:(s.o p.id).live:=by rw [ho];trivial
    have az:fj s ι Z (s.bO p.id (.b_ (.row gu m' ver xs))) Z:=by have:=xJ (s:=s) (ι := ι) (Z:=Z) b8;rw [ho] at this;exact this
    have e4:bF w0 F0 (s.bO p.id (.b_ (.row gu m' ver xs))) w ι Z (ι p.id).F:=by have:=h.xK b8;rw [ho] at this;exact this
    have cW:=h.fA p.id
    rw [ho] at cW
    rcases cW with⟨rfl,_⟩ | ⟨⟨b,o,sp⟩,dj,hrow⟩
    ·simp at hi
    have hsp:=hrow.spot
    simp only at hsp
    subst hsp
    rw [er] at dj
    obtain rfl:=aU dj
    obtain ⟨G,g1,g2,g3⟩:=hrow.row
    obtain ⟨G1,iB,G2,ws,k1,k2,k3,bf,bs,c_,dh,ee,gG,eX,cZ⟩:=g1.AU i hi
    have lT:(s.bO p.id (.b_ (.row gu m' ver xs))).o p.id=.b_ (.row gu m' ver xs):=ct _ _ _
    have hcap:(i+1)*gu.size≤(ι p.id).cap*gu.size:=Nat.mul_le_mul_right _ (by have:=hrow.cap;omega)
    rw [Nat.add_one_mul] at hcap
    have hrun:ah.sub (ah.run b (o+i*gu.size) gu.size) (ι p.id).F:=by
     rintro b' o' ⟨rfl,h1,h2⟩
     have:=hrow.inF (o'-o) (by omega)
     simp only at this
     rwa [show o +(o'-o)=o' by omega] at this
    have A4:∀ {X:ah},ah.sub X G→∀j,j<(ι p.id).cap*gu.size→¬X b (o+j):=fun hX j hj hh=>g2 j hj (hX _ _ hh)
    have ri:∀ {X:ah},ah.sub X G→ah.apart X (ah.run b (o+i*gu.size) gu.size):=by
     rintro X hX b' o' hx ⟨rfl,h1,h2⟩
     have:=A4 hX (o'-o) (by omega)
     rw [show o +(o'-o)=o' by omega] at this
     exact this hx
    have mT:=pZ ps vs aR _ Z bh HI hq (h.lS az) (aX.move az.eb fC) (fun d ag=>HE az (hb d ag))
    have O4:ah.sub (iB.or (ah.run b (o+i*gu.size) gu.size)) (ι p.id).F:=fun b o h=>h.elim (fun h=>g3 b o (eX b o h)) (hrun b o)
    have iT:u=.pointer (some (at_ b (o+i*gu.size))):=by rw [hu,hA,hc1];rfl
    refine vD (nb:=[]) (F1:=iB.or (ah.run b (o+i*gu.size) gu.size)) (H1:=ah.diff (ι p.id).F (iB.or (ah.run b (o+i*gu.size) gu.size))) az (e4.sub O4) (e4.sub fun _ _ h=>h.1) (fun b o h1 h2=>h2.2 h1) ?_ rfl mT ?_ ?_
    ·rintro b' o' (hf | hf)
     ·exact⟨p.id,b8,O4 b' o' hf⟩
     ·exact⟨p.id,b8,hf.1⟩
    ·intro bK dE hZ oO hap
     refine⟨b,o+i*gu.size,ws,aR,iB,dE,by rw [iT],bf,fun j hj=>?_,?_,oO,hap,ri eX,fun _ _ h=>.inl h,fun _ _ h=>.inr h⟩
     ·have:=(hrow.wr (i*gu.size+j) (by omega)).1
      rwa [← Nat.add_assoc] at this
     ·rw [c6 hi]
      exact ad.al.mono (fun b o hz=>hZ b o (.inl hz)) _ _ (fun _ _ h=>h) k2
    ·intro s2 bK H2 HJ hkk kz
     refine⟨p,vs,u,aR,_,H2,rfl,rfl,.inr ⟨rfl,HK,?_⟩,hkk,kz,fun _ _ h=>.inl h,fun _ _ h=>.inr h⟩
     refine vA.move (HJ.held (ah.diff (ι p.id).F (iB.or (ah.run b (o+i*gu.size) gu.size)))) (fun _ _ h=>h) ?_
     refine⟨ver,xs,i,b,o,_,G1,G2,fun _=>by rw [lT];exact fun h=>h,fun ep bU=>by rw [lT] at bU;exact⟨(cj.b_.inj bU).symm,er,rfl⟩,he,hi,iT,hrow.cap,hrow.wr,fun j hj hh=>⟨hrow.inF j hj,?_⟩,k1,bs,dh,fun b o az=>⟨g3 b o (gG b o az),?_⟩,fun b o az=>⟨g3 b o (cZ b o az),?_⟩,fun j hj=>⟨A4 gG j hj,A4 cZ j hj⟩⟩
     ·rintro (Yn | ⟨_,h1,h2⟩)
      ·exact A4 eX j hj Yn
      ·rw [Nat.add_one_mul] at hh;omega
     ·rintro (hh | hh)
      ·exact c_ b o az hh
      ·exact ri gG b o az hh
     ·rintro (hh | hh)
      ·exact ee b o hh az
      ·exact ri cZ b o az hh
end
end Go.LM
namespace Go.LM
section
variable{P:Program}{Q:Exit→Act→World→Prop}
variable{g:Bool}{w0:World}{F0 Z0:ah}{n:cC}{s aq:an}{a b6:Act}{w w' b7:World}{ι ba eo:Nat→bD}{Z Z' bK:ah}
theorem gr.trans{s2:an}{H:ah}(h:gr g w Z s ι w' Z' aq ba H)(k:gr g w' Z' aq ba b7 bK s2 eo H):gr g w Z s ι b7 bK s2 eo H:=by
 refine⟨fun x v hx=>k.aB x v (h.aB x v hx),fun c v hc=>k.cell c v (h.cell c v hc),fun b o hz=>k.dA b o (h.dA b o hz),fun id o' hn ho=>?_,fun az id hn=>k.nl az id (h.nl az id hn),h.same.trans k.same,h.AW.trans ?_,fun b o hw=>k.wr b o (h.wr b o hw),fun z b o hw=>k.xL z b o (h.xL z b o hw)⟩
 ·obtain ⟨h1,h2⟩:=k.b_ id o' (fun az=>h.nl az id (hn az)) ho
  obtain ⟨h3,h4⟩:=h.b_ id o' hn h1
  exact⟨h3,h2.trans h4⟩
 ·exact k.AW.mono h.dA
theorem Inv.Yo(h:Inv w0 F0 Z0 n s a w ι Z){id:Nat}{o:cj}{i:bD}(hnl:¬(s.o id).live)(ht:ix (s.o id) (ι id) o i)
  (cK:eB w Z s ι w Z (s.bO id o) (bQ ι id i)→hD w Z (s.bO id o) (bQ ι id i) i o) (hF:bF w0 F0 s w ι Z i.F) :
  Inv w0 F0 Z0 n (s.bO id o) a w (bQ ι id i) Z∧eB w Z s ι w Z (s.bO id o) (bQ ι id i):=by
 have hm:eB w Z s ι w Z (s.bO id o) (bQ ι id i):=by
  refine⟨fun j=>?_,fun _ _ h=>h,b4.refl _ _⟩
  show ix (s.o j) (ι j) (bQ s.o id o j) (bQ ι id i j)
  by_cases hj:id=j
  ·subst hj;rw [ct,ct];exact ht
  ·rw [cO hj,cO hj];exact .stay _ _
 refine⟨?_,hm⟩
 refine h.next hm (Ext.refl _ ah.none) (fun _ _ h=>h.elim) (fun _ _ h=>.inl h) ?_ ?_ (fun k=>(h.tmps k).move hm) h.size h.defers
 ·intro j hl hne
  by_cases hj:id=j
  ·subst hj
   rw [ct]
   refine⟨by show hD _ _ _ _ _ (bQ s.o id o id);rw [ct];exact cK hm,hF.own,fun ks fS jm=>?_⟩
   rw [cO jm]
   have dN:(s.o ks).live:=by
    have:(bQ s.o id _ ks).live:=fS
    rwa [cO jm] at this
   exact hF.apart ks dN
  ·exact absurd ⟨cO hj,cO hj⟩ hne
 ·intro j hl
  by_cases hj:id=j
  ·subst hj;rw [ct];exact hF.cY
  ·rw [cO hj]
   have dN:(s.o j).live:=by
    have:(bQ s.o id _ j).live:=hl
    rwa [cO hj] at this
   exact h.cY j dN
def nT(w0:World)(F0 Z0:ah)(n:cC)(s:an)(a:Act)(w:World)(ι : Nat→bD)(Z:ah)(aq:an)(eE:ah):Prop :=
 ∃ ba,Inv w0 F0 Z0 n aq a w ba Z∧gr false w Z s ι w Z aq ba (fun _ _=>True)∧(∀X,bF w0 F0 s w ι Z X→ah.apart X eE→bF w0 F0 aq w ba Z X)∧∀id,(s.o id).live→aq.o id=s.o id ∧ ba id = ι id
theorem s4(h:Inv w0 F0 Z0 n s a w ι Z)(eE:ah):nT w0 F0 Z0 n s a w ι Z s eE :=
 ⟨ι,h,⟨fun _ _ h=>h,fun _ _ h=>h,fun _ _ h=>h,fun _ _ _ h=>⟨h,rfl⟩,fun h=>by simp at h,b4.refl _ _,b4.refl _ _,fun _ _ h=>h,fun _ _ _ h=>h⟩,fun _ h _=>h,fun _ _=>⟨rfl,rfl⟩⟩
theorem HL(h:Inv w0 F0 Z0 n s a w ι Z){id:Nat}{o:cj}{i:bD}(hnl:¬(s.o id).live)(ho:∀o',o≠.b_ o')(ht:ix (s.o id) (ι id) o i)
  (cK:eB w Z s ι w Z (s.bO id o) (bQ ι id i)→hD w Z (s.bO id o) (bQ ι id i) i o) (hF:bF w0 F0 s w ι Z i.F) :
  Inv w0 F0 Z0 n (s.bO id o) a w (bQ ι id i) Z∧gr false w Z s ι w Z (s.bO id o) (bQ ι id i) (fun _ _=>True)∧(∀X,bF w0 F0 s w ι Z X→ah.apart X i.F→bF w0 F0 (s.bO id o) w (bQ ι id i) Z X) ∧
  ∀j,(s.o j).live→(s.bO id o).o j=s.o j∧bQ ι id i j = ι j:=by
 obtain ⟨h1,hm⟩:=h.Yo hnl ht cK hF
 refine⟨h1,⟨fun _ _=>aO.move hm,fun _ _=>cf.move hm,fun _ _ h=>h,fun j o' _ hj=>?_,fun h=>by simp at h,b4.refl _ _,b4.refl _ _,fun _ _ h=>h,fun _ _ _ h=>h⟩,fun X hX ha=>⟨hX.own,fun j hl=>?_,hX.cY⟩,fun j hl=>?_⟩
 ·have hj':bQ s.o id o j=.b_ o':=hj
  by_cases hne:id=j
  ·subst hne;rw [ct] at hj';exact absurd hj' (ho o')
  ·rw [cO hne] at hj'
   exact⟨hj',cO hne⟩
 ·by_cases hne:id=j
  ·subst hne;rw [ct];exact ha
  ·rw [cO hne]
   have dN:(s.o j).live:=by
    have:(bQ s.o id _ j).live:=hl
    rwa [cO hne] at this
   exact hX.apart j dN
 ·have hne:id≠j:=fun e=>hnl (e ▸ hl)
  exact⟨cO hne,cO hne⟩
theorem xR(h:Inv w0 F0 Z0 n s a w ι Z){id:Nat}{o:cj}{i:bD}(hnl:¬(s.o id).live)(ho:∀o',o≠.b_ o')(ht:ix (s.o id) (ι id) o i)
  (cK:eB w Z s ι w Z (s.bO id o) (bQ ι id i)→hD w Z (s.bO id o) (bQ ι id i) i o) (hF:bF w0 F0 s w ι Z i.F):nT w0 F0 Z0 n s a w ι Z (s.bO id o) i.F:=⟨_,HL h hnl ho ht cK hF⟩
mutual
theorem cV.len:∀(t:ad) (m:a') {cs:List a8} {vs:List Value} {H:ah},cV g w Z s ι t m cs vs H→vs.length=t.size
 | .int _,_,_,_,_,hk=>by simp only [cV] at hk;rw [hk.2];rfl
 | .bool,_,_,_,_,hk=>by simp only [cV] at hk;rw [hk.2];rfl
 | .str,_,_,_,_,hk=>by simp only [cV] at hk;rw [hk.2];rfl
 | .raw,_,_,_,_,hk=>by simp only [cV] at hk;rw [hk.2];rfl
 | .sl t,.R,_,_,_,hk=>by simp only [cV] at hk
 | .sl t,.S _,_,_,_,hk=>by simp only [cV] at hk
 | .sl t,.O e,_,_,_,hk=>by simp only [cV] at hk;obtain ⟨c,v,_,rfl,_⟩:=hk;rfl
 | .st aj,m,_,_,_,hk=>by simp only [cV] at hk;simpa only [ad.size] using fo.len aj m.parts hk
theorem fo.len:∀(aj:ax) (m:cQ) {cs:List a8} {vs:List Value} {H:ah},fo g w Z s ι aj m cs vs H→vs.length=aj.size
 | .nil,_,_,_,_,hk=>by simp only [fo] at hk;rw [hk.2];rfl
 | .cons t aj,m,_,_,_,hk=>by
  simp only [fo] at hk
  obtain ⟨c1,gm,v1,v2,H1,H2,_,rfl,h1,h2,_⟩:=hk
  rw [List.length_append,cV.len t m.ag h1,fo.len aj m.dq h2];rfl
end
mutual
theorem ad.xS:∀(t:ad) (m:a') (x:t.D) (c1 rest:List a8) (s:an) (ι : Nat→bD) (r:List a8×an) (us:List Value) (F H:ah),t.back x (c1++rest) s=some r→Inv w0 F0 Z0 n s a w ι Z →
  cV false w Z s ι t m c1 us H→t.al w Z m x us F→bF w0 F0 s w ι Z F→bF w0 F0 s w ι Z H→ah.apart F H→r.1=rest∧nT w0 F0 Z0 n s a w ι Z r.2 (F.or H)
 | .int k,m,x,c1,rest,s,ι,r,us,F,H,hb,h,hk,hr,hF,cD,ha=>by
  simp only [cV] at hk
  obtain ⟨hk,_⟩:=hk
  match c1,hk with
  | [c],_ =>
   simp only [ad.back,List.cons_append,List.nil_append,Option.some.injEq] at hb
   subst hb;exact⟨rfl,s4 h _⟩
 | .bool,m,x,c1,rest,s,ι,r,us,F,H,hb,h,hk,hr,hF,cD,ha=>by
  simp only [cV] at hk
  obtain ⟨hk,_⟩:=hk
  match c1,hk with
  | [c],_ =>
   simp only [ad.back,List.cons_append,List.nil_append,Option.some.injEq] at hb
   subst hb;exact⟨rfl,s4 h _⟩
 | .str,m,x,c1,rest,s,ι,r,us,F,H,hb,h,hk,hr,hF,cD,ha=>by
  simp only [cV] at hk
  obtain ⟨hk,_⟩:=hk
  match c1,hk with
  | [c],_ =>
   simp only [ad.back,List.cons_append,List.nil_append,Option.some.injEq] at hb
   subst hb;exact⟨rfl,s4 h _⟩
 | .raw,m,x,c1,rest,s,ι,r,us,F,H,hb,h,hk,hr,hF,cD,ha=>by
  simp only [cV] at hk
  obtain ⟨hk,_⟩:=hk
  match c1,hk with
  | [c],_ =>
   simp only [ad.back,List.cons_append,List.nil_append,Option.some.injEq] at hb
   subst hb;exact⟨rfl,s4 h _⟩
 | .sl t,.R,x,c1,rest,s,ι,r,us,F,H,hb,h,hk,hr,hF,cD,ha=>by
  simp only [cV] at hk
 | .sl t,.S _,x,c1,rest,s,ι,r,us,F,H,hb,h,hk,hr,hF,cD,ha=>by
  simp only [cV] at hk
 | .sl t,.O e,x,c1,rest,s,ι,r,us,F,H,hb,h,hk,hr,hF,cD,ha=>by
  simp only [cV] at hk
  obtain ⟨c,v,rfl,rfl,hk⟩:=hk
  cases c with
  | nil u =>
   simp only [ad.back,List.cons_append,List.nil_append,Option.some.injEq] at hb
   subst hb;exact⟨rfl,s4 h _⟩
  | ag id sub =>
   cases sub with
   | some=>exact hk.elim
   | none =>
    simp only at hk
    obtain ⟨ver,xs,A,k,re,_,hl,hv,hk⟩:=hk
    simp only [ad.back,List.cons_append,List.nil_append] at hb
    cases ho:s.o id with
    | b_ ep =>
     rw [ho] at hb
     obtain ⟨rfl,hcap,hh⟩:=hl ep ho
     simp only at hb
     obtain ⟨y,aM,hb2⟩:=bb hb
     obtain ⟨e1,s5⟩:=gD aM
     have s5:x=y:=s5.symm
     subst s5
     obtain rfl:=aU hb2
     refine⟨rfl,?_⟩
     simp only [ad.al] at hr
     obtain ⟨oJ,k',kZ,hr⟩:=hr
     rw [hv] at kZ
     simp only [List.cons.injEq,Value.slice.injEq,and_true] at kZ
     obtain ⟨rfl,hlen,rfl⟩:=kZ
     have lf:=xR h (id:=id) (o:=.row t e (ver+1) x) (i:=⟨(ι id).base,(ι id).cap,F.or H⟩) (by rw [ho];exact fun h=>h) (fun o'=>by simp) (by rw [ho];exact .q2 _ _ _ _ _ _ _ _ _ (by omega) hlen.symm rfl rfl) ?_ (hF.or cD)
     ·exact lf
     intro hm
     rcases hk with⟨rfl,oP⟩ | ⟨b,o,er,HM,Yg,hA,hwr,gT⟩
     ·left
      refine⟨List.eq_nil_of_length_eq_zero (by rw [← hlen];rfl),?_⟩
      show(ι id).cap=0
      rw [hcap,oP]
     ·right
      refine⟨at_ b o,er _ ho,?_⟩
      rcases hr with⟨rfl,rfl⟩ | ⟨⟨b',o',sp⟩,oO,hr⟩
      ·refine⟨rfl,Nat.zero_le _,?_,?_,ah.none,trivial,fun _ _ h=>h,fun _ _ h=>h.elim⟩
       ·show ∀j,j<(ι id).cap*t.size→_
        rw [hcap];exact hwr
       ·show ∀j,j<(ι id).cap*t.size→_
        rw [hcap];exact fun j hj=>.inr (gT j (by omega) hj)
      ·have hx0:=hr.cap
       by_cases hk0:k=0
       ·subst hk0
        have:x=[]:=List.eq_nil_of_length_eq_zero (by omega)
        subst this
        refine⟨rfl,Nat.zero_le _,?_,?_,ah.none,trivial,fun _ _ h=>h,fun _ _ h=>h.elim⟩
        ·show ∀j,j<(ι id).cap*t.size→_
         rw [hcap];exact hwr
        ·show ∀j,j<(ι id).cap*t.size→_
         rw [hcap];exact fun j hj=>.inr (gT j (by omega) hj)
       ·have hA:=hA.resolve_left hk0
        rw [oO] at hA
        simp only [at_,Option.some.injEq,Addr.mk.injEq] at hA
        obtain ⟨rfl,rfl,rfl⟩:=hA
        obtain ⟨G,g1,g2,g3⟩:=hr.row
        refine⟨rfl,?_,?_,?_,G,g1,?_,fun b o az=>.inl (g3 b o az)⟩
        ·show x.length≤(ι id).cap
         rw [hcap,← hlen];exact HM
        ·show ∀j,j<(ι id).cap*t.size→_
         rw [hcap];exact hwr
        ·show ∀j,j<(ι id).cap*t.size→_
         rw [hcap]
         intro j hj
         by_cases lg:j<k*t.size
         ·exact .inl (hr.inF j lg)
         ·exact .inr (gT j (by omega) hj)
        ·show ∀j,j<(ι id).cap*t.size→_
         rw [hcap]
         intro j hj az
         by_cases lg:j<k*t.size
         ·exact g2 j lg az
         ·exact ha _ _ (g3 _ _ az) (gT j (by omega) hj)
    | _=>rw [ho] at hb;simp at hb
  | bY u dp cq xs =>
   simp only at hk
   obtain ⟨p,i,T,ver,ys,b,o,re,rfl,eS,_,hl,ky,rfl,Yp⟩:=hk
   simp only [ad.back,List.cons_append,List.nil_append] at hb
   obtain ⟨s1,k9,hb2⟩:=bb hb
   obtain rfl:=aU hb2
   simp only [u3,eS] at k9
   cases ho:s.o p.id with
   | b_ ep =>
    rw [ho] at k9
    obtain ⟨rfl,er,hcap⟩:=hl ep ho
    simp only at k9
    obtain ⟨z,hz,k9⟩:=bb k9
    obtain rfl:=aU k9
    refine⟨rfl,?_⟩
    exact xR h (id:=p.id) (o:=.row T T.own (ver+1) (ys.set i z)) (i:=⟨(ι p.id).base,(ι p.id).cap,F.or H⟩) (by rw [ho];exact fun h=>h) (fun o'=>by simp) (by rw [ho];exact .q2 _ _ _ _ _ _ _ _ _ (by omega) (by simp) rfl rfl)
     (fun hm=>.inr ⟨at_ b o,er,by
      have:=Yp w Z F x z (b4.refl _ _) hr ha hz
      rw [← hcap] at this
      exact this⟩) (hF.or cD)
   | _=>rw [ho] at k9;simp at k9
  | _=>exact hk.elim
 | .st aj,m,x,c1,rest,s,ι,r,us,F,H,hb,h,hk,hr,hF,cD,ha=>by
  simp only [ad.back] at hb
  simp only [cV] at hk
  simp only [ad.al] at hr
  exact ax.xS aj m.parts x c1 rest s ι r us F H hb h hk hr hF cD ha
theorem ax.xS:∀(aj:ax) (m:cQ) (x:aj.D) (c1 rest:List a8) (s:an) (ι : Nat→bD) (r:List a8×an) (us:List Value) (F H:ah),aj.back x (c1++rest) s=some r→Inv w0 F0 Z0 n s a w ι Z →
  fo false w Z s ι aj m c1 us H→aj.al w Z m x us F→bF w0 F0 s w ι Z F→bF w0 F0 s w ι Z H→ah.apart F H→r.1=rest∧nT w0 F0 Z0 n s a w ι Z r.2 (F.or H)
 | .nil,m,x,c1,rest,s,ι,r,us,F,H,hb,h,hk,hr,hF,cD,ha=>by
  simp only [fo] at hk
  obtain ⟨rfl,rfl⟩:=hk
  simp only [ax.back,List.nil_append,Option.some.injEq] at hb
  subst hb
  exact⟨rfl,s4 h _⟩
 | .cons t aj,m,x,c1,rest,s,ι,r,us,F,H,hb,h,hk,hr,hF,cD,ha=>by
  simp only [fo] at hk
  obtain ⟨d1,d2,v1,v2,H1,H2,rfl,rfl,k1,k2,kz,iC,gT⟩:=hk
  simp only [ax.al] at hr
  obtain ⟨us1,us2,G1,G2,he,bA,cc,oQ,eW,gH⟩:=hr
  have hlen:v1.length=us1.length:=by rw [cV.len t m.ag k1,(ad.al.len t m.ag bA).1]
  obtain ⟨rfl,rfl⟩:=List.append_inj he hlen
  simp only [ax.back,List.append_assoc] at hb
  obtain ⟨q,hq,hb⟩:=bb hb
  obtain ⟨e1,du,i1,rj,fp,xT⟩:=ad.xS t m.ag x.1 d1 (d2++rest) s ι q v1 G1 H1 hq h k1 bA (hF.sub eW) (cD.sub iC) (fun b o h1 h2=>ha b o (eW b o h1) (iC b o h2))
  rw [e1] at hb
  obtain ⟨e2,eo,i2,mU,lV,mV⟩:=ax.xS aj m.dq x.2 d2 rest q.2 du r v2 G2 H2 hb i1 (fo.move (rj.mono fun _ _ _=>trivial) (fun _ _ h=>h) aj m.dq k2) cc
   (fp G2 (hF.sub gH) (by rintro b o h1 (h2 | h2);exact oQ b o h2 h1;exact ha b o (gH b o h1) (iC b o h2)))
   (fp H2 (cD.sub gT) (by rintro b o h1 (h2 | h2);exact ha b o (eW b o h2) (gT b o h1);exact kz b o h2 h1))
   (fun b o h1 h2=>ha b o (gH b o h1) (gT b o h2))
  refine⟨e2,eo,i2,rj.trans mU,fun X hX fr=>lV X (fp X hX ?_) ?_,fun id hl=>?_⟩
  ·rintro b o h1 (h2 | h2)
   ·exact fr b o h1 (.inl (eW b o h2))
   ·exact fr b o h1 (.inr (iC b o h2))
  ·rintro b o h1 (h2 | h2)
   ·exact fr b o h1 (.inl (gH b o h2))
   ·exact fr b o h1 (.inr (gT b o h2))
  ·obtain ⟨ec,fc⟩:=xT id hl
   obtain ⟨fT,jn⟩:=mV id (ec ▸ hl)
   exact⟨fT.trans ec,jn.trans fc⟩
end
end
end Go.LM
namespace Go.LM
section
variable{P:Program}{Q:Exit→Act→World→Prop}
variable{g:Bool}{w0:World}{F0 Z0:ah}{n:cC}{s aq:an}{a b6:Act}{w w' b7:World}{ι ba eo:Nat→bD}{Z Z' bK:ah}
theorem k4.held(h:k4 s ι aq ba)(H:ah):gr false w Z s ι w Z aq ba H:=by
 have hm:eB w Z s ι w Z aq ba:=h.eb
 refine⟨fun _ _=>aO.move hm,fun _ _=>cf.move hm,fun _ _ h=>h,fun id o' _ ho=>?_,fun h=>by simp at h,b4.refl _ _,b4.refl _ _,fun _ _ h=>h,fun _ _ _ h=>h⟩
 by_cases hn:s.o id=.none
 ·exact absurd ho (h.nl id o' hn)
 ·obtain ⟨h1,h2⟩:=h.o id hn
  exact⟨by rw [← h1,ho],h2⟩
theorem xU{dp:List (Nat×Nat)}(hl:∀d,d∈dp→(s.o d.1).live)(hk:∀id,(s.o id).live→aq.o id=s.o id ∧ ba id = ι id):(∀d,d∈dp→(aq.o d.1).live)∧c9 ba dp=c9 ι dp:=by
 refine⟨fun d ag=>by rw [(hk d.1 (hl d ag)).1];exact hl d ag,?_⟩
 funext b o
 apply propext
 constructor
 ·rintro ⟨d,ag,hf⟩;exact⟨d,ag,by rw [← (hk d.1 (hl d ag)).2];exact hf⟩
 ·rintro ⟨d,ag,hf⟩;exact⟨d,ag,by rw [(hk d.1 (hl d ag)).2];exact hf⟩
theorem k4.keeps(h:k4 s ι aq ba):∀id,(s.o id).live→aq.o id=s.o id ∧ ba id = ι id:=fun id hl=>h.o id (fun e=>by rw [e] at hl;exact hl)
theorem bF.c9{F:ah}{dp:List (Nat×Nat)}(hF:bF w0 F0 s w ι Z F)(hl:∀d,d∈dp→(s.o d.1).live):ah.apart F (LM.c9 ι dp):=by
 rintro b o h ⟨d,ag,hf⟩
 exact hF.apart d.1 (hl d ag) b o h hf
theorem nT.trans{s1 s2:an}{du:Nat→bD}{O5 O6 eE:ah}(h1:Inv w0 F0 Z0 n s1 a w du Z)(hh:gr false w Z s ι w Z s1 du (fun _ _=>True))(hf:∀X,bF w0 F0 s w ι Z X→ah.apart X O5→bF w0 F0 s1 w du Z X)
  (hl:∀id,(s.o id).live→s1.o id=s.o id ∧ du id = ι id) (k:nT w0 F0 Z0 n s1 a w du Z s2 O6) (gv:ah.sub (O5.or O6) eE):nT w0 F0 Z0 n s a w ι Z s2 eE:=by
 obtain ⟨eo,i2,mU,lV,mV⟩:=k
 refine⟨eo,i2,hh.trans mU,fun X hX fr=>lV X (hf X hX fun b o x y=>fr b o x (gv b o (.inl y))) fun b o x y=>fr b o x (gv b o (.inr y)),fun id b5=>?_⟩
 obtain ⟨ec,fc⟩:=hl id b5
 obtain ⟨fT,jn⟩:=mV id (ec ▸ b5)
 exact⟨fT.trans ec,jn.trans fc⟩
theorem hV.mono(hZ:ah.sub Z Z'):∀(ps:List bw) {us:List Value} {x:(bw.dU ps).D} {F F':ah},ah.sub F F'→hV w Z ps us x F→hV w Z' ps us x F'
 | [],_,_,_,_,_,_=>trivial
 | .mut t m m' :: ps,_,_,_,_,hF,⟨b,o,vs,aR,G,H,h1,h2,h3,h4,aZ,bd,bC,cU⟩=>⟨b,o,vs,aR,G,H,h1,h2,ad.al.mono hZ _ _ (fun _ _ h=>h) h3,hV.mono hZ ps (fun _ _ h=>h) h4,aZ,bd,fun b o h=>hF b o (bC b o h),fun b o h=>hF b o (cU b o h)⟩
 | .gP t m :: ps,_,_,_,_,hF,⟨vs,aR,G,H,h1,h2,h3,h4,aZ,bd⟩=>⟨vs,aR,G,H,h1,ad.al.mono hZ _ _ (fun _ _ h=>h) h2,hV.mono hZ ps (fun _ _ h=>h) h3,h4,fun b o h=>hF b o (aZ b o h),fun b o h=>hF b o (bd b o h)⟩
 | .val _ _ :: ps,_,_,_,_,hF,⟨u,aR,h1,h2⟩=>⟨u,aR,h1,hV.mono hZ ps hF h2⟩
 | .gQ _ :: ps,_,_,_,_,hF,⟨u,aR,h1,h2⟩=>⟨u,aR,h1,hV.mono hZ ps hF h2⟩
 | .ref _ :: ps,_,_,_,_,hF,⟨u,aR,h1,h2⟩=>⟨u,aR,h1,hV.mono hZ ps hF h2⟩
 | .fn _ _ :: ps,_,_,_,_,hF,⟨u,aR,h1,h2⟩=>⟨u,aR,h1,hV.mono hZ ps hF h2⟩
theorem rk{dp:List (Nat×Nat)} : ∀(ps:List bw) (vs:List a6) (us:List Value) (x:(bw.dU ps).D) (s:an) (ι : Nat→bD) (j:Nat) (q:an×Nat) (F H:ah),lH dp ps vs x s j=some q→Inv w0 F0 Z0 n s a w ι Z →
  eM false w Z s ι ps vs us H→hV w (Z.or (c9 ι dp)) ps us x F→bF w0 F0 s w ι Z F→bF w0 F0 s w ι Z H→ah.apart F H→(∀d,d∈dp→(s.o d.1).live∧ei s d)→nT w0 F0 Z0 n s a w ι Z q.1 (F.or H)
 | [],vs,us,x,s,ι,j,q,F,H,hu,h,hk,hr,hF,cD,ha,ag=>by
  simp only [lH,Option.some.injEq] at hu
  subst hu
  exact s4 h _
 | .val t m :: ps,vs,us,x,s,ι,j,q,F,H,hu,h,hk,hr,hF,cD,ha,ag=>by
  obtain ⟨v,bE,u,aR,rfl,rfl,hk⟩:=hk
  obtain ⟨hK,us2,he,hr⟩:=hr
  simp only [List.cons.injEq] at he
  obtain ⟨rfl,rfl⟩:=he
  exact rk ps bE aR x s ι j q F H (by simpa only [lH] using hu) h hk hr hF cD ha ag
 | .gQ t :: ps,vs,us,x,s,ι,j,q,F,H,hu,h,hk,hr,hF,cD,ha,ag=>by
  obtain ⟨v,bE,u,aR,rfl,rfl,hk⟩:=hk
  obtain ⟨hK,us2,he,hr⟩:=hr
  simp only [List.cons.injEq] at he
  obtain ⟨rfl,rfl⟩:=he
  exact rk ps bE aR x s ι j q F H (by simpa only [lH] using hu) h hk hr hF cD ha ag
 | .ref t :: ps,vs,us,x,s,ι,j,q,F,H,hu,h,hk,hr,hF,cD,ha,ag=>by
  obtain ⟨v,bE,u,aR,rfl,rfl,hk⟩:=hk
  obtain ⟨hK,us2,he,hr⟩:=hr
  simp only [List.cons.injEq] at he
  obtain ⟨rfl,rfl⟩:=he
  exact rk ps bE aR x s ι j q F H (by simpa only [lH] using hu) h hk hr hF cD ha ag
 | .fn _ _ :: ps,vs,us,x,s,ι,j,q,F,H,hu,h,hk,hr,hF,cD,ha,ag=>by
  obtain ⟨v,bE,u,aR,rfl,rfl,hk⟩:=hk
  obtain ⟨hK,us2,he,hr⟩:=hr
  simp only [List.cons.injEq] at he
  obtain ⟨rfl,rfl⟩:=he
  exact rk ps bE aR x s ι j q F H (by simpa only [lH] using hu) h hk hr hF cD ha ag
 | .gP t m :: ps,vs,us,x,s,ι,j,q,F,H,hu,h,hk,hr,hF,cD,ha,ag=>by
  obtain ⟨v,bE,u,aR,cs,H1,H2,rfl,rfl,hcs,rfl,k1,k2,kz,iC,gT⟩:=hk
  obtain ⟨ws,us2,G1,G2,he,bA,cc,oQ,eW,gH⟩:=hr
  simp only [List.cons.injEq] at he
  obtain ⟨rfl,rfl⟩:=he
  simp only [lH,hcs] at hu
  obtain ⟨r,hb,hu⟩:=bb hu
  have hl:=ad.al.len t _ bA
  rw [G' hl.1 hl.2] at k1
  have HN:t.al w Z t.own x.1 ws G1:=sJ t bA
  obtain ⟨e1,du,i1,rj,fp,xT⟩:=ad.xS t t.own x.1 cs [] s ι r ws G1 H1 (by rw [List.append_nil];exact hb) h k1 HN (hF.sub eW) (cD.sub iC) (fun b o x y=>ha b o (eW b o x) (iC b o y))
  have hdl:=xU (dp:=dp) (fun d hm=>(ag d hm).1) xT
  have xV:=rk ps bE aR x.2 r.2 du j q G2 H2 hu i1 (eM.move (rj.mono fun _ _ _=>trivial) (fun _ _ h=>h) ps k2) (by rw [hdl.2];exact cc)
   (fp G2 (hF.sub gH) (by rintro b o x (y | y);exact oQ b o y x;exact ha b o (gH b o x) (iC b o y)))
   (fp H2 (cD.sub gT) (by rintro b o x (y | y);exact ha b o (eW b o y) (gT b o x);exact kz b o y x))
   (fun b o x y=>ha b o (gH b o x) (gT b o y)) (fun d hm=>⟨hdl.1 d hm,by have:=(ag d hm).2;unfold ei known j5 at *;rw [(xT d.1 (ag d hm).1).1];exact this⟩)
  refine nT.trans i1 rj fp xT xV ?_
  rintro b o ((y | y) | (y | y))
  ·exact .inl (eW b o y)
  ·exact .inr (iC b o y)
  ·exact .inl (gH b o y)
  ·exact .inr (gT b o y)
 | .mut t m m' :: ps,vs,us,x,s,ι,j,q,F,H,hu,h,hk,hr,hF,cD,ha,ag=>by
  obtain ⟨p,bE,u,aR,H1,H2,rfl,rfl,k1,k2,kz,iC,gT⟩:=hk
  obtain ⟨b,o,ws,us2,G,fE,he,cl,bA,cc,oQ,ri,eW,gH⟩:=hr
  simp only [List.cons.injEq] at he
  obtain ⟨rfl,rfl⟩:=he
  have hGF:ah.sub G F:=fun b o x=>eW b o (.inl x)
  have Yq:ah.sub (ah.run b o t.size) F:=fun b o x=>eW b o (.inr x)
  have sN:=ad.al.len t _ bA
  simp only [lH] at hu
  cases ho:s.o p.id with
  | b_ ep =>
   rw [ho] at hu
   cases eS:p.fa with
   | none =>
    rw [eS] at hu
    cases ep with
    | var ver old =>
     simp only at hu
     obtain ⟨r,hx,hu⟩:=bb hu
     rcases k1 with k1 | ⟨_,_,_,_,_,_,_,_,_,_,_,_,hk2,_⟩
     case inr=>rw [eS] at hk2;simp at hk2
     obtain ⟨mJ,ajV,b',o',A5,_,hl,_,iT,hle,O7,hwr,A6,hcell⟩:=k1
     obtain ⟨bU,er⟩:=hl _ ho
     simp only [cj.var.injEq] at bU
     obtain ⟨rfl,rfl⟩:=bU
     simp only [Value.pointer.injEq,Option.some.injEq,at_,Addr.mk.injEq,and_true] at iT
     obtain ⟨rfl,rfl⟩:=iT
     obtain ⟨du,i1,iD,c1,fp⟩:=ad.nJ t m' dp x.1 s ι j r ws G hx h bA (hF.sub hGF) ((hF.sub hGF).c9 fun d hm=>(ag d hm).1) (fun d hm=>(ag d hm).2)
     obtain ⟨hs1,Yr⟩:=iD.o p.id (by rw [ho];simp)
     have hcl:=c1.len
     have hol:=O7.len
     have ajW:=sN.1
     have Ys:=iD.keeps
     have HO:bF w0 F0 r.2.1 w du Z ((ah.run b (o'+p.off) t.size).or H1):=(fp _ (hF.sub Yq) (fun b o x y=>ri b o y x)).or (fp _ (cD.sub iC) (fun b o x y=>ha b o (hGF b o y) (iC b o x)))
     have lf:=xR i1 (id:=p.id) (o:=.var (ver+1) (old.take p.off++r.1++old.drop (p.off+t.size))) (i:=⟨(du p.id).base,(du p.id).cap,(ah.run b (o'+p.off) t.size).or H1⟩)
      (by rw [hs1,ho];exact fun h=>h) (fun o'=>by simp) (by rw [hs1,ho];exact .xv _ _ _ _ _ _ (by omega) rfl) (fun hm=>by
       refine⟨at_ b o',c8 A5 p.off ws,by rw [Yr];exact er,rfl,?_,?_,?_⟩
       ·have Yt:bH w Z r.2.1 du old A5:=O7.move iD.eb
        have:=(bH.c8 Yt c1 p.off).move hm
        rwa [show p.off+r.1.length=p.off+t.size by omega] at this
       ·intro i v hv
        unfold c8 at hv
        show w.cell? (at_ b (o'+i))=some v
        by_cases h1:i<p.off
        ·rw [List.append_assoc,List.getElem?_append_left (by simp;omega),List.getElem?_take,if_pos h1] at hv
         exact hcell i v hv (.inl h1)
        ·by_cases h2:i<p.off+t.size
         ·rw [List.getElem?_append_left (by simp;omega),List.getElem?_append_right (by simp;omega)] at hv
          simp only [List.length_take] at hv
          have:=cl _ v hv
          rwa [show o'+p.off +(i-min p.off A5.length)=o'+i by omega] at this
         ·rw [List.getElem?_append_right (by simp;omega)] at hv
          simp only [List.length_append,List.length_take,List.getElem?_drop] at hv
          rw [show p.off+ws.length +(i-(min p.off A5.length+ws.length))=i by omega] at hv
          exact hcell i v hv (.inr (by omega))
       ·intro i hi
        have c5:i<old.length:=by simp only [List.length_append,List.length_take,List.length_drop] at hi;omega
        refine⟨hwr i c5,?_⟩
        show(ah.run b (o'+p.off) t.size).or H1 b (o'+i)
        by_cases hh:i<p.off∨p.off+t.size≤i
        ·exact .inr (A6 i c5 hh)
        ·exact .inl ⟨rfl,by omega,by omega⟩) HO
     obtain ⟨eo,i2,mU,lV,mV⟩:=lf
     have HP:∀id,(s.o id).live→(r.2.1.bO p.id (.var (ver+1) (old.take p.off++r.1++old.drop (p.off+t.size)))).o id=s.o id ∧ eo id = ι id:=fun id b5=>by
      obtain ⟨ec,fc⟩:=Ys id b5
      obtain ⟨fT,jn⟩:=mV id (ec ▸ b5)
      exact⟨fT.trans ec,jn.trans fc⟩
     have vE:gr false w Z s ι w Z (r.2.1.bO p.id (.var (ver+1) (old.take p.off++r.1++old.drop (p.off+t.size)))) eo (fun _ _=>True):=(iD.held _).trans mU
     have jJ:∀X,bF w0 F0 s w ι Z X→ah.apart X ((G.or (ah.run b (o'+p.off) t.size)).or H1)→bF w0 F0 (r.2.1.bO p.id (.var (ver+1) (old.take p.off++r.1++old.drop (p.off+t.size)))) w eo Z X:=fun X hX fr=>by
      refine lV X (fp X hX fun b o x y=>fr b o x (.inl (.inl y))) ?_
      rintro b o x (y | y)
      ·exact fr b o x (.inl (.inr y))
      ·exact fr b o x (.inr y)
     have hdl:=xU (dp:=dp) (fun d hm=>(ag d hm).1) HP
     have xV:=rk ps bE aR x.2 _ eo r.2.2 q fE H2 hu i2 (eM.move (vE.mono fun _ _ _=>trivial) (fun _ _ h=>h) ps k2) (by rw [hdl.2];exact cc)
      (jJ fE (hF.sub gH) (by rintro b o x (y | y);exact oQ b o y x;exact ha b o (gH b o x) (iC b o y)))
      (jJ H2 (cD.sub gT) (by rintro b o x (y | y);exact ha b o (eW b o y) (gT b o x);exact kz b o y x))
      (fun b o x y=>ha b o (gH b o x) (gT b o y)) (fun d hm=>⟨hdl.1 d hm,by have:=(ag d hm).2;unfold ei known j5 at *;rw [(HP d.1 (ag d hm).1).1];exact this⟩)
     refine nT.trans i2 vE jJ HP xV ?_
     rintro b o ((y | y) | (y | y))
     ·exact .inl (eW b o y)
     ·exact .inr (iC b o y)
     ·exact .inl (gH b o y)
     ·exact .inr (gT b o y)
    | _=>simp at hu
   | some i =>
    rw [eS] at hu
    cases ep with
    | row gu em ver xs =>
     simp only at hu
     obtain ⟨y,aM,hu⟩:=bb hu
     obtain ⟨e1,s5⟩:=Aq aM
     subst e1
     have s5:x.1=y:=s5.symm
     subst s5
     rcases k1 with⟨_,_,_,_,_,_,_,hk2,_⟩ | ⟨lO,nS,k1⟩
     ·rw [eS] at hk2;simp at hk2
     obtain ⟨mJ,fB,dW,b',o',c,G1,G2,_,hl,O8,hi,iT,HM,hwr,A6,Yu,Yv,Yw,O9,O_,O'⟩:=k1
     obtain ⟨bU,er,hcap⟩:=hl _ ho
     simp only [cj.row.injEq,heq_eq_eq,true_and] at bU
     obtain ⟨rfl,rfl,rfl⟩:=bU
     rw [eS] at O8
     obtain rfl:=aU O8
     simp only [Value.pointer.injEq,Option.some.injEq,at_,Addr.mk.injEq,and_true] at iT
     obtain ⟨rfl,rfl⟩:=iT
     subst lO
     have HN:t.al w Z m' x.1 ws G:=by rw [nS] at bA ⊢;exact sJ t bA
     have hcs:(i+1)*t.size≤c*t.size:=Nat.mul_le_mul_right _ (by omega)
     rw [Nat.add_one_mul] at hcs
     have HO:bF w0 F0 s w ι Z ((G.or (ah.run b (o'+i*t.size) t.size)).or H1):=(hF.sub eW).or (cD.sub iC)
     have lf:=xR h (id:=p.id) (o:=.row t m' (ver+1) (xs.set i x.1)) (i:=⟨(ι p.id).base,(ι p.id).cap,(G.or (ah.run b (o'+i*t.size) t.size)).or H1⟩)
      (by rw [ho];exact fun h=>h) (fun o'=>by simp) (by rw [ho];exact .q2 _ _ _ _ _ _ _ _ _ (by omega) (by simp) rfl rfl) (fun hm=>by
       right
       refine⟨at_ b o',er,rfl,?_,?_,?_,?_⟩
       ·show(xs.set i x.1).length≤(ι p.id).cap
        rw [List.length_set,hcap];exact HM
       ·show ∀j,j<(ι p.id).cap*t.size→_
        rw [hcap];exact hwr
       ·show ∀j,j<(ι p.id).cap*t.size→_
        rw [hcap]
        intro j hj
        show((G.or (ah.run b (o'+i*t.size) t.size)).or H1) b (o'+j)
        by_cases hh:j<i*t.size∨(i+1)*t.size≤j
        ·exact .inr (A6 j hj hh)
        ·rw [Nat.add_one_mul] at hh
         exact .inl (.inr ⟨rfl,by omega,by omega⟩)
       ·refine⟨G1.or (G.or G2),Row.AV i hi Yu HN sN.1 cl Yv (fun b o x y=>ha b o (hGF b o y) (iC b o (O9 b o x))) Yw (fun b o x y=>ha b o (hGF b o x) (iC b o (O_ b o y))),?_,?_⟩
        ·show ∀j,j<(ι p.id).cap*t.size→_
         rw [hcap]
         rintro j hj (az | az | az)
         ·exact(O' j hj).1 az
         ·by_cases hh:j<i*t.size∨(i+1)*t.size≤j
          ·exact ha _ _ (hGF _ _ az) (iC _ _ (A6 j hj hh))
          ·rw [Nat.add_one_mul] at hh
           exact ri _ _ az ⟨rfl,by show o'+i*t.size≤o'+j;omega,by show o'+j<_;omega⟩
         ·exact(O' j hj).2 az
        ·rintro b o (az | az | az)
         ·exact .inr (O9 b o az)
         ·exact .inl (.inl az)
         ·exact .inr (O_ b o az)) HO
     obtain ⟨eo,i2,mU,lV,mV⟩:=lf
     have hdl:=xU (dp:=dp) (fun d hm=>(ag d hm).1) mV
     have xV:=rk ps bE aR x.2 _ eo j q fE H2 hu i2 (eM.move (mU.mono fun _ _ _=>trivial) (fun _ _ h=>h) ps k2) (by rw [hdl.2];exact cc)
      (lV fE (hF.sub gH) (by rintro b o x (y | y);exact oQ b o y x;exact ha b o (gH b o x) (iC b o y)))
      (lV H2 (cD.sub gT) (by rintro b o x (y | y);exact ha b o (eW b o y) (gT b o x);exact kz b o y x))
      (fun b o x y=>ha b o (gH b o x) (gT b o y)) (fun d hm=>⟨hdl.1 d hm,by have:=(ag d hm).2;unfold ei known j5 at *;rw [(mV d.1 (ag d hm).1).1];exact this⟩)
     refine nT.trans i2 mU lV mV xV ?_
     rintro b o ((y | y) | (y | y))
     ·exact .inl (eW b o y)
     ·exact .inr (iC b o y)
     ·exact .inl (gH b o y)
     ·exact .inr (gT b o y)
    | _=>simp at hu
  | _=>rw [ho] at hu;simp at hu
end
end Go.LM
namespace Go.LM
section
variable{P:Program}{Q:Exit→Act→World→Prop}
variable{g:Bool}{w0:World}{F0 Z0:ah}{n:cC}{s aq:an}{a b6:Act}{w w' b7:World}{ι ba eo:Nat→bD}{Z Z' bK:ah}
variable{E:Env}{o:Oper}{br : Type}{K:an→Option br}{r : br}{id:Nat}
theorem A7:∀ {dp:List (Nat×Nat)},alive s dp=true→∀d,d∈dp→(s.o d.1).live
 | [],_,d,ag=>by simp at ag
 | (i,v) :: dp,h,d,ag=>by
  unfold alive at h
  rcases List.mem_cons.1 ag with rfl | ag
  ·cases ho:s.o i with
   | row=>trivial
   | var=>trivial
   | _=>rw [ho] at h;simp at h
  ·cases ho:s.o i with
   | row t em ver xs =>
    rw [ho] at h
    simp only at h
    cases hb:Nat.beq ver v
    ·rw [hb] at h;simp at h
    ·rw [hb] at h;exact A7 h d ag
   | var ver cs =>
    rw [ho] at h
    simp only at h
    cases hb:Nat.beq ver v
    ·rw [hb] at h;simp at h
    ·rw [hb] at h;exact A7 h d ag
   | _=>rw [ho] at h;simp at h
theorem aX.append:∀ {x y:List a6} {us vs:List Value},aX w Z s ι x us→aX w Z s ι y vs→aX w Z s ι (x++y) (us++vs)
 | [],_,_,_,h,k=>by simp only [aX] at h;subst h;exact k
 | _ :: _,_,_,_,h,k=>by
  simp only [aX] at h
  obtain ⟨u,aR,rfl,h1,h2⟩:=h
  simp only [List.cons_append,aX]
  exact⟨u,_,rfl,h1,h2.append k⟩
theorem HQ:∀ {x:List a6} {us:List Value},nE x=true→aX w Z s ι x us→aX w Z s ι (kV x) (fP us)
 | [],_,_,h=>by simp only [aX] at h;subst h;simp only [kV,fP,aX]
 | v :: l,_,hn,h=>by
  simp only [aX] at h
  obtain ⟨u,aR,rfl,h1,h2⟩:=h
  have hl:nE l=true:=by cases v <;> simp_all [nE]
  have ih:=HQ hl h2
  cases v with
  | fn f a b =>
   simp only [aO] at h1
   obtain ⟨xs,ys,rfl,c4,eC⟩:=h1
   simp only [kV,fP]
   exact(c4.append eC).append ih
  | aC=>simp [nE] at hn
  | aS c =>
   simp only [kV]
   have:∀f a b,u≠.func f a b:=by
    rintro f a b rfl
    simp only [aO] at h1
    cases c with
    | bY=>obtain ⟨_,⟨_,_,_,h⟩,_⟩:=h1;simp at h
    | ag=>obtain ⟨_,_,_,_,h,_⟩:=h1;simp at h
    | str=>obtain ⟨_,h,_⟩:=h1;simp at h
    | raw=>obtain ⟨h,_,_,_,h2⟩:=h1;rw [h2] at h;simp at h
    | _=>simp [cf] at h1
   cases u <;> first | exact ih | exact absurd rfl (this _ _ _)
  | hW cs=>simp only [aO] at h1;obtain ⟨_,rfl,_⟩:=h1;exact ih
  | ptr p=>simp only [aO] at h1;obtain ⟨_,_,rfl,_⟩:=h1;exact ih
  | dd=>simp only [aO] at h1;obtain ⟨_,_,_,_,rfl,_⟩:=h1;exact ih
  | gone=>simp [nE] at hn
  | qT=>simp [nE] at hn
  | jC=>simp only [aO] at h1;subst h1;exact ih
  | ko=>simp only [aO] at h1;subst h1;exact ih
  | may=>simp only [aO] at h1;rcases h1 with⟨_,rfl⟩ | ⟨_,_,_,_,_,rfl,_⟩ <;> exact ih
  | opt=>simp only [aO] at h1;rcases h1.2 with⟨_,rfl⟩ | ⟨_,_,rfl,_⟩ <;> exact ih
  | ox=>simp only [aO] at h1;obtain ⟨_,rfl,_⟩:=h1;exact ih
mutual
theorem cV.lW:∀(t:ad) (m:a') {cs:List a8} {vs:List Value} {H:ah},cV true w Z s ι t m cs vs H→cV false w Z s ι t m cs vs H
 | .int _,_,_,_,_,hk=>by simp only [cV] at hk ⊢;exact hk
 | .bool,_,_,_,_,hk=>by simp only [cV] at hk ⊢;exact hk
 | .str,_,_,_,_,hk=>by simp only [cV] at hk ⊢;exact hk
 | .raw,_,_,_,_,hk=>by simp only [cV] at hk ⊢;exact hk
 | .sl t,.R,_,_,_,hk=>by simp only [cV] at hk
 | .sl t,.S _,_,_,_,hk=>by simp only [cV] at hk
 | .sl t,.O e,_,_,_,hk=>by
  simp only [cV] at hk ⊢
  obtain ⟨c,v,h1,h2,hk⟩:=hk
  refine⟨c,v,h1,h2,?_⟩
  cases c with
  | nil=>exact hk
  | ag id sub =>
   cases sub with
   | some=>exact hk
   | none=>obtain ⟨ver,xs,A,k,c,_,h⟩:=hk;exact⟨ver,xs,A,k,c,fun h=>by simp at h,h⟩
  | bY u dp cq xs=>obtain ⟨p,i,T,ver,ys,b,o,c,h1,h2,_,h⟩:=hk;exact⟨p,i,T,ver,ys,b,o,c,h1,h2,fun h=>by simp at h,h⟩
  | _=>exact hk
 | .st aj,m,_,_,_,hk=>by simp only [cV] at hk ⊢;exact fo.lW aj m.parts hk
theorem fo.lW:∀(aj:ax) (m:cQ) {cs:List a8} {vs:List Value} {H:ah},fo true w Z s ι aj m cs vs H→fo false w Z s ι aj m cs vs H
 | .nil,_,_,_,_,hk=>by simp only [fo] at hk ⊢;exact hk
 | .cons t aj,m,_,_,_,hk=>by
  simp only [fo] at hk ⊢
  obtain ⟨c1,gm,v1,v2,H1,H2,h1,h2,h3,h4,aZ⟩:=hk
  exact⟨c1,gm,v1,v2,H1,H2,h1,h2,cV.lW t m.ag h3,fo.lW aj m.dq h4,aZ⟩
end
theorem eM.lW:∀(ps:List bw) {vs:List a6} {us:List Value} {H:ah},eM true w Z s ι ps vs us H→eM false w Z s ι ps vs us H
 | [],_,_,_,_=>trivial
 | .mut t m m' :: ps,_,_,_,⟨p,bE,u,aR,H1,H2,h1,h2,h3,h4,aZ⟩ =>
  ⟨p,bE,u,aR,H1,H2,h1,h2,h3.imp (fun⟨a,b,c,d,e,_,h⟩=>⟨a,b,c,d,e,fun h=>by simp at h,h⟩) (fun⟨c4,eC,a,b,c,d,e,f,g1,g2,_,h⟩=>⟨c4,eC,a,b,c,d,e,f,g1,g2,fun h=>by simp at h,h⟩),eM.lW ps h4,aZ⟩
 | .gP t m :: ps,_,_,_,⟨v,bE,u,aR,cs,H1,H2,h1,h2,h3,nS,h4,aZ,bd⟩=>⟨v,bE,u,aR,cs,H1,H2,h1,h2,h3,nS,cV.lW t m h4,eM.lW ps aZ,bd⟩
 | .val _ _ :: ps,_,_,_,⟨v,bE,u,aR,h1,h2,h3⟩=>⟨v,bE,u,aR,h1,h2,eM.lW ps h3⟩
 | .gQ _ :: ps,_,_,_,⟨v,bE,u,aR,h1,h2,h3⟩=>⟨v,bE,u,aR,h1,h2,eM.lW ps h3⟩
 | .ref _ :: ps,_,_,_,⟨v,bE,u,aR,h1,h2,h3⟩=>⟨v,bE,u,aR,h1,h2,eM.lW ps h3⟩
 | .fn _ _ :: ps,_,_,_,⟨v,bE,u,aR,h1,h2,h3⟩=>⟨v,bE,u,aR,h1,h2,eM.lW ps h3⟩
theorem hL.mono(hZ:ah.sub Z Z'){ps:List bw}{us:List Value} : ∀(rs:List cS) {x:(cS.outs rs (bw.dU ps)).D} {di:List Value} {F F':ah},ah.sub F F'→hL w Z ps us rs x di F→hL w Z' ps us rs x di F'
 | [],_,_,_,_,hF,⟨h1,h2⟩=>⟨h1,hV.mono hZ ps hF h2⟩
 | .val t m :: rs,_,_,_,_,hF,⟨vs,dX,G,H,h1,h2,h3,h4,aZ,bd⟩=>⟨vs,dX,G,H,h1,ad.al.mono hZ _ _ (fun _ _ h=>h) h2,hL.mono hZ rs (fun _ _ h=>h) h3,h4,fun b o h=>hF b o (aZ b o h),fun b o h=>hF b o (bd b o h)⟩
 | .opt a off t :: rs,_,_,_,_,hF,⟨v,dX,h1,h2,h3⟩=>⟨v,dX,h1,h2,hL.mono hZ rs hF h3⟩
 | .any t :: rs,_,_,_,_,hF,⟨v,dX,h1,h2,h3⟩=>⟨v,dX,h1,h2,hL.mono hZ rs hF h3⟩
 | .oz t :: rs,_,_,_,_,hF,⟨v,dX,h1,h2,h3⟩=>⟨v,dX,h1,h2.imp (fun h=>h) fun⟨y,b,o,vs,k1,k2,k3,bf,bs⟩=>⟨y,b,o,vs,k1,k2,k3,ad.al.mono hZ _ _ (fun _ _ h=>h) bf,fun j hj=>hZ _ _ (bs j hj)⟩,hL.mono hZ rs hF h3⟩
 | .new t m :: rs,_,_,_,_,hF,⟨b,o,vs,dX,G,H,h1,h2,hw,h3,h4,aZ,bd,bC,cU⟩=>⟨b,o,vs,dX,G,H,h1,h2,hw,ad.al.mono hZ _ _ (fun _ _ h=>h) h3,hL.mono hZ rs (fun _ _ h=>h) h4,aZ,bd,fun b o h=>hF b o (bC b o h),fun b o h=>hF b o (cU b o h)⟩
theorem iR.plus{p:Place}{b o:Nat}(k:Nat)(h:iR s ι p (at_ b o)):iR s ι { p with off:=p.off+k } (at_ b (o+k)):=by
 obtain ⟨_,h⟩:=h
 refine⟨rfl,?_⟩
 show match (s.o p.id).core with | .var _ _=>_ | .row .. => _ | _=>_
 cases hc:(s.o p.id).core with
 | var ver cs =>
  rw [hc] at h
  obtain ⟨h1,a0,h2,h3⟩:=h
  simp only [at_,Addr.mk.injEq,and_true] at h3
  exact⟨h1,a0,h2,by simp only [at_,Addr.mk.injEq,and_true];exact⟨h3.1,by omega⟩⟩
 | row t em ver xs =>
  rw [hc] at h
  obtain ⟨i,h1,h2,a0,h3,h4⟩:=h
  simp only [at_,Addr.mk.injEq,and_true] at h4
  exact⟨i,h1,h2,a0,h3,by simp only [at_,Addr.mk.injEq,and_true];exact⟨h4.1,by omega⟩⟩
 | _=>trivial
theorem aX.get:∀ {x:List a6} {us:List Value} (i:Nat) {v:a6},aX w Z s ι x us→x[i]?=some v→∃u,us[i]?=some u∧aO w Z s ι v u
 | [],_,i,_,_,h=>by simp at h
 | y :: l,_,0,v,h,hv=>by
  simp only [aX] at h
  obtain ⟨u,aR,rfl,h1,h2⟩:=h
  simp at hv;subst hv
  exact⟨u,rfl,h1⟩
 | y :: l,_,i+1,v,h,hv=>by
  simp only [aX] at h
  obtain ⟨u,aR,rfl,h1,h2⟩:=h
  simp only [List.getElem?_cons_succ] at hv ⊢
  exact h2.get i hv
theorem aX.held{g:Bool}{H:ah}(h:gr g w Z s ι w' Z' aq ba H):∀ {x:List a6} {us:List Value},aX w Z s ι x us→aX w' Z' aq ba x us
 | [],_,hx=>by simp only [aX] at hx ⊢;exact hx
 | y :: l,_,hx=>by
  simp only [aX] at hx ⊢
  obtain ⟨u,aR,h0,h1,h2⟩:=hx
  exact⟨u,aR,h0,h.aB _ _ h1,aX.held h h2⟩
theorem vF{bh:List (Nat×Nat)}{ps:List bw}{vs:List a6}{us:List Value} : ∀(rs:List cS) (x:(cS.outs rs (bw.dU ps)).D) (di:List Value) (s:an) (ι : Nat→bD) (j:Nat) (q:List a6×an) (F H:ah),kU vs ps bh rs x s j=some q →
  Inv w0 F0 Z0 n s a w ι Z→eM false w Z s ι ps vs us H→hL w (Z.or (c9 ι bh)) ps us rs x di F→bF w0 F0 s w ι Z F→bF w0 F0 s w ι Z H→ah.apart F H→(∀d,d∈bh→(s.o d.1).live∧ei s d)→aX w Z s ι vs us →
  ∃ ba,Inv w0 F0 Z0 n q.2 a w ba Z∧(∀x u,aO w Z s ι x u→aO w Z q.2 ba x u)∧aX w Z q.2 ba q.1 di
 | [],x,di,s,ι,j,q,F,H,hu,h,hk,hr,hF,cD,ha,ag,hv=>by
  simp only [kU] at hu
  obtain ⟨r,hx,hu⟩:=bb hu
  obtain rfl:=aU hu
  obtain ⟨rfl,hr⟩:=hr
  obtain ⟨ba,dW,held,_⟩:=rk ps vs us x s ι j r F H hx h hk hr hF cD ha ag
  exact⟨ba,dW,held.aB,by simp only [aX]⟩
 | .val t m :: rs,x,di,s,ι,j,q,F,H,hu,h,hk,hr,hF,cD,ha,ag,hv=>by
  simp only [kU] at hu
  obtain ⟨r,hx,hu⟩:=bb hu
  cases hw:jD t r.1 with
  | none=>rw [hw] at hu;simp at hu
  | some v =>
   rw [hw] at hu
   simp only at hu
   obtain ⟨p,au,hu⟩:=bb hu
   obtain rfl:=aU hu
   obtain ⟨ws,dX,G1,G2,rfl,bA,cc,oQ,eW,gH⟩:=hr
   obtain ⟨du,i1,iD,c1,fp⟩:=ad.nJ t m bh x.1 s ι j r ws G1 hx h bA (hF.sub eW) ((hF.sub eW).c9 fun d hm=>(ag d hm).1) (fun d hm=>(ag d hm).2)
   have rj:gr false w Z s ι w Z r.2.1 du (fun _ _=>True):=iD.held _
   have hdl:=xU (dp:=bh) (fun d hm=>(ag d hm).1) iD.keeps
   have HR:aX w Z r.2.1 du vs us:=aX.move (iD.eb (w:=w) (Z:=Z)) hv
   obtain ⟨eo,i2,oR,gU⟩:=vF rs x.2 dX r.2.1 du r.2.2 p G2 H au i1 (eM.move (rj.mono fun _ _ _=>trivial) (fun _ _ h=>h) ps hk) (by rw [hdl.2];exact cc)
    (fp G2 (hF.sub gH) (fun b o x y=>oQ b o y x)) (fp H cD (fun b o x y=>ha b o (eW b o y) x)) (fun b o x y=>ha b o (gH b o x) y)
    (fun d hm=>⟨hdl.1 d hm,by have:=(ag d hm).2;unfold ei known j5 at *;rw [(iD.keeps d.1 (ag d hm).1).1];exact this⟩) HR
   refine⟨eo,i2,fun x u hx=>oR x u (rj.aB x u hx),?_⟩
   simp only [aX]
   exact⟨_,dX,rfl,oR _ _ (oH hw c1),gU⟩
 | .new t m :: rs,x,di,s,ι,j,q,F,H,hu,h,hk,hr,hF,cD,ha,ag,hv=>by
  simp only [kU] at hu
  obtain ⟨r,hx,hu⟩:=bb hu
  obtain ⟨s1,hm,hu⟩:=bb hu
  obtain ⟨p,au,hu⟩:=bb hu
  obtain rfl:=aU hu
  obtain ⟨b5,rfl⟩:=pR hm
  obtain ⟨b,o,ws,dX,G1,G2,rfl,cl,hwr,bA,cc,oQ,ri,eW,gH⟩:=hr
  have hG:ah.sub G1 F:=fun b o x=>eW b o (.inl x)
  have dt:ah.sub (ah.run b o t.size) F:=fun b o x=>eW b o (.inr x)
  obtain ⟨du,i1,iD,c1,fp⟩:=ad.nJ t m bh x.1 s ι j r ws G1 hx h bA (hF.sub hG) ((hF.sub hG).c9 fun d hm=>(ag d hm).1) (fun d hm=>(ag d hm).2)
  have hl:=(ad.al.len t _ bA).1
  have hcl:=c1.len
  have jJ:=fp _ (hF.sub dt) (fun b o x y=>ri b o y x)
  obtain ⟨i2,mU,lV,mV⟩:=HL i1 (id:=r.2.2) (o:=.var 0 r.1) (i:=⟨some (at_ b o),0,ah.run b o t.size⟩) (by rw [b5];exact fun h=>h) (fun o'=>by simp) (by rw [b5];exact .made _ _ _) (fun hm=>by
   refine⟨at_ b o,ws,rfl,rfl,c1.move hm,cl,fun k hk=>⟨hwr k (by omega),rfl,by simp [at_],by simp [at_];omega⟩⟩) jJ
  have held:gr false w Z s ι w Z _ _ (fun _ _=>True):=(iD.held _).trans mU
  have Pb:∀id,(s.o id).live→(r.2.1.bO r.2.2 (.var 0 r.1)).o id=s.o id∧bQ du r.2.2 ⟨some (at_ b o),0,ah.run b o t.size⟩ id = ι id:=fun id b8=>by
   obtain ⟨h1,h2⟩:=iD.keeps id b8
   obtain ⟨h3,h4⟩:=mV id (by rw [h1];exact b8)
   exact⟨h3.trans h1,h4.trans h2⟩
  have hdl:=xU (dp:=bh) (fun d hm=>(ag d hm).1) Pb
  have HR:aX w Z _ _ vs us:=aX.held held hv
  have xW:∀X,bF w0 F0 s w ι Z X→ah.apart X (G1.or (ah.run b o t.size))→bF w0 F0 (r.2.1.bO r.2.2 (.var 0 r.1)) w (bQ du r.2.2 ⟨some (at_ b o),0,ah.run b o t.size⟩) Z X:=fun X hX fr =>
   lV X (fp X hX fun b o x y=>fr b o x (.inl y)) fun b o x y=>fr b o x (.inr y)
  obtain ⟨HS,i3,Pc,gU⟩:=vF rs x.2 dX _ _ _ p G2 H au i2 (eM.move (held.mono fun _ _ _=>trivial) (fun _ _ h=>h) ps hk) (by rw [hdl.2];exact cc)
   (xW G2 (hF.sub gH) (fun b o x y=>oQ b o y x)) (xW H cD (fun b o x y=>ha b o (eW b o y) x)) (fun b o x y=>ha b o (gH b o x) y)
   (fun d hm=>⟨hdl.1 d hm,by have:=(ag d hm).2;unfold ei known j5 at *;rw [(Pb d.1 (ag d hm).1).1];exact this⟩) HR
  refine⟨HS,i3,fun x u hx=>Pc x u (held.aB x u hx),?_⟩
  simp only [aX]
  refine⟨_,dX,rfl,Pc _ _ ?_,gU⟩
  simp only [aO]
  refine⟨by show bQ r.2.1.o r.2.2 _ r.2.2≠_;rw [ct];simp,_,rfl,rfl,?_⟩
  show match (bQ r.2.1.o r.2.2 _ r.2.2).core with | .var _ _=>_ | .row .. => _ | _=>_
  rw [ct]
  exact⟨rfl,at_ b o,by rw [ct],by simp [at_]⟩
 | .any t :: rs,x,di,s,ι,j,q,F,H,hu,h,hk,hr,hF,cD,ha,ag,hv=>by
  simp only [kU] at hu
  obtain ⟨p,au,hu⟩:=bb hu
  obtain rfl:=aU hu
  obtain ⟨v,dX,rfl,Yx,cc⟩:=hr
  obtain ⟨eo,i2,oR,gU⟩:=vF rs x dX s ι j p F H au h hk cc hF cD ha ag hv
  refine⟨eo,i2,oR,?_⟩
  simp only [aX]
  exact⟨_,dX,rfl,by simp only [aO];exact Yx,gU⟩
 | .oz t :: rs,x,di,s,ι,j,q,F,H,hu,h,hk,hr,hF,cD,ha,ag,hv=>by
  simp only [kU] at hu
  obtain ⟨p,au,hu⟩:=bb hu
  obtain rfl:=aU hu
  obtain ⟨v,dX,rfl,ho,cc⟩:=hr
  obtain ⟨eo,i2,oR,gU⟩:=vF rs x.2 dX s ι j p F H au h hk cc hF cD ha ag hv
  refine⟨eo,i2,oR,?_⟩
  simp only [aX]
  refine⟨v,dX,rfl,oR _ _ ?_,gU⟩
  simp only [aO]
  rcases ho with⟨h1,h2⟩ | ⟨y,b,o,bE,h1,h2,h3,h4,aZ⟩
  ·exact .inl ⟨by rw [h1];rfl,h2⟩
  ·right
   rw [h1]
   refine⟨rfl,fun d hm=>(ag d hm).2,b,o,bE,h2,fun _=>?_⟩
   have hc:bH w Z s ι (t.cells bh none y) bE:=ad.pN t bh none (fun d hm=>(ag d hm).2) (fun _=>h4) ⟨_,_,_,h4⟩ .none
   refine⟨hc,h3,fun j hj=>?_⟩
   have hl:=(ad.al.len t _ h4).1
   have dN:=hc.len
   exact aZ j (by rw [show(J t [y] 0)=y from rfl] at hj;omega)
 | .opt lh off t :: rs,x,di,s,ι,j,q,F,H,hu,h,hk,hr,hF,cD,ha,ag,hv=>by
  simp only [kU] at hu
  obtain ⟨p,au,hu⟩:=bb hu
  cases dQ:pI p.2 vs lh off with
  | none=>rw [dQ] at hu;simp at hu
  | some id =>
   rw [dQ] at hu
   simp only at hu
   cases lX:pJ p.2 t id
   ·rw [lX] at hu;cases hu
   rw [lX] at hu
   simp only [cond_true] at hu
   obtain rfl:=aU hu
   obtain ⟨v,dX,rfl,ho,cc⟩:=hr
   obtain ⟨eo,i2,oR,gU⟩:=vF rs x.2 dX s ι j p F H au h hk cc hF cD ha ag hv
   refine⟨eo,i2,oR,?_⟩
   simp only [aX]
   refine⟨v,dX,rfl,?_,gU⟩
   unfold pI at dQ
   cases mP:vs[lh]? with
   | none=>rw [mP] at dQ;simp at dQ
   | some kW =>
    rw [mP] at dQ
    cases kW with
    | ptr pl =>
     simp only at dQ
     cases c2:lG p.2 1 { pl with off:=pl.off+off } with
     | none=>rw [c2] at dQ;simp at dQ
     | some cs =>
      rw [c2] at dQ
      have hcs:cs=[.ag id none]:=by
       split at dQ
       ·rename_i h;obtain rfl:=aU dQ;exact aU h
       ·simp at dQ
      subst hcs
      obtain ⟨u,vG,rl⟩:=hv.get lh mP
      have rl:=oR _ _ rl
      simp only [aO] at rl
      obtain ⟨jH,A,rfl,mW⟩:=rl
      obtain ⟨b,o,sp⟩:=A
      have hsp:=mW.1
      simp only at hsp
      subst hsp
      obtain ⟨q6,eA,ws,hA,hc1,hc2,xQ⟩:=xy i2 c2 (iR.plus (b:=b) (o:=o) off mW)
      simp only [at_,Addr.mk.injEq,and_true] at hA
      obtain ⟨rfl,rfl⟩:=hA
      match ws,hc1 with
      | [v0],hc1 =>
       obtain ⟨hk0,A,m,k,rfl,hh⟩:=hc1.1
       simp only [aO]
       refine⟨hk0,?_⟩
       rcases ho with⟨h1,h2⟩ | ⟨h1,ra,eL,iS,dz,fD,c1,h2,h3,h4,aZ⟩
       ·exact .inl ⟨h1,h2⟩
       ·right
        refine⟨h1,_,aZ,rfl,?_⟩
        rw [vG] at h2
        simp only [Option.some.injEq,Value.pointer.injEq,at_,Addr.mk.injEq,and_true] at h2
        obtain ⟨rfl,rfl⟩:=h2
        have:=hc2.head
        rw [h3] at this
        simp only [Option.some.injEq,Value.slice.injEq] at this
        obtain ⟨rfl,rfl,rfl⟩:=this
        show match (p.2.o id).core with | .var _ _=>_ | .row .. => _ | _=>_
        unfold pJ at lX
        cases bU:p.2.o id with
        | row u em ver xs =>
         rw [bU] at lX
         have:=ad.eq_of_beq _ _ lX
         subst this
         obtain ⟨c4,eC,hY,h5,h6⟩:=hh u em ver xs (kY bU)
         have c4:fD=xs.length:=c4
         rcases h6 with h6 | ⟨a0,mK,mQ⟩
         ·omega
         ·simp only [ea,Nat.zero_mul,Nat.add_zero,Option.some.injEq,at_,Addr.mk.injEq,and_true] at mQ
          refine⟨_,rfl,by omega,a0,mK,?_⟩
          simp only [at_,Addr.mk.injEq,and_true]
          exact⟨mQ.1,by omega⟩
        | _=>rw [bU] at lX;cases lX
    | _=>simp at dQ
end
end Go.LM
namespace Go.LM
section
variable{P:Program}{Q:Exit→Act→World→Prop}
variable{g:Bool}{w0:World}{F0 Z0:ah}{n:cC}{s aq:an}{a b6:Act}{w w' b7:World}{ι ba eo:Nat→bD}{Z Z' bK:ah}
variable{E:Env}{o:Oper}{br : Type}{K:an→Option br}{r : br}{id:Nat}
def A8:List a6→a6
 | [v]=>v
 | l=>.ox l
theorem Calls.mono{P:Program}{f:FuncId}{args:Array Value}{w:World}{R iv:Ending→World→Prop}(h:Calls P f args w R)(dt:∀e w',R e w'→iv e w'):Calls P f args w iv:=by
 intro cs
 obtain ⟨e,w',mX,h1,h2⟩:=h cs
 exact⟨e,w',mX,dt e w' h1,h2⟩
theorem vy.mono{P:Program}{f:FuncId}{args:Array Value}{w:World}{R iv:Ending→World→Prop}(h:vy P f args w R)(dt:∀e w',R e w'→iv e w'):vy P f args w iv:=by
 rcases h with⟨h1,h2⟩ | ⟨v,w',h1,h2⟩
 ·exact .inl ⟨h1,Calls.mono h2 dt⟩
 ·exact .inr ⟨v,w',h1,dt _ _ h2⟩
def A9(P:Program)(E:Env):Prop:=∀f key e,E.fns f key=some e→hp P f key e
theorem Yy{f:FuncId}{vs:List a6}{us:List Value}{K:a6→an→Option br}(dM:A9 P E)(h:Inv w0 F0 Z0 n s a w ι Z)(hv:aX w Z s ι vs us)(hk:Gv E id s f vs K=some r) :
  ∃(T:a6→an→Prop),(∀v aq,T v aq→K v aq=some r)∧(∃v aq,T v aq)∧vy P f us.toArray w fun e w'=>∃u,e=.returned u∧∀v aq,T v aq→∃ ba Z',Inv w0 F0 Z0 n aq a w' ba Z'∧aO w' Z' aq ba v u:=by
 unfold Gv at hk
 cases hf:E.fns f (oB vs) with
 | none=>rw [hf] at hk;simp at hk
 | some e =>
  rw [hf] at hk
  simp only at hk
  cases hm:fR (oB vs) s e.ps (vs++kV vs) [] with
  | none=>rw [hm] at hk;simp at hk
  | some q =>
   obtain ⟨x,s1,bh⟩:=q
   rw [hm] at hk
   simp only at hk
   cases dP:(alive s1 bh&&nE vs)
   ·rw [dP] at hk;simp at hk
   rw [dP] at hk
   simp only [Bool.and_eq_true] at dP
   obtain ⟨dP,HT⟩:=dP
   simp only [cond_true] at hk
   obtain ⟨y,aM,hk⟩:=bb hk
   cases hu:kU (vs++kV vs) e.ps bh e.rs y s1 id with
   | none=>rw [hu] at hk;simp at hk
   | some q =>
    obtain ⟨l,s2⟩:=q
    rw [hu] at hk
    have HU:=dM f _ e hf
    have hvc:=hv.append (HQ HT hv)
    obtain ⟨F,H,cp,i1,g1,bA,k1,f1,h1,a1,_,d1,_⟩:=pZ e.ps _ _ s Z [] _ hm h hvc (by simp)
    simp only at i1 g1 bA k1 f1 h1 d1
    have b8:=A7 dP
    have hcall:=HU.calls w (cp.or (c9 ι bh)) F x us y
     (by
      rintro b o (hz | ⟨d,ag,hf⟩)
      ·exact i1.iw b o hz
      ·exact(i1.own d.1 (b8 d ag) b o hf).2)
     (fun b o hf=>(f1.own b o hf).2)
     (by
      rintro b o hf (hz | hz)
      ·exact f1.cY b o hf hz
      ·exact f1.c9 b8 b o hf hz) bA aM
    refine⟨fun eJ aq=>eJ=A8 l∧aq=s2,?_,⟨_,s2,rfl,rfl⟩,hcall.mono ?_⟩
    ·rintro eJ aq ⟨rfl,rfl⟩
     clear hu
     match l,hk with
     | [],hk=>exact hk
     | [_],hk=>exact hk
     | _ :: _ :: _,hk=>exact hk
    ·rintro end_ w' ⟨u,rfl,⟨di,Z',F',rfl,hx,iV,hz2,hf2,xX,gU⟩⟩
     refine⟨_,rfl,?_⟩
     rintro eJ aq ⟨rfl,rfl⟩
     let S:ah:=fun b o=>Z' b o∧(F b o∨w.heap.size≤b)
     have lY:=i1.AM f1 hx
     have Pd:∀(X:ah),(∀b o,X b o→(F b o∨w.heap.size≤b)∧b<w'.heap.size)→bF w0 F0 s1 w' ι cp X:=by
      intro X hX
      have hsz:=i1.ext.size
      refine⟨fun b o hb=>⟨?_,(hX b o hb).2⟩,fun id hl b o hb hi=>?_,fun b o hb hz=>?_⟩
      ·rcases (hX b o hb).1 with hf | hf
       ·exact(f1.own b o hf).1
       ·exact .inr (by omega)
      ·rcases (hX b o hb).1 with hf | hf
       ·exact f1.apart id hl b o hf hi
       ·have:=(i1.own id hl b o hi).2;omega
      ·rcases (hX b o hb).1 with hf | hf
       ·exact f1.cY b o hf hz
       ·have:=i1.iw b o hz;omega
     have Hr:bF w0 F0 s1 w' ι cp S:=Pd S (by
      rintro b o ⟨hz,hf⟩
      refine⟨hf,?_⟩
      rcases hz2 b o hz with h1 | h1
      ·have hsz:=hx.size
       rcases h1 with h1 | ⟨d,ag,h1⟩
       ·have:=i1.iw b o h1;omega
       ·have:=(i1.own d.1 (b8 d ag) b o h1).2;omega
      ·exact h1.2)
     have eN:=lY.freeze Hr
     have HV:bF w0 F0 s1 w' ι (cp.or S) F':=(Pd F' hf2).freeze (fun b o hb hs=>xX b o hb hs.1)
     have cD:bF w0 F0 s1 w' ι (cp.or S) H:=(h1.ext hx).freeze (by
      rintro b o hb ⟨_,hf | hf⟩
      ·exact a1 b o hf hb
      ·have:=(h1.own b o hb).2;omega)
     have Pe:ah.apart cp F:=fun b o hz hf=>f1.cY b o hf hz
     have rf:eB w cp s1 ι w' (cp.or S) s1 ι := by
      refine⟨fun id=>.stay _ _,fun _ _ h=>.inl h,b4.iy hx i1.q5 ?_⟩
      rintro b o (hz | ⟨id,hl,_,_,hf⟩) hs
      ·exact Pe b o hz hs
      ·exact f1.apart id hl b o hs hf
     have vE:gr false w cp s1 ι w' (cp.or S) s1 ι H :=
      ⟨fun _ _=>aO.move rf,fun _ _=>cf.move rf,rf.dA,fun _ _ _ h=>⟨h,rfl⟩,fun h=>by simp at h,b4.iy hx (fun b o hb=>(h1.own b o hb).2) (fun b o hb hf=>a1 b o hf hb),b4.iy hx i1.iw Pe,fun b o hw=>hx.pF hw,fun z b o hw=>hx.j3 hw⟩
     have hvs1:aX w' (cp.or S) s1 ι (vs++kV vs) (us++fP us):=aX.move rf (aX.move g1.eb hvc)
     obtain ⟨eo,i2,_,cK⟩:=vF e.rs y di s1 ι id (l,aq) F' H hu eN (eM.move vE (fun _ _ h=>h) e.ps k1.lW) (hL.mono (by
      intro b o hz
      by_cases hc:(F b o∨w.heap.size≤b)
      ·exact .inl (.inr ⟨hz,hc⟩)
      ·rcases hz2 b o hz with h1 | h1
       ·rcases h1 with h1 | h1
        ·exact .inl (.inl h1)
        ·exact .inr h1
       ·exact absurd h1.1 hc) e.rs (fun _ _ h=>h) gU) HV cD (by
      intro b o hb hh
      rcases (hf2 b o hb).1 with hf | hf
      ·exact a1 b o hf hh
      ·have:=(h1.own b o hh).2;omega) (fun d ag=>⟨b8 d ag,d1 d ag⟩) hvs1
     refine⟨eo,_,i2,?_⟩
     show aO w' _ aq eo (A8 l) (nR di)
     simp only at cK
     clear hk hu
     match l,cK with
     | [],cK=>simp only [aX] at cK;subst cK;simp only [A8,aO,nR];exact⟨[],rfl,by simp only [aX]⟩
     | [v0],cK =>
      simp only [aX] at cK
      obtain ⟨j9,vk,rfl,h0,rfl⟩:=cK
      exact h0
     | v0 :: v1 :: l,cK =>
      have vH:=cK
      simp only [aX] at cK
      obtain ⟨j9,vk,rfl,h0,kX,us1,rfl,h1,h2⟩:=cK
      simp only [A8,aO,nR]
      exact⟨_,rfl,vH⟩
theorem Pf{m:Nat}{n:Int}{k:Nat}(hx:aN m n=some k):0≤n∧k=n.toNat:=by
 unfold aN at hx
 by_cases hc:0≤n∧n<(m:Int)
 ·rw [if_pos hc] at hx;exact⟨hc.1,(aU hx).symm⟩
 ·rw [if_neg hc] at hx;cases hx
theorem A_{br : Type}{r : br} : ∀ {vs:List a6} {us:List Value} {K:List a6→Option br},qW s vs K=some r→aX w Z s ι vs us→∃bE,K bE=some r∧aX w Z s ι bE us
 | [],us,K,hk,hv=>⟨[],hk,hv⟩
 | v :: l,us,K,hk,hv=>by
  simp only [aX] at hv
  obtain ⟨u,aR,rfl,h1,h2⟩:=hv
  have keep:(qW s l fun l'=>K (v :: l'))=some r→∃bE,K bE=some r∧aX w Z s ι bE (u :: aR):=fun hk=>by
   obtain ⟨l',k1,k2⟩:=A_ (K:=fun l'=>K (v :: l')) hk h2
   exact⟨v :: l',k1,by simp only [aX];exact⟨u,aR,rfl,h1,k2⟩⟩
  cases v with
  | opt i n =>
   simp only [qW] at hk
   obtain ⟨k,hx,hk⟩:=bb hk
   obtain ⟨l',k1,k2⟩:=A_ (K:=fun l'=>K (.ptr ⟨i,some k,0⟩ :: l')) hk h2
   refine⟨_,k1,?_⟩
   simp only [aX]
   refine⟨u,aR,rfl,?_,k2⟩
   simp only [aO] at h1 ⊢
   obtain ⟨h0,rfl⟩:=Pf hx
   obtain ⟨jH,⟨h3,_⟩ | ⟨h3,vI,rfl,h4⟩⟩:=h1
   ·omega
   ·exact⟨jH,vI,rfl,h4⟩
  | may b dp cs =>
   simp only [qW] at hk
   cases b
   ·cases hk
   obtain ⟨l',k1,k2⟩:=A_ (K:=fun l'=>K (.dd dp cs 0 :: l')) hk h2
   refine⟨_,k1,?_⟩
   simp only [aX]
   refine⟨u,aR,rfl,?_,k2⟩
   simp only [aO] at h1 ⊢
   rcases h1 with⟨h1,_⟩ | ⟨_,h1⟩
   ·cases h1
   ·exact h1
  | _=>exact keep hk
theorem Yz{f:FuncId}{vs:List a6}{us:List Value}{K:a6→an→Option br}(dM:A9 P E)(h:Inv w0 F0 Z0 n s a w ι Z)(hv:aX w Z s ι vs us)(hk:Gw E id s f vs K=some r) :
  ∃(T:a6→an→Prop),(∀v aq,T v aq→K v aq=some r)∧(∃v aq,T v aq)∧vy P f us.toArray w fun e w'=>∃u,e=.returned u∧∀v aq,T v aq→∃ ba Z',Inv w0 F0 Z0 n aq a w' ba Z'∧aO w' Z' aq ba v u:=by
 unfold Gw at hk
 obtain ⟨bE,ed,kZ⟩:=A_ hk hv
 exact Yy dM h kZ ed
theorem YA{c:Call}{b3:Operand}(dM:A9 P E)(h:Inv w0 F0 Z0 n s a w ι Z)(ag:∀k,o.dst=some k→k<n)(ho:o.op=.call c)(hc:c.callee=.value b3)(hk:cP E id o s K=some r) :
  ∃aq,K aq=some r∧o.wp P a w (cT w0 F0 Z0 n aq) Q:=by
 unfold cP at hk
 rw [ho] at hk
 simp only [hc] at hk
 have hvs:=sS h c.args.toList
 have hf:=eR h b3
 cases A':bS s b3 with
 | fn HW first kS =>
  rw [A'] at hk hf
  simp only at hk
  simp only [aO] at hf
  obtain ⟨cm,cs,HX,ku,hcs⟩:=hf
  have p0:aX w Z s ι (first++c.args.toList.map (bS s)++kS) (cm++c.args.toList.map a.eval++cs):=(ku.append hvs).append hcs
  obtain ⟨T,YB,⟨v,aq,bW⟩,vJ⟩:=Yz dM h p0 hk
  refine⟨_,YB v aq bW,?_⟩
  unfold Oper.wp
  have hrun:(execOp a.eval o).run P w=(callFunc HW (cm++c.args.toList.map a.eval++cs).toArray).run P w:=by
   unfold execOp;rw [ho]
   simp only [run_bind,resolve,hc,HX,Deferred.ofValue,run_pure,invoke]
   congr 2
   apply Array.ext'
   simp
  rw [hrun]
  rcases vJ with⟨⟨fn,xY,HY,iE⟩,vJ⟩ | ⟨u,w',s6,gu,xG,hu⟩
  ·have HZ:(callFunc HW (cm++c.args.toList.map a.eval++cs).toArray).run P w=.ok (.enter HW (cm++c.args.toList.map a.eval++cs).toArray) w:=by
    simp only [callFunc,run_bind,run_pure,program,Sem.run,xY]
    rw [if_neg (by rw [iE];simp),if_neg (by rw [HY];simp)]
    simp only [run_pure]
   rw [HZ,Oper.upon_enter]
   refine vJ.mono ?_
   rintro e w' ⟨u,rfl,hu⟩
   obtain ⟨ba,Z',hinv,cK⟩:=hu v aq bW
   exact⟨ba,Z',hinv.dst cK ag⟩
  ·rw [s6,Oper.upon_value]
   cases xG
   obtain ⟨ba,Z',hinv,cK⟩:=hu v aq bW
   exact⟨ba,Z',hinv.dst cK ag⟩
 | _=>rw [A'] at hk;simp at hk
structure jr(P:Program)(E:Env):Prop where
 ty:gE P E
 eq:Ok P E
 fns:A9 P E
 mix:P.follows .mixedOrders=true
theorem YC(bL:jr P E)(h:Inv w0 F0 Z0 n s a w ι Z)(ag:∀k,o.dst=some k→k<n)(hk:cP E id o s K=some r) :
  ∃aq,K aq=some r∧o.wp P a w (cT w0 F0 Z0 n aq) Q:=by
 have e5:(∃aq,K aq=some r∧Pure P o a w (cT w0 F0 Z0 n aq))→∃aq,K aq=some r∧o.wp P a w (cT w0 F0 Z0 n aq) Q:=fun⟨aq,h1,h2⟩=>⟨aq,h1,h2.wp⟩
 cases ho:o.op with
 | move x=>exact e5 (AD h ag (.inl ho) hk)
 | assign x=>exact e5 (AD h ag (.inr ho) hk)
 | pick c x y=>exact e5 (N4 h ag ho hk)
 | alloc t=>exact Xq bL.ty h ag ho hk
 | box t x=>exact Xr bL.ty h ag ho hk
 | build t ps=>exact e5 (OG bL.ty h ag ho hk)
 | buildSlice t m ps=>exact XS bL.ty h ag ho hk
 | load t x=>exact Xs bL.ty h ag ho hk
 | store t x y=>exact Xu bL.ty h ag ho hk
 | nilCheck x=>exact e5 (N6 h ag ho hk)
 | binOp op t x y AI=>exact e5 (On bL.ty bL.eq h ag ho hk)
 | unOp op t x=>exact e5 (Oj h ag ho hk)
 | convert st fX x=>exact XI bL.ty h ag ho hk
 | makeFunc f first kS =>
  cases f with
  | func f=>exact e5 (N' h ag ho hk)
  | _=>unfold cP at hk;rw [ho] at hk;simp at hk
 | makeSlice t x y=>exact XE bL.ty h ag ho hk
 | slice t x lo hi gA=>exact e5 (Of bL.ty h ag ho hk)
 | fieldAddr t x f=>exact e5 (N8 bL.ty h ag ho hk)
 | field t x f=>exact e5 (N9 bL.ty h ag ho hk)
 | indexAddr t x i=>exact e5 (Oa bL.ty h ag ho hk)
 | index t x i=>exact e5 (Ob bL.ty h ag ho hk)
 | extract x i=>exact e5 (N_ h ag ho hk)
 | call c =>
  cases hc:c.callee with
  | builtin b =>
   by_cases hb:b=.append
   ·subst hb;exact X4 bL.ty h ag ho hc hk
   ·by_cases hb2:b=.clear
    ·subst hb2;exact Ya bL.ty h ag ho hc hk
    ·exact e5 (OA bL.ty h ag ho hc hb hb2 hk)
  | value f=>exact YA bL.fns h ag ho hc hk
  | invoke x m=>unfold cP at hk;rw [ho] at hk;simp [hc] at hk
 | _=>unfold cP at hk;rw [ho] at hk;simp at hk
end
end Go.LM
namespace Go.LM
mutual
theorem ad.beq_refl:∀t:ad,ad.beq t t=true
 | .int k=>by simp [ad.beq]
 | .bool=>rfl
 | .str=>rfl
 | .raw=>rfl
 | .sl t=>by simp only [ad.beq];exact ad.beq_refl t
 | .st aj=>by simp only [ad.beq];exact ax.beq_refl aj
theorem ax.beq_refl:∀t:ax,ax.beq t t=true
 | .nil=>rfl
 | .cons t aj=>by simp only [ax.beq,ad.beq_refl t,ax.beq_refl aj,cond_true]
end
theorem YD(a:ad)(x:a.D):ez a a x=some x:=by unfold ez;rw [dif_pos (ad.beq_refl a)]
section
variable{w b7:World}{Z bK:ah}
def Pg(w:World)(Z:ah)(t:ad)(z:List t.D)(v:Value)(H1 G1:ah)(R:World→ah→List t.D→Value→ah→Prop):Prop :=
 (ad.sl t).al w Z (.O t.own) z [v] H1∧ah.apart H1 G1∧∀(b7:World) (bK X:ah) (y:List t.D) (u:Value),b4 w b7 G1→(ad.sl t).al b7 bK (.O t.own) y [u] X→ah.apart X G1→R b7 bK y u (X.or G1)
mutual
theorem ad.s7:∀(T:ad) (off:Nat) (t:ad) {x:T.D} {z:List t.D} {us:List Value} {G:ah},T.al w Z T.own x us G→T.getAt off t x=some z →
  ∃v H1 G1,us[off]?=some v∧ah.sub H1 G∧ah.sub G1 G∧Pg w Z t z v H1 G1 (fun b7 bK y u eE=>∀bz,T.setAt off t y x=some bz→T.al b7 bK T.own bz (us.set off u) eE)
 | .int _,_,_,_,_,_,_,_,h=>by simp [ad.getAt] at h
 | .bool,_,_,_,_,_,_,_,h=>by simp [ad.getAt] at h
 | .str,_,_,_,_,_,_,_,h=>by simp [ad.getAt] at h
 | .raw,_,_,_,_,_,_,_,h=>by simp [ad.getAt] at h
 | .sl u,off,t,x,z,us,G,hr,h=>by
  simp only [ad.getAt] at h
  cases hb:Nat.beq off 0
  ·rw [hb] at h;cases h
  rw [hb] at h
  obtain rfl:=Nat.eq_of_beq_eq_true hb
  obtain ⟨e,rfl⟩:=gD h
  subst e
  have h8:=hr
  simp only [ad.own,ad.al] at hr
  obtain ⟨A,c,rfl,_⟩:=hr
  refine⟨_,G,ah.none,rfl,fun _ _ h=>h,fun _ _ h=>h.elim,h8,fun _ _ _ h=>h.elim,fun b7 bK X y j9 _ h2 _ bz hs=>?_⟩
  simp only [ad.setAt] at hs
  obtain ⟨e,rfl⟩:=gD (show ez (.sl u) (.sl u) y=some bz from hs)
  exact ad.al.mono (fun _ _ h=>h) _ _ (fun _ _ h=>.inl h) h2
 | .st aj,off,t,x,z,us,G,hr,h=>by
  have hJ:aj.flat=false:=by
   cases hf:aj.flat
   ·rfl
   ·exact(ad.vx (.st aj) (by simpa only [ad.flat] using hf) h).elim
  simp only [ad.own,hJ,Bool.false_eq_true,if_false,ad.al,a'.parts] at hr
  simp only [ad.getAt] at h
  obtain ⟨v,H1,G1,h1,h2,h3,h4,aZ,bd⟩:=ax.s7 aj off t hr h
  refine⟨v,H1,G1,h1,h2,h3,h4,aZ,fun b7 bK X y j9 k1 k2 k3 bz hs=>?_⟩
  simp only [ad.setAt] at hs
  simp only [ad.own,hJ,Bool.false_eq_true,if_false,ad.al,a'.parts]
  exact bd b7 bK X y j9 k1 k2 k3 bz hs
theorem ax.s7:∀(aj:ax) (off:Nat) (t:ad) {x:aj.D} {z:List t.D} {us:List Value} {G:ah},aj.al w Z aj.own x us G→aj.getAt off t x=some z →
  ∃v H1 G1,us[off]?=some v∧ah.sub H1 G∧ah.sub G1 G∧Pg w Z t z v H1 G1 (fun b7 bK y u eE=>∀bz,aj.setAt off t y x=some bz→aj.al b7 bK aj.own bz (us.set off u) eE)
 | .nil,_,_,_,_,_,_,_,h=>by simp [ax.getAt] at h
 | .cons T aj,off,t,x,z,us,G,hr,h=>by
  simp only [ax.own,ax.al,cQ.ag,cQ.dq] at hr
  obtain ⟨kX,hK,mR,mS,rfl,bA,cc,hap,ha,hb⟩:=hr
  have hl:=(ad.al.len T _ bA).1
  simp only [ax.getAt] at h
  cases cw:Nat.blt off T.size
  ·rw [cw] at h
   have Hy:T.size≤off:=by
    rcases Nat.lt_or_ge off T.size with h1 | h1
    ·have:Nat.blt off T.size=true:=Nat.ble_eq_true_of_le h1
     rw [this] at cw;cases cw
    ·exact h1
   obtain ⟨v,H1,G1,h1,h2,h3,h4,aZ,bd⟩:=ax.s7 aj (off-T.size) t cc h
   refine⟨v,H1,mR.or G1,?_,fun b o x=>hb b o (h2 b o x),?_,h4,?_,fun b7 bK X y j9 k1 k2 k3 bz hs=>?_⟩
   ·rw [List.getElem?_append_right (by omega),hl];exact h1
   ·rintro b o (y | y)
    ·exact ha b o y
    ·exact hb b o (h3 b o y)
   ·rintro b o y (q | q)
    ·exact hap b o q (h2 b o y)
    ·exact aZ b o y q
   ·simp only [ax.setAt,cw,cond_false] at hs
    obtain ⟨jq,hz,hs⟩:=bb hs
    obtain rfl:=aU hs
    simp only [ax.own,ax.al,cQ.ag,cQ.dq]
    refine⟨kX,hK.set (off-T.size) j9,mR,X.or G1,by rw [List.set_append_right _ _ (by omega),hl],pX T (k1.mono fun _ _ h=>.inl h) bA,bd b7 bK X y j9 (k1.mono fun _ _ h=>.inr h) k2 (fun b o p q=>k3 b o p (.inr q)) jq hz,?_,fun _ _ h=>.inr (.inl h),?_⟩
    ·rintro b o p (q | q)
     ·exact k3 b o q (.inl p)
     ·exact hap b o p (h3 b o q)
    ·rintro b o (q | q)
     ·exact .inl q
     ·exact .inr (.inr q)
  ·rw [cw] at h
   have Hy:off<T.size:=Nat.le_of_ble_eq_true cw
   obtain ⟨v,H1,G1,h1,h2,h3,h4,aZ,bd⟩:=ad.s7 T off t bA h
   refine⟨v,H1,G1.or mS,?_,fun b o x=>ha b o (h2 b o x),?_,h4,?_,fun b7 bK X y j9 k1 k2 k3 bz hs=>?_⟩
   ·rw [List.getElem?_append_left (by omega)];exact h1
   ·rintro b o (y | y)
    ·exact ha b o (h3 b o y)
    ·exact hb b o y
   ·rintro b o y (q | q)
    ·exact aZ b o y q
    ·exact hap b o (h2 b o y) q
   ·simp only [ax.setAt,cw,cond_true] at hs
    obtain ⟨jq,hz,hs⟩:=bb hs
    obtain rfl:=aU hs
    simp only [ax.own,ax.al,cQ.ag,cQ.dq]
    refine⟨kX.set off j9,hK,X.or G1,mS,by rw [List.set_append_left _ _ (by omega)],bd b7 bK X y j9 (k1.mono fun _ _ h=>.inl h) k2 (fun b o p q=>k3 b o p (.inl q)) jq hz,OX aj (k1.mono fun _ _ h=>.inr h) cc,?_,?_,fun _ _ h=>.inr (.inr h)⟩
    ·rintro b o (p | p) q
     ·exact k3 b o p (.inr q)
     ·exact hap b o (h3 b o p) q
    ·rintro b o (q | q)
     ·exact .inl q
     ·exact .inr (.inl q)
end
theorem mA.s7{T:ad}{ys:List T.D}{a:Addr}{c:Nat}{F:ah}{i off:Nat}{t:ad}{z:List t.D}(h:mA w (T.al w Z T.own) T.size ys a c F)(hi:i<ys.length)(az:T.getAt off t (J T ys i)=some z) :
  ∃v H1,w.cell? (at_ a.block (a.off+i*T.size+off))=some v∧(ad.sl t).al w Z (.O t.own) z [v] H1∧ah.sub H1 F∧ah.diff F H1 a.block (a.off+i*T.size+off)∧fz w T.size a.block (a.off+i*T.size+off) ∧
   ∀(b7:World) (bK X:ah) (y:List t.D) (bz:T.D) (u:Value),b4 w b7 (fun b o=>ah.diff F H1 b o∧¬(b=a.block∧o=a.off+i*T.size+off))→b7.cell? (at_ a.block (a.off+i*T.size+off))=some u →
    fz b7 T.size a.block (a.off+i*T.size+off)→(ad.sl t).al b7 bK (.O t.own) y [u] X→ah.apart X (ah.diff F H1)→T.setAt off t y (J T ys i)=some bz →
    mA b7 (T.al b7 bK T.own) T.size (ys.set i bz) a c (X.or (ah.diff F H1)):=by
 rw [c6 hi] at az ⊢
 obtain ⟨G,g1,g2,g3⟩:=h.row
 obtain ⟨mR,iB,mS,vs,bA,Hz,hvl,cl,cc,a1,a2,a3,s1,s2,s3⟩:=g1.AU i hi
 obtain ⟨v,H1,G1,hv,k1,k2,k3,bf,bs⟩:=ad.s7 T off t Hz az
 have xI:ah.sub H1 G:=fun b o x=>s2 b o (k1 b o x)
 have hle:ys.length*T.size≤c*T.size:=Nat.mul_le_mul_right _ h.cap
 have gp:(i+1)*T.size≤ys.length*T.size:=Nat.mul_le_mul_right _ hi
 rw [Nat.add_one_mul] at gp
 have fi:off<T.size:=by
  rcases Nat.lt_or_ge off T.size with h1 | h1
  ·exact h1
  ·rw [List.getElem?_eq_none (by omega)] at hv;cases hv
 have sV:∀ {A:ah},ah.sub A G→ah.apart A H1→ah.sub A (ah.diff F H1):=fun hA au b o x=>⟨g3 b o (hA b o x),fun y=>au b o x y⟩
 have sW:ah.sub mR (ah.diff F H1):=sV s1 fun b o x y=>a1 b o x (k1 b o y)
 have sX:ah.sub mS (ah.diff F H1):=sV s3 fun b o x y=>a3 b o (k1 b o y) x
 have d1:ah.sub G1 (ah.diff F H1):=sV (fun b o x=>s2 b o (k2 b o x)) fun b o x y=>bf b o y x
 have oL:∀j,j<c*T.size→ah.diff F H1 a.block (a.off+j):=fun j hj=>⟨h.inF j hj,fun y=>g2 j hj (xI _ _ y)⟩
 have hspot:i*T.size+off<c*T.size:=by omega
 have bP:∀ {A:ah},ah.sub A G→∀b o,A b o→¬(b=a.block∧o=a.off+i*T.size+off):=by
  rintro A hA b o x ⟨rfl,rfl⟩
  have:=g2 (i*T.size+off) hspot
  rw [← Nat.add_assoc] at this
  exact this (hA _ _ x)
 refine⟨v,H1,cl off v hv,k3,fun b o x=>g3 b o (xI b o x),by have:=oL _ hspot;rwa [← Nat.add_assoc] at this,by have:=h.wr _ hspot;rwa [← Nat.add_assoc] at this,fun b7 bK X y bz u hs hu hwr hr hap HA=>?_⟩
 have YE:b4 w b7 mR:=fun b o x=>hs b o ⟨sW b o x,bP s1 b o x⟩
 have js:b4 w b7 mS:=fun b o x=>hs b o ⟨sX b o x,bP s3 b o x⟩
 have YF:b4 w b7 G1:=fun b o x=>hs b o ⟨d1 b o x,bP (fun b o x=>s2 b o (k2 b o x)) b o x⟩
 have hcell:∀j,j<c*T.size→j≠i*T.size+off→b7.cell? (at_ a.block (a.off+j))=w.cell? (at_ a.block (a.off+j)):=fun j hj hne=>(hs _ _ ⟨oL j hj,fun h=>hne (by omega)⟩).1
 have hw2:∀j,j<c*T.size→fz b7 T.size a.block (a.off+j):=by
  intro j hj
  by_cases hne:j=i*T.size+off
  ·subst hne;rwa [Nat.add_assoc] at hwr
  ·exact hs.j3 ⟨oL j hj,fun h=>hne (by omega)⟩ (h.wr j hj)
 have fa:=bs b7 bK X y u YF hr (fun b o p q=>hap b o p (d1 b o q)) bz HA
 refine⟨h.spot,by simpa using h.cap,hw2,fun j hj=>.inr (oL j hj),mR.or ((X.or G1).or mS),?_,?_,?_⟩
 ·refine Row.AV i hi (bA.imp (fun y us de hG hr=>pX T (YE.mono fun b o p=>hG b o p) hr) fun j hj=>hcell j ?_ ?_) fa (by simpa using hvl) ?_ (cc.imp (fun y us de hG hr=>pX T (js.mono fun b o p=>hG b o p) hr) fun j hj=>?_) ?_ a2 ?_
  ·simp only [List.length_take] at hj
   have:min i ys.length*T.size≤ys.length*T.size:=Nat.mul_le_mul_right _ (Nat.min_le_right _ _)
   omega
  ·simp only [List.length_take] at hj
   have:min i ys.length*T.size≤i*T.size:=Nat.mul_le_mul_right _ (Nat.min_le_left _ _)
   omega
  ·intro k q hk
   by_cases Ph:k=off
   ·subst Ph
    rw [List.getElem?_set_self (by omega)] at hk
    rw [← aU hk];exact hu
   ·rw [List.getElem?_set_ne (by omega)] at hk
    have nz:k<vs.length:=by
     rcases Nat.lt_or_ge k vs.length with h1 | h1
     ·exact h1
     ·rw [List.getElem?_eq_none h1] at hk;cases hk
    have:=hcell (i*T.size+k) (by omega) (by omega)
    rw [← Nat.add_assoc] at this
    rw [this];exact cl k q hk
  ·simp only [List.length_drop] at hj
   have e1:(ys.length-(i+1))*T.size=ys.length*T.size-(i*T.size+T.size):=by rw [Nat.sub_mul,Nat.add_one_mul]
   rw [e1] at hj
   have:=hcell ((i+1)*T.size+j) (by rw [Nat.add_one_mul];omega) (by rw [Nat.add_one_mul];omega)
   rwa [← Nat.add_assoc] at this
  ·rintro b o p (q | q)
   ·exact hap b o q (sW b o p)
   ·exact a1 b o p (k2 b o q)
  ·rintro b o (p | p) q
   ·exact hap b o p (sX b o q)
   ·exact a3 b o (k2 b o p) q
 ·rintro j hj (p | (p | p) | p)
  ·exact g2 j hj (s1 _ _ p)
  ·exact hap _ _ p (oL j hj)
  ·exact g2 j hj (s2 _ _ (k2 _ _ p))
  ·exact g2 j hj (s3 _ _ p)
 ·rintro b o (p | (p | p) | p)
  ·exact .inr (sW b o p)
  ·exact .inl p
  ·exact .inr (d1 b o p)
  ·exact .inr (sX b o p)
end
section
variable{P:Program}{Q:Exit→Act→World→Prop}
variable{w0:World}{F0 Z0:ah}{n:cC}{s aq:an}{a b6:Act}{w w':World}{ι ba:Nat→bD}{Z Z':ah}
variable{E:Env}{br : Type}{r : br}
theorem H0(a:Act){d:Nat}(v:Value)(ag:d<a.tmps.size):(a.put (some d) v).eval (.tmp d)=v:=by
 show(a.tmps.setIfInBounds d v).getD d undef=v
 rw [GO _ _ _ _ ag,if_pos rfl]
theorem xZ(a:Act){d k:Nat}(v:Value)(ag:d<a.tmps.size)(hk:d≠k):(a.put (some d) v).eval (.tmp k)=a.eval (.tmp k):=by
 show(a.tmps.setIfInBounds d v).getD k undef=a.tmps.getD k undef
 rw [GO _ _ _ _ ag,if_neg hk]
theorem Pj(a:Act)(d:Nat)(v:Value):(a.put (some d) v).tmps.size=a.tmps.size:=by
 show(a.tmps.setIfInBounds d v).size=_
 simp
theorem Pk{u t:ad}{dp:List (Nat×Nat)}{p:Place}{xs:List u.D}{v:Value}{lZ:List t.D}{s0:an}(h:Inv w0 F0 Z0 n s a w ι Z)(hc:cf w Z s ι (.bY u dp (some p) xs) v)
  (hl:sC t t.own s dp (some p)=some (lZ,s0)) :
  ∃(i:Nat) (T:ad) (ver:Nat) (ys:List T.D) (cM dF:Nat) (H1:ah),p.fa=some i∧s.o p.id=.row T T.own ver ys∧s0=s.bO p.id (.b_ (.row T T.own ver ys))∧i<ys.length∧(ι p.id).base=some (at_ cM dF) ∧
   Inv w0 F0 Z0 n s0 a w ι Z∧fj s ι Z s0 Z∧bF w0 F0 s0 w ι Z H1∧bF w0 F0 s0 w ι Z (ah.diff (ι p.id).F H1)∧(ad.sl t).al w Z (.O t.own) lZ [v] H1∧ah.sub H1 (ι p.id).F ∧
   ah.diff (ι p.id).F H1 cM (dF+i*T.size+p.off)∧fz w T.size cM (dF+i*T.size+p.off) ∧
   ∀(b7:World) (bK X:ah) (y:List t.D) (bz:T.D) (q:Value),b4 w b7 (fun b o=>ah.diff (ι p.id).F H1 b o∧¬(b=cM∧o=dF+i*T.size+p.off))→b7.cell? (at_ cM (dF+i*T.size+p.off))=some q →
    fz b7 T.size cM (dF+i*T.size+p.off)→(ad.sl t).al b7 bK (.O t.own) y [q] X→ah.apart X (ah.diff (ι p.id).F H1)→T.setAt p.off t y (J T ys i)=some bz →
    mA b7 (T.al b7 bK T.own) T.size (ys.set i bz) (at_ cM dF) (ι p.id).cap (X.or (ah.diff (ι p.id).F H1)):=by
 simp only [sC] at hl
 cases eS:p.fa with
 | none=>rw [eS] at hl;simp at hl
 | some i =>
  rw [eS] at hl
  cases ho:s.o p.id with
  | row T em ver ys =>
   rw [ho] at hl
   simp only at hl
   cases hb:(alive s dp&&a'.beq em T.own&&a'.beq t.own t.own)
   ·rw [hb] at hl;simp at hl
   rw [hb] at hl
   simp only [cond_true] at hl
   simp only [Bool.and_eq_true] at hb
   obtain rfl:=a'.eq_of_beq _ _ hb.1.2
   obtain ⟨x,hx,hl⟩:=bb hl
   simp only [Option.some.injEq,Prod.mk.injEq] at hl
   obtain ⟨rfl,rfl⟩:=hl
   obtain ⟨_,_,_,kx⟩:=hc
   obtain ⟨_,kx⟩:=kx _ rfl
   obtain ⟨iS,dz,⟨_,fG⟩,hcell,hin⟩:=kx hb.1.1
   simp only [ho,cj.core] at fG
   obtain ⟨dW,hii,ky,a0,er,mK⟩:=fG
   rw [eS] at hii
   obtain rfl:=aU hii
   have b8:(s.o p.id).live:=by rw [ho];trivial
   have az:fj s ι Z (s.bO p.id (.b_ (.row T T.own ver ys))) Z:=by have:=xJ (s:=s) (ι := ι) (Z:=Z) b8;rw [ho] at this;exact this
   have e4:bF w0 F0 (s.bO p.id (.b_ (.row T T.own ver ys))) w ι Z (ι p.id).F:=by have:=h.xK b8;rw [ho] at this;exact this
   have cW:=h.fA p.id
   rw [ho] at cW
   rcases cW with⟨hx0,_⟩ | ⟨a1,hb1,hr⟩
   ·rw [hx0] at ky;simp at ky
   rw [er] at hb1
   obtain rfl:=aU hb1
   obtain ⟨ab,ao,sp⟩:=a0
   have hsp:=hr.spot
   simp only at hsp
   subst hsp
   obtain ⟨eJ,H1,dO,eD,nM,YG,YH,oG⟩:=hr.s7 ky hx
   rw [← mK] at dO
   have HD:eJ=v:=by rw [hcell] at dO;exact(aU dO).symm
   subst HD
   exact⟨i,T,ver,ys,ab,ao,H1,rfl,rfl,rfl,ky,er,h.lS az,az,e4.sub nM,e4.sub fun _ _ h=>h.1,eD,nM,YG,YH,oG⟩
  | _=>rw [ho] at hl;simp at hl
theorem YI{v:a6}{K:Place→Option br}(hk:GC s v K=some r):∃jl,K jl=some r∧∀ {w':World} {Z':ah} {aq:an} {ba:Nat→bD} {x:Value},aO w' Z' aq ba v x→∃A,x=.pointer (some A)∧iR aq ba jl A:=by
 unfold GC at hk
 cases v <;> simp only at hk <;> try (cases hk;done)
 ·exact⟨_,hk,fun hv=>by simp only [aO] at hv;exact hv.2⟩
 ·obtain ⟨k,h1,hk⟩:=bb hk
  obtain ⟨h2,rfl⟩:=Pf h1
  refine⟨_,hk,fun hv=>?_⟩
  simp only [aO] at hv
  rcases hv.2 with⟨h3,_⟩ | ⟨_,h3⟩
  ·omega
  ·exact h3
theorem YJ{dz:Oper}{T:ad}{k1 d0 i ver cM dF:Nat}{p jl:Place}{ys:List T.D}{hv:Value}{s1:an}(l0:dz.op=.nilCheck (.tmp k1))(hY:k1≠d0)(iF:d0<n.n)(s8:jl.id=p.id)(Ba:jl.fa=some i)(rm:Inv w0 F0 Z0 n s1 a w' ι Z)
  (H4:∀ {w':World} {Z':ah} {aq:an} {ba:Nat→bD} {x:Value},aO w' Z' aq ba (s1.t k1) x→∃A,x=.pointer (some A)∧iR aq ba jl A)
  (oS:s1.o p.id=.b_ (.row T T.own ver ys)) (er:(ι p.id).base=some (at_ cM dF)):(execOp (a.put (some d0) hv).eval dz).run P w'=.ok (.value (.pointer (some (at_ cM (dF+i*T.size+jl.off))))) w':=by
 obtain ⟨ajX,YK,hsp,mW⟩:=H4 (rm.tmps k1)
 rw [s8,oS] at mW
 simp only [cj.core] at mW
 obtain ⟨dW,hii,_,a0,fW,H5⟩:=mW
 rw [hii] at Ba
 obtain rfl:=aU Ba
 rw [er] at fW
 obtain rfl:=aU fW
 subst H5
 have:(a.put (some d0) hv).eval (.tmp k1)=.pointer (some (at_ cM (dF+dW*T.size+jl.off))):=by rw [xZ _ _ (by rw [rm.size];exact iF) (Ne.symm hY)];exact YK
 unfold execOp;rw [l0];simp only [this];rfl
theorem Pl{dz eA eL:Oper}{aj:ax}{t T u:ad}{d0 d1 d2 mB mC nF k i ver cM dF:Nat}{p:Place}{po:Nat}{ys:List T.D}{y:List t.D}{hv:Value}{G oT:ah}{s1 Bb:an}{A:Option Addr}{vK YL:Nat}{K:an→Option br}(bL:jr P E)
  (jI:eA.op=.fieldAddr mB (.tmp d1) nF) (p1:eL.op=.store mC (.tmp d2) (.tmp d0)) (fU:dz.dst=some d1) (ia:eA.dst=some d2) (oM:eL.dst=none)
  (h5:d0≠d1) (h6:d0≠d2) (iF:d0<n.n) (l1:d1<n.n) (l2:d2<n.n) (s9:E.ty mB=some (.st aj)) (s_:E.ty mC=some (.sl t)) (fi:aj.off nF=some (k,u)) (hz:u.size≠0)
  (jM:po+k=p.off) (eS:p.fa=some i) (ky:i<ys.length) (rm:Inv w0 F0 Z0 n s1 a w' ι Z)
  (H6:(execOp (a.put (some d0) hv).eval dz).run P w'=.ok (.value (.pointer (some (at_ cM (dF+i*T.size+po))))) w')
  (oS:s1.o p.id=.b_ (.row T T.own ver ys)) (er:(ι p.id).base=some (at_ cM dF)) (oU:hv=.slice A YL vK) (cK:(ad.sl t).al w' Z (.O t.own) y [hv] G)
  (oV:bF w0 F0 s1 w' ι Z G) (lj:bF w0 F0 s1 w' ι Z oT) (vL:ah.apart G oT) (vM:oT cM (dF+i*T.size+p.off)) (Bc:fz w' T.size cM (dF+i*T.size+p.off))
  (vN:∀(b7:World) (bK X:ah) (y:List t.D) (bz:T.D) (q:Value),b4 w' b7 (fun b o=>oT b o∧¬(b=cM∧o=dF+i*T.size+p.off))→b7.cell? (at_ cM (dF+i*T.size+p.off))=some q→fz b7 T.size cM (dF+i*T.size+p.off) →
   (ad.sl t).al b7 bK (.O t.own) y [q] X→ah.apart X oT→T.setAt p.off t y (J T ys i)=some bz→mA b7 (T.al b7 bK T.own) T.size (ys.set i bz) (at_ cM dF) (ι p.id).cap (X.or oT))
  (hbk:u3 t y (((s1.set d0 .aC).set d1 .aC).set d2 .aC) (some p)=some Bb) (hk:K Bb=some r) :
  dz.wp P (a.put (some d0) hv) w' (fun a w=>eA.wp P a w (fun a w=>eL.wp P a w (fun a w=>∃aq,K aq=some r∧cT w0 F0 Z0 n aq a w) Q) Q) Q:=by
 have hcl:hv.cells = #[hv]:=by rw [oU];rfl
 have nU:dY hv=true:=by rw [oU];rfl
 have hsz:=rm.size
 have YM:Inv w0 F0 Z0 n (s1.set d0 .aC) (a.put (some d0) hv) w' ι Z:=rm.set (by simp only [aO]) iF
 have Bd:(a.put (some d0) hv).tmps.size=n.n:=by rw [Pj];exact hsz
 unfold Oper.wp
 rw [H6,Oper.upon_value,fU]
 obtain ⟨a2,x0⟩:∃a2,a2=(a.put (some d0) hv).put (some d1) (.pointer (some (at_ cM (dF+i*T.size+po)))):=⟨_,rfl⟩
 rw [← x0]
 have Pm:a2.tmps.size=n.n:=by rw [x0,Pj];exact Bd
 have p2:a2.eval (.tmp d1)=.pointer (some (at_ cM (dF+i*T.size+po))):=by rw [x0];exact H0 _ _ (by rw [Bd];exact l1)
 have YN:a2.eval (.tmp d0)=hv:=by rw [x0,xZ _ _ (by rw [Bd];exact l1) (Ne.symm h5)];exact H0 _ _ (by rw [hsz];exact iF)
 obtain ⟨pos,fJ⟩:∃pos,pos=dF+i*T.size+p.off:=⟨_,rfl⟩
 rw [← fJ] at vM Bc vN
 have YO:(execOp a2.eval eA).run P w'=.ok (.value (.pointer (some (at_ cM pos)))) w':=by
  obtain ⟨cm,hu,ku⟩:=Hb (bL.ty.ty mB _ s9)
  obtain ⟨ajY,h1,h2,h3⟩:=ax.AE ku fi
  rw [Array.getElem?_toList] at h1
  unfold execOp;rw [jI]
  refine fF ?_
  simp only [Instr.fieldAt,run_bind,run_underlying hu,h1,Instr.sureAddr,p2,run_pure,N7 h3 hz,h2,Nat.zero_add]
  rw [fJ,← jM,Nat.add_assoc]
 rw [YO,Oper.upon_value,ia]
 obtain ⟨a3,Be⟩:∃a3,a3=a2.put (some d2) (.pointer (some (at_ cM pos))):=⟨_,rfl⟩
 rw [← Be]
 have YP:a3.eval (.tmp d2)=.pointer (some (at_ cM pos)):=by rw [Be];exact H0 _ _ (by rw [Pm];exact l2)
 have YQ:a3.eval (.tmp d0)=hv:=by rw [Be,xZ _ _ (by rw [Pm];exact l2) (Ne.symm h6)];exact YN
 have Bf:Inv w0 F0 Z0 n (((s1.set d0 .aC).set d1 .aC).set d2 .aC) a3 w' ι Z:=by
  rw [Be,x0]
  exact(YM.set (by simp only [aO]) l1).set (by simp only [aO]) l2
 have Pn:(execOp a3.eval eL).run P w'=.ok .skip (setCells w' cM pos [hv]):=by
  unfold execOp;rw [p1]
  have:=G_ (P:=P) (w:=w') (bL.ty.ty mC _ s_) (b:=cM) (o:=pos) (v:=hv) (by rw [hcl];rfl) (by rw [hcl];intro u hu;simp at hu;rw [hu];exact nU) (fun j hj=>by
   rw [hcl] at hj
   have:j=0:=by simp at hj;omega
   subst this;exact Bc.1)
  rw [hcl] at this
  simp only [Instr.storeAt,Instr.sureAddr,YP,YQ,run_bind,run_pure,this]
 have H7:bF w0 F0 (((s1.set d0 .aC).set d1 .aC).set d2 .aC) w' ι Z oT:=⟨lj.own,lj.apart,lj.cY⟩
 have oV:bF w0 F0 (((s1.set d0 .aC).set d1 .aC).set d2 .aC) w' ι Z G:=⟨oV.own,oV.apart,oV.cY⟩
 obtain ⟨oW,hw3⟩:∃oW,oW=setCells w' cM pos [hv]:=⟨_,rfl⟩
 rw [← hw3] at Pn
 have hx3:Ext w' oW (ah.run cM pos 1):=by
  rw [hw3]
  exact ny cM [hv] w' pos fun j hj=>by
   have:j=0:=by simp at hj;omega
   subst this;exact⟨rfl,by omega,by omega⟩
 have Po:ah.sub (ah.run cM pos 1) oT:=by
  rintro b o ⟨rfl,k2,k3⟩
  rw [show o=pos by omega];exact vM
 have H8:Inv w0 F0 Z0 n (((s1.set d0 .aC).set d1 .aC).set d2 .aC) a3 oW ι Z:=Bf.AM (H7.sub Po) hx3
 have YR:oW.cell? (at_ cM pos)=some hv:=by
  rw [hw3,vd cM [hv] w' pos (fun j hj=>by
   have:j=0:=by simp at hj;omega
   subst this;exact Bc.1.1),if_pos ⟨rfl,by omega,by simp⟩]
  simp
 have YS:b4 w' oW G:=b4.iy hx3 (fun b o az=>(oV.own b o az).2) fun b o az hr=>vL b o az (Po b o hr)
 have YT:(ad.sl t).al oW Z (.O t.own) y [hv] G:=pX (.sl t) YS cK
 have x1:b4 w' oW (fun b o=>oT b o∧¬(b=cM∧o=pos)):=by
  refine b4.iy hx3 (fun b o hb=>(H7.own b o hb.1).2) ?_
  rintro b o ⟨_,hne⟩ ⟨rfl,k2,k3⟩
  exact hne ⟨rfl,by omega⟩
 have H9:(((s1.set d0 .aC).set d1 .aC).set d2 .aC).o p.id=.b_ (.row T T.own ver ys):=oS
 simp only [u3,eS] at hbk
 rw [H9] at hbk
 simp only at hbk
 obtain ⟨z,YU,hbk⟩:=bb hbk
 obtain rfl:=aU hbk
 obtain ⟨Pp,Pq,_⟩:=xR H8 (id:=p.id) (o:=.row T T.own (ver+1) (ys.set i z)) (i:=⟨(ι p.id).base,(ι p.id).cap,G.or oT⟩) (by rw [H9];exact fun h=>h) (fun o'=>by simp) (by rw [H9];exact .q2 _ _ _ _ _ _ _ _ _ (by omega) (by simp) rfl rfl)
  (fun hm=>.inr ⟨at_ cM dF,er,vN oW Z G y z hv x1 YR (hx3.j3 Bc) YT vL YU⟩) ((oV.ext hx3).or (H7.ext hx3))
 refine Oper.wp_mono (fun a w hs=>⟨_,hk,?_⟩) (wp_skip Pn Pq (fun k hk=>by rw [oM] at hk;cases hk))
 rw [oM] at hs
 exact hs
def vO(s:an)(ι : Nat→bD)(X:ah):ah:=fun b o=>X b o∨∃id,(s.o id).live∧(ι id).F b o
theorem Inv.here(h:Inv w0 F0 Z0 n s a w ι Z)(X:ah):Inv w (vO s ι X) Z n s a w ι Z :=
 ⟨Ext.refl _ _,fun _ _ hz=>.inl hz,fun _ _ h=>h,h.iw,h.fA,fun id hl b o hf=>⟨.inl (.inr ⟨id,hl,hf⟩),(h.own id hl b o hf).2⟩,h.apart,h.cY,h.tmps,h.size,h.ghost,h.seen,h.defers⟩
theorem Bg(h:Inv w0 F0 Z0 n s a w ι Z){X:ah}(hX:bF w0 F0 s w ι Z X){b o:Nat}(hf:vO s ι X b o∨w.heap.size≤b):F0 b o∨w0.heap.size≤b:=by
 have hsz:=h.ext.size
 rcases hf with(hf | ⟨id,hl,hf⟩) | hf
 ·exact(hX.own b o hf).1
 ·exact(h.own id hl b o hf).1
 ·exact .inr (by omega)
theorem Inv.YV(h:Inv w0 F0 Z0 n s a w ι Z){X:ah}(hX:bF w0 F0 s w ι Z X)(h':Inv w (vO s ι X) Z n aq b6 w' ba Z'):Inv w0 F0 Z0 n aq b6 w' ba Z':=by
 refine⟨h.ext.trans' h'.ext fun i o hf=>Bg h hX (.inl hf),fun b o hz=>?_,fun b o hz=>h'.q1 b o (h.q1 b o hz),h'.iw,h'.fA,fun id hl b o hf=>⟨Bg h hX (h'.own id hl b o hf).1,(h'.own id hl b o hf).2⟩,h'.apart,h'.cY,h'.tmps,h'.size,h'.ghost,h'.seen,h'.defers⟩
 rcases h'.dA b o hz with h1 | h1
 ·exact h.dA b o h1
 ·exact .inr (Bg h hX h1)
theorem YW{o dz eA eL:Oper}{c:Call}{aj:ax}{t u ul:ad}{d0 d1 d2 mB mC nF k i id:Nat}{p:Place}{po:Nat}{dp:List (Nat×Nat)}{H_:List ul.D}{vb:a6}{cb:a8}{M:an→Bool}{K:an→Option br}(bL:jr P E)(h:Inv w0 F0 Z0 n s a w ι Z)
  (ho:o.op=.call c) (hc:c.callee=.builtin .append) (k_:c.args.toList.map (bS s)=[.aS (.bY ul dp (some p) H_),vb]) (gq:u5 E c.argTypes.toList=some t) (sU:oneCell t vb=some cb) (s':o.dst=some d0)
  (jI:eA.op=.fieldAddr mB (.tmp d1) nF) (p1:eL.op=.store mC (.tmp d2) (.tmp d0)) (fU:dz.dst=some d1) (ia:eA.dst=some d2) (oM:eL.dst=none)
  (h5:d0≠d1) (h6:d0≠d2) (iF:d0<n.n) (l1:d1<n.n) (l2:d2<n.n) (s9:E.ty mB=some (.st aj)) (s_:E.ty mC=some (.sl t)) (fi:aj.off nF=some (k,u)) (hz:u.size≠0)
  (jM:po+k=p.off) (x2:p.fa=some i)
  (H6:∀ {T:ad} {ver cM dF:Nat} {ys:List T.D} {s1:an} {du:Nat→bD} {cp:ah} {nV:World} {hv:Value},Inv w0 F0 Z0 n s1 a nV du cp→s1.t=s.t→s1.o p.id=.b_ (.row T T.own ver ys)→s.o p.id=.row T T.own ver ys→(du p.id).base=some (at_ cM dF) →
   (execOp (a.put (some d0) hv).eval dz).run P nV=.ok (.value (.pointer (some (at_ cM (dF+i*T.size+po))))) nV)
  (hk:GH id t p dp s cb d0 d1 d2 M K=some r) :
  o.wp P a w (fun a w=>(∃nG,M nG=true∧cT w0 F0 Z0 n nG a w)∧dz.wp P a w (fun a w=>eA.wp P a w (fun a w=>eL.wp P a w (fun a w=>∃aq,K aq=some r∧cT w0 F0 Z0 n aq a w) Q) Q) Q) Q:=by
 have hvs:=sS h c.args.toList
 have Pr:(c.args.map a.eval).toList=c.args.toList.map a.eval:=by simp
 rw [k_] at hvs
 simp only [aX] at hvs
 obtain ⟨OU,_,he,mP,X5,_,rfl,Ht,rfl⟩:=hvs
 simp only [aO] at mP
 obtain ⟨gS,hB,rest,e,rh,hu,b9,jK⟩:=OT bL.ty gq
 have hb1:=Hs sU Ht
 unfold GH at hk
 cases pV:added s t cb with
 | none=>rw [pV] at hk;cases hk
 | some q =>
 obtain ⟨j7,ys,s1⟩:=q
 rw [pV] at hk
 simp only at hk
 cases lO:a'.beq j7 t.own
 ·rw [lO] at hk;cases hk
 rw [lO] at hk
 simp only [cond_true] at hk
 obtain rfl:=a'.eq_of_beq _ _ lO
 obtain ⟨⟨lZ,s2⟩,h_,hk⟩:=bb hk
 obtain ⟨s3,mI,hk⟩:=bb hk
 obtain ⟨hroom,hk⟩:=q' hk
 cases p3:M (s3.set d0 .aC)
 ·rw [p3] at hk;cases hk
 rw [p3] at hk
 simp only [cond_true] at hk
 obtain ⟨Bb,hbk,H'⟩:=bb hk
 obtain ⟨b5,rfl⟩:=pR mI
 simp only at b5 hbk hroom
 obtain ⟨vs,gF,hlen,pW,hels,h1,hs1,nO⟩:=OL (P:=P) pV h hb1
 have hc1:cf w Z s1 ι (.bY ul dp (some p) H_) OU:=cf.move hs1.eb mP
 obtain ⟨dW,T,ver,x3,cM,dF,H1,eS,dQ,nP,ky,er,i0,Bh,ta,lj,Ia,Ps,vM,Ib,vN⟩:=Pk h1 hc1 h_
 rw [eS] at x2
 obtain rfl:=aU x2
 have Bi:=nO.sY Bh
 have Pt:(s1.o p.id).live:=by rw [dQ];trivial
 have la:ah.apart H1 gF:=fun b o x y=>nO.apart p.id Pt b o y (Ps b o x)
 have Pu:=ta.or Bi
 have YX:bF w (vO s2 ι (H1.or gF)) s2 w ι Z H1:=⟨fun b o x=>⟨.inl (.inl (.inl x)),(ta.own b o x).2⟩,ta.apart,ta.cY⟩
 have YY:bF w (vO s2 ι (H1.or gF)) s2 w ι Z gF:=⟨fun b o x=>⟨.inl (.inl (.inr x)),(Bi.own b o x).2⟩,Bi.apart,Bi.cY⟩
 obtain ⟨eJ,w',l3,hrun,hinv,hcell⟩:=ON (P:=P) (id:=id) (ty:=o.type) (ats:=c.argTypes) (args:=c.args.map a.eval) (by rw [← Array.getElem?_toList,rh];rfl) (by rw [← Array.getElem?_toList,rh];rfl)
  (by rw [← Array.getElem?_toList,Pr,he];rfl) (by rw [← Array.getElem?_toList,Pr,he];rfl) hu b9 jK (Nat.le_of_ble_eq_true hroom) (i0.here _) b5 Ia hels YX YY la hlen pW
 have xH:taken (s2.bO id (.row t t.own 0 (lZ++ys))) t (.ag id none)=some (t.own,lZ++ys,(s2.bO id (.row t t.own 0 (lZ++ys))).bO id .dead):=by
  simp only [taken]
  rw [show(s2.bO id (.row t t.own 0 (lZ++ys))).o id=.row t t.own 0 (lZ++ys) from ct _ _ _]
  simp only [kp]
  rw [YD];rfl
 obtain ⟨G,Pv,i4,ajZ,vP,aj0⟩:=OM xH hinv hcell
 have YZ:(s2.bO id (.row t t.own 0 (lZ++ys))).bO id .dead=s2.bO id .dead:=by
  show { s2 with o:=bQ (bQ s2.o id _) id cj.dead } = { s2 with o:=bQ s2.o id cj.dead }
  congr 1
  funext j
  by_cases hj:j=id
  ·subst hj;rw [ct,ct]
  ·rw [qU hj,qU hj,qU hj]
 rw [YZ] at i4 vP
 have Pw:p.id≠id:=by
  intro e0
  rw [nP] at b5
  rw [show(s1.bO p.id (.b_ (.row T T.own ver x3))).o id=.b_ (.row T T.own ver x3) from by rw [e0];exact ct _ _ _] at b5
  cases b5
 have Px : bQ ι id l3 p.id = ι p.id:=qU Pw
 have i5:=i0.YV Pu i4
 have hcl:∀j,((s2.bO id .dead).o j).live→j≠id∧(s2.o j).live:=by
  intro j hj
  by_cases lk:j=id
  ·subst lk
   rw [show(s2.bO j .dead).o j=.dead from ct _ _ _] at hj
   exact hj.elim
  ·rw [show(s2.bO id .dead).o j=s2.o j from qU lk] at hj
   exact⟨lk,hj⟩
 have Ic:=hinv.ext
 have hap:∀b o,ah.diff (ι p.id).F H1 b o→vO s2 ι (H1.or gF) b o→False:=by
  rintro b o ag ((hf | hf) | ⟨j,hj,hf⟩)
  ·exact ag.2 hf
  ·exact nO.apart p.id Pt b o hf ag.1
  ·exact lj.apart j hj b o ag hf
 have oV:bF w0 F0 (s2.bO id .dead) w' (bQ ι id l3) Z G:=⟨fun b o x=>⟨Bg i0 Pu (vP.own b o x).1,(vP.own b o x).2⟩,vP.apart,vP.cY⟩
 have Y0:bF w0 F0 (s2.bO id .dead) w' (bQ ι id l3) Z (ah.diff (ι p.id).F H1):=by
  refine⟨(lj.ext Ic).own,fun j hj b o x y=>?_,lj.cY⟩
  obtain ⟨x4,j_⟩:=hcl j hj
  rw [qU x4] at y
  exact lj.apart j j_ b o x y
 have vL:ah.apart G (ah.diff (ι p.id).F H1):=by
  intro b o az ag
  rcases (vP.own b o az).1 with hf | hf
  ·exact hap b o ag hf
  ·have:=(lj.own b o ag).2;omega
 have x1:b4 w w' (ah.diff (ι p.id).F H1):=b4.iy Ic (fun b o hb=>(lj.own b o hb).2) hap
 have x5:=Pv
 simp only [ad.al] at x5
 obtain ⟨A,vK,oU,_⟩:=x5
 have oU:eJ=.slice A (lZ++ys).length vK:=by simpa using oU
 have Y1:(execOp a.eval o).run P w=.ok (.value eJ) w':=by
  unfold execOp;rw [ho]
  simp only [run_bind,resolve,hc,run_pure,invoke]
  unfold builtin
  exact fF hrun
 have ht:(s2.bO id .dead).t=s.t:=by
  show s2.t=s.t
  rw [nP]
  exact hs1.t
 unfold Oper.wp
 rw [Y1,Oper.upon_value,s']
 have Y2:s2.o p.id=.b_ (.row T T.own ver x3):=by rw [nP];exact ct _ _ _
 have Py:(s2.bO id .dead).o p.id=.b_ (.row T T.own ver x3):=by rw [show(s2.bO id .dead).o p.id=s2.o p.id from qU Pw];exact Y2
 have Pz:(bQ ι id l3 p.id).base=some (at_ cM dF):=by rw [Px];exact er
 have Bj:s.o p.id=.row T T.own ver x3:=by
  rcases hs1.o p.id with h2 | ⟨_,h2⟩
  ·rw [← h2];exact dQ
  ·rw [h2] at dQ;cases dQ
 refine⟨⟨_,p3,bQ ι id l3,Z,i5.set (by simp only [aO]) iF⟩,?_⟩
 exact Pl bL jI p1 fU ia oM h5 h6 iF l1 l2 s9 s_ fi hz jM eS ky i5 (H6 i5 ht Py Bj Pz) Py Pz oU Pv oV Y0 vL vM (Ic.j3 Ib)
  (by rw [Px];exact fun b7 bK X y bz q hs=>vN b7 bK X y bz q ((x1.mono fun _ _ h=>h.1).trans hs)) hbk H'
set_option maxHeartbeats 1000000 in
theorem Y3{o:Oper}{l:List Oper}{K:an→Option br}(bL:jr P E)(hn:E.n=n)(h:Inv w0 F0 Z0 n s a w ι Z)(hk:GD E s o l K=some r) :
  ∃dz eA eL l',l=dz :: eA :: eL :: l'∧o.guard=none∧dz.guard=none∧eA.guard=none∧eL.guard=none ∧
   o.wp P a w (fun a w=>dz.wp P a w (fun a w=>eA.wp P a w (fun a w=>eL.wp P a w (fun a w=>∃aq,K aq=some r∧cT w0 F0 Z0 n aq a w) Q) Q) Q) Q:=by
 unfold GD at hk
 split at hk
 case h_2=>cases hk
 rename_i dz eA eL l'
 refine⟨dz,eA,eL,l',rfl,?_⟩
 split at hk
 case h_2=>cases hk
 rename_i c k1 mB e1 nF mC e2 e0 ho l0 jI p1
 split at hk
 case h_2=>cases hk
 rename_i b3 d0 d1 d2 hc s' fU ia
 cases hb:u_ E o dz eA eL k1 e1 e2 e0 d0 d1 d2
 ·rw [hb] at hk;cases hk
 rw [hb] at hk
 simp only [cond_true] at hk
 unfold u_ at hb
 simp only [Bool.and_eq_true,Bool.not_eq_true',Option.isNone_iff_eq_none] at hb
 obtain ⟨Bk,c4,eC,hY,h5,h6,g0,g1,g2,g3,oM,iF,l1,l2⟩:=hb
 obtain rfl:=Nat.eq_of_beq_eq_true Bk
 obtain rfl:=Nat.eq_of_beq_eq_true c4
 obtain rfl:=Nat.eq_of_beq_eq_true eC
 have hY:k1≠d0:=Nat.ne_of_beq_eq_false hY
 have h5:d0≠d1:=Nat.ne_of_beq_eq_false h5
 have h6:d0≠d2:=Nat.ne_of_beq_eq_false h6
 have iF:d0<n.n:=by rw [← hn];exact Nat.le_of_ble_eq_true iF
 have l1:d1<n.n:=by rw [← hn];exact Nat.le_of_ble_eq_true l1
 have l2:d2<n.n:=by rw [← hn];exact Nat.le_of_ble_eq_true l2
 refine⟨g0,g1,g2,g3,?_⟩
 split at hk
 case h_2=>cases hk
 rename_i g aj t A' s9 s_
 split at hk
 case h_2=>cases hk
 rename_i e k u p PA fi kx
 obtain ⟨jl,hk,H4⟩:=YI hk
 cases fG:(!(Nat.beq u.size 0)&&(Nat.beq jl.id p.id&&Nat.beq (jl.off+k) p.off))
 ·rw [fG] at hk;cases hk
 rw [fG] at hk
 simp only [cond_true] at hk
 simp only [Bool.and_eq_true,Bool.not_eq_true'] at fG
 obtain ⟨hz,s8,jM⟩:=fG
 have hz:u.size≠0:=Nat.ne_of_beq_eq_false hz
 have s8:jl.id=p.id:=Nat.eq_of_beq_eq_true s8
 have jM:jl.off+k=p.off:=Nat.eq_of_beq_eq_true jM
 split at hk
 case h_2=>cases hk
 rename_i Y4 Y5 Ba x2
 cases p4:Nat.beq Y4 Y5
 ·rw [p4] at hk;cases hk
 rw [p4] at hk
 simp only [cond_true] at hk
 have hvs:=sS h c.args.toList
 have hf:=eR h b3
 rw [A'] at hf
 simp only [aO] at hf
 obtain ⟨cm,cs,HX,ku,hcs⟩:=hf
 simp only [aX] at ku hcs
 subst ku hcs
 cases Ie:c.args.toList.map (bS s) with
 | nil=>rw [Ie] at kx;cases kx
 | cons v0 bE =>
  rw [Ie] at kx hk hvs
  cases v0 with
  | aS Oe =>
   cases Oe with
   | bY dq dp cq xs =>
    simp only [u7] at kx
    subst kx
    simp only [aX] at hvs
    obtain ⟨j9,aR,hus,oP,PB⟩:=hvs
    simp only [aO] at oP
    rw [Ie] at PA
    obtain ⟨ps,rs,f⟩:=e
    cases hm:u9 (oB (a6.aS (a8.bY dq dp (some p) xs) :: bE)) s t ps (a6.aS (a8.bY dq dp (some p) xs) :: bE++kV (a6.aS (a8.bY dq dp (some p) xs) :: bE)) with
    | none=>rw [hm] at hk;cases hk
    | some X =>
     obtain ⟨x,s1,bh⟩:=X
     rw [hm] at hk
     simp only at hk
     cases dP:(alive s1 bh&&nE (a6.aS (a8.bY dq dp (some p) xs) :: bE))
     ·rw [dP] at hk;cases hk
     rw [dP] at hk
     simp only [cond_true] at hk
     simp only [Bool.and_eq_true] at dP
     obtain ⟨dP,HT⟩:=dP
     obtain ⟨bg,ef,hk⟩:=bb hk
     obtain ⟨y,aM,hk⟩:=bb hk
     obtain ⟨Bb,hbk,H'⟩:=bb hk
     have HU:=bL.fns g _ _ PA
     cases ps with
     | nil=>simp [u9] at hm
     | cons sp ps =>
      cases sp with
      | val T m =>
       cases T with
       | sl dk =>
        simp only [List.cons_append,u9] at hm
        cases Bl:(a'.beq m (.O dk.own)&&(ad.beq t dk&&GB ps))
        ·rw [Bl] at hm;cases hm
        rw [Bl] at hm
        simp only [cond_true] at hm
        simp only [Bool.and_eq_true] at Bl
        obtain ⟨rf,vn,aj1⟩:=Bl
        obtain rfl:=a'.eq_of_beq _ _ rf
        obtain rfl:=ad.eq_of_beq _ _ vn
        obtain ⟨⟨lZ,s0⟩,h_,hm⟩:=bb hm
        obtain ⟨q,hq,hm⟩:=bb hm
        obtain ⟨c4,aj2,mE⟩:=q
        simp only [Option.some.injEq,Prod.mk.injEq] at hm
        obtain ⟨rfl,rfl,rfl⟩:=hm
        obtain ⟨i,T,ver,ys,cM,dF,H1,eS,dQ,hs0,ky,er,i0,Bh,ta,lj,Ia,Ps,vM,Ib,vN⟩:=Pk h oP h_
        have Bj:s0.o p.id=.b_ (.row T T.own ver ys):=by rw [hs0];exact ct _ _ _
        have Y6:aX w Z s ι (kV (a6.aS (a8.bY dq dp (some p) xs) :: bE)) (fP (j9 :: aR)):=HQ HT (by simp only [aX];exact⟨j9,aR,rfl,by simpa only [aO] using oP,PB⟩)
        have aj3:∃A m' c',j9=.slice A m' c':=oP.2.1
        obtain ⟨lY,eN,cp,i1,vQ,PC,_,PD,_,_,_,Y7,src⟩:=pZ ps _ _ s0 Z [] _ hq i0 (aX.move Bh.eb (PB.append Y6)) (by simp)
        simp only at i1 vQ PC PD Y7 src
        have Y8:=ta.sY vQ
        have Ig:=lj.sY vQ
        have b8:=A7 dP
        have tb:bF w0 F0 s1 w ι cp (H1.or lY):=Y8.or PD
        have Ih:∀ {X:ah},bF w0 F0 s0 w ι Z X→∀b o,X b o→lY b o→False:=by
         intro X hX b o hx hj
         obtain ⟨id,hl,hf⟩:=src b o (.inl hj)
         exact hX.apart id hl b o hx hf
        have hA:gf w (cp.or (c9 ι bh)) (oB (a6.aS (a8.bY dq dp (some p) xs) :: bE)) (.val (.sl t) (.O t.own) :: ps) (lZ,c4) (c.args.toList.map a.eval++fP (c.args.toList.map a.eval)) (H1.or lY):=by
         rw [hus]
         exact⟨[j9],aR++fP (j9 :: aR),H1,lY,rfl,ad.al.mono (fun b o hz=>.inl (vQ.dA b o hz)) _ _ (fun _ _ h=>h) Ia,PC,fun b o x y=>Ih ta b o x y,fun _ _ h=>.inl h,fun _ _ h=>.inr h⟩
        obtain ⟨rfl,rfl⟩:∃e:rs=[.val (.sl t) (.O t.own)],y=(e ▸ bg:(cS.outs [.val (.sl t) (.O t.own)] (bw.dU (.val (.sl t) (.O t.own) :: ps))).D).1:=by
         cases rs with
         | nil=>simp [xu] at aM
         | cons AZ rs =>
          cases AZ with
          | val hK Y9 =>
           cases rs with
           | cons=>simp [xu] at aM
           | nil =>
            simp only [xu] at aM
            cases lO:a'.beq Y9 (.O t.own)
            ·rw [lO] at aM;cases aM
            rw [lO] at aM
            obtain rfl:=a'.eq_of_beq _ _ lO
            obtain ⟨e,rfl⟩:=Aq aM
            subst e
            exact⟨rfl,rfl⟩
          | _=>simp [xu] at aM
        have hcall:=HU.calls w (cp.or (c9 ι bh)) (H1.or lY) (lZ,c4) (c.args.toList.map a.eval) bg
         (by
          rintro b o (hz | ⟨d,ag,hf⟩)
          ·exact i1.iw b o hz
          ·exact(i1.own d.1 (b8 d ag) b o hf).2)
         (fun b o hf=>(tb.own b o hf).2)
         (by
          rintro b o hf (hz | hz)
          ·exact tb.cY b o hf hz
          ·exact tb.c9 b8 b o hf hz) hA ef
        suffices key:∀(eJ:Value) (w':World),Ends w (cp.or (c9 ι bh)) (H1.or lY) ⟨.val (.sl t) (.O t.own) :: ps,[.val (.sl t) (.O t.own)],f⟩ (c.args.toList.map a.eval) bg eJ w' →
          dz.wp P (a.put o.dst eJ) w' (fun a w=>eA.wp P a w (fun a w=>eL.wp P a w (fun a w=>∃aq,K aq=some r∧cT w0 F0 Z0 n aq a w) Q) Q) Q by
         unfold Oper.wp
         have hrun:(execOp a.eval o).run P w=(callFunc g (c.args.toList.map a.eval).toArray).run P w:=by
          unfold execOp;rw [ho]
          simp only [run_bind,resolve,hc,HX,Deferred.ofValue,run_pure,invoke]
          congr 2
          apply Array.ext'
          simp
         rw [hrun]
         rcases hcall with⟨⟨fn,xY,HY,iE⟩,hcall⟩ | ⟨aj4,w',s6,gu,xG,hu⟩
         ·have HZ:(callFunc g (c.args.toList.map a.eval).toArray).run P w=.ok (.enter g (c.args.toList.map a.eval).toArray) w:=by
           simp only [callFunc,run_bind,run_pure,program,Sem.run,xY]
           rw [if_neg (by rw [iE];simp),if_neg (by rw [HY];simp)]
           simp only [run_pure]
          rw [HZ,Oper.upon_enter]
          refine hcall.mono ?_
          rintro aj5 w' ⟨v9,rfl,hu⟩
          exact key v9 w' hu
         ·rw [s6,Oper.upon_value]
          cases xG
          exact key _ w' hu
        rintro eJ w' ⟨⟨di,Z',F',rfl,hx,iV,hz2,hf2,xX,gU⟩⟩
        simp only [hL] at gU
        obtain ⟨vs1,dX,G,Y_,rfl,cK,⟨rfl,_⟩,_,hGF,_⟩:=gU
        have x5:=cK
        simp only [ad.al] at x5
        obtain ⟨A,vK,rfl,_⟩:=x5
        obtain ⟨hv,oU⟩:∃hv,hv=Value.slice A bg.1.length vK:=⟨_,rfl⟩
        rw [← oU] at cK
        rw [show nR [dB (.sl t) [Value.slice A bg.1.length vK]]=hv from oU.symm]
        have rm:Inv w0 F0 Z0 n s1 a w' ι cp:=i1.AM tb hx
        rw [s']
        have Bm:s1.t=s.t:=vQ.t.trans Bh.t
        have oS:s1.o p.id=.b_ (.row T T.own ver ys):=by
         rcases vQ.o p.id with h1 | ⟨h1,_⟩
         ·rw [h1,Bj]
         ·rw [Bj] at h1;exact h1.elim
        rw [eS] at x2
        obtain rfl:=aU x2
        obtain rfl:=Nat.eq_of_beq_eq_true p4
        have eW:ah.sub G F':=hGF
        have vL:ah.apart G (ah.diff (ι p.id).F H1):=by
         intro b o az ag
         rcases (hf2 b o (eW b o az)).1 with(hf | hf) | hf
         ·exact ag.2 hf
         ·exact Ih lj b o ag hf
         ·have:=(Ig.own b o ag).2;omega
        have oV:bF w0 F0 s1 w' ι cp G:=by
         have aj6:=i1.ext.size
         refine⟨fun b o az=>⟨?_,(hf2 b o (eW b o az)).2⟩,fun id hl b o az hi=>?_,fun b o az hz=>?_⟩
         ·rcases (hf2 b o (eW b o az)).1 with hf | hf
          ·exact(tb.own b o hf).1
          ·exact .inr (by omega)
         ·rcases (hf2 b o (eW b o az)).1 with hf | hf
          ·exact tb.apart id hl b o hf hi
          ·have:=(i1.own id hl b o hi).2;omega
         ·rcases (hf2 b o (eW b o az)).1 with hf | hf
          ·exact tb.cY b o hf hz
          ·have:=i1.iw b o hz;omega
        have x1:b4 w w' (ah.diff (ι p.id).F H1):=b4.iy hx (fun b o hb=>(Ig.own b o hb).2) (by
         rintro b o ag (hf | hf)
         ·exact ag.2 hf
         ·exact Ih lj b o ag hf)
        exact Pl bL jI p1 fU ia oM h5 h6 iF l1 l2 s9 s_ fi hz jM eS ky rm (YJ l0 hY iF s8 Ba rm (by rw [Bm];exact H4) oS er) oS er oU (pX (.sl t) (b4.refl _ _) cK) oV (Ig.ext hx) vL vM (hx.j3 Ib)
         (fun b7 bK X y bz q hs=>vN b7 bK X y bz q ((x1.mono fun _ _ h=>h.1).trans hs)) hbk H'
       | _=>simp [u9] at hm
      | _=>simp [u9] at hm
   | _=>simp [u7] at kx
  | _=>simp [u7] at kx
theorem Y'{dz:Oper}{T:ad}{u' k1 k2 d0 i m ver cM dF:Nat}{p:Place}{sub:Option (Nat×Nat)}{ys:List T.D}{q:Int}{hv:Value}{s1:an}(bW:gE P E)(gq:E.ty u'=some (.sl T))(l0:dz.op=.indexAddr u' (.tmp k1) (.tmp k2))(hY:k1≠d0)(Ii:k2≠d0)(iF:d0<n.n)
  (hx:s1.t k1=.aS (.ag p.id sub)) (hq:j6 (s1.t k2)=some q) (hm:aN (kT sub ys) q=some m) (hi:ea sub+m=i) (h:Inv w0 F0 Z0 n s1 a w ι Z)
  (oS:s1.o p.id=.b_ (.row T T.own ver ys)) (er:(ι p.id).base=some (at_ cM dF)):(execOp (a.put (some d0) hv).eval dz).run P w=.ok (.value (.pointer (some (at_ cM (dF+i*T.size+0))))) w:=by
 obtain ⟨e,hu,iT⟩:=k8 (bW.ty u' _ gq)
 have h1:=h.tmps k1
 have h2:=h.tmps k2
 rw [hx] at h1
 simp only [aO] at h1
 obtain ⟨_,A,len,c,iz,hh⟩:=h1
 obtain ⟨g1,g2,g3,g4,g5⟩:=hh T T.own ver ys (by rw [oS];rfl)
 obtain ⟨da,vl⟩:=q_ hq h2
 have hl:kT sub ys=len:=by
  cases sub with
  | none=>simp [kT,g1]
  | some p=>obtain ⟨lo,l⟩:=p;simp [kT,g1]
 rw [hl] at hm
 obtain ⟨h2,h3,rfl,h4⟩:=xz hm
 rcases g5 with g5 | ⟨a0,fW,rfl⟩
 ·omega
 rw [er] at fW
 obtain rfl:=aU fW
 unfold execOp;rw [l0]
 refine fF ?_
 rw [xZ _ _ (by rw [h.size];exact iF) (Ne.symm hY),xZ _ _ (by rw [h.size];exact iF) (Ne.symm Ii)]
 have e1:a.eval (.tmp k1)=a.tmps.getD k1 undef:=rfl
 have e2:a.eval (.tmp k2)=a.tmps.getD k2 undef:=rfl
 rw [e1,e2,iz,vl]
 have:=Hf (P:=P) (w:=w) (A:=at_ cM (dF+ea sub*T.size)) (b:=cM) (o:=dF+ea sub*T.size) (c:=c) (k:=da) hu iT h2 h3
 rw [← hi,Nat.add_zero,Nat.add_mul,← Nat.add_assoc]
 exact this
theorem Za{o dz eA eL:Oper}{id:Nat}{M:an→Bool}{K:an→Option br}(bL:jr P E)(hn:E.n=n)(h:Inv w0 F0 Z0 n s a w ι Z)(hk:GI E id s o dz eA eL M K=some r) :
  o.guard=none∧dz.guard=none∧eA.guard=none∧eL.guard=none ∧
   o.wp P a w (fun a w=>(∃nG,M nG=true∧cT w0 F0 Z0 n nG a w)∧dz.wp P a w (fun a w=>eA.wp P a w (fun a w=>eL.wp P a w (fun a w=>∃aq,K aq=some r∧cT w0 F0 Z0 n aq a w) Q) Q) Q) Q:=by
 unfold GI at hk
 split at hk
 case h_2=>cases hk
 rename_i c u' k1 k2 mB e1 nF mC e2 e0 ho l0 jI p1
 split at hk
 case h_2=>cases hk
 rename_i d0 d1 d2 hc s' fU ia
 cases hb:(u_ E o dz eA eL k1 e1 e2 e0 d0 d1 d2 && !(Nat.beq k2 d0))
 ·rw [hb] at hk;cases hk
 rw [hb] at hk
 simp only [cond_true] at hk
 unfold u_ at hb
 simp only [Bool.and_eq_true,Bool.not_eq_true',Option.isNone_iff_eq_none] at hb
 obtain ⟨⟨Bk,c4,eC,hY,h5,h6,g0,g1,g2,g3,oM,iF,l1,l2⟩,Ii⟩:=hb
 obtain rfl:=Nat.eq_of_beq_eq_true Bk
 obtain rfl:=Nat.eq_of_beq_eq_true c4
 obtain rfl:=Nat.eq_of_beq_eq_true eC
 have iF:d0<n.n:=by rw [← hn];exact Nat.le_of_ble_eq_true iF
 have l1:d1<n.n:=by rw [← hn];exact Nat.le_of_ble_eq_true l1
 have l2:d2<n.n:=by rw [← hn];exact Nat.le_of_ble_eq_true l2
 refine⟨g0,g1,g2,g3,?_⟩
 split at hk
 case h_2=>cases hk
 rename_i kX aj t gS ul dp p H_ vb Zb s9 s_ gq k_
 split at hk
 case h_2=>cases hk
 rename_i k u cb i sub q v em ver xs j fi sU hx1 nL dQ eS
 cases fG:(ad.beq gS t&&(ad.beq kX v&&(!(Nat.beq u.size 0)&&(Nat.beq i p.id&&Nat.beq k p.off))))
 ·rw [fG] at hk;cases hk
 rw [fG] at hk
 simp only [cond_true] at hk
 simp only [Bool.and_eq_true,Bool.not_eq_true'] at fG
 obtain ⟨ht,vG,hz,s8,jM⟩:=fG
 obtain rfl:=ad.eq_of_beq _ _ ht
 obtain rfl:=ad.eq_of_beq _ _ vG
 obtain rfl:=Nat.eq_of_beq_eq_true s8
 obtain ⟨m,hm,hk⟩:=bb hk
 cases p4:Nat.beq (ea sub+m) j
 ·rw [p4] at hk;cases hk
 rw [p4] at hk
 simp only [cond_true] at hk
 have p4:=Nat.eq_of_beq_eq_true p4
 refine YW (po:=0) bL h ho hc k_ gq sU s' jI p1 fU ia oM (Nat.ne_of_beq_eq_false h5) (Nat.ne_of_beq_eq_false h6) iF l1 l2 s9 s_ fi (Nat.ne_of_beq_eq_false hz) (by rw [Nat.zero_add];exact Nat.eq_of_beq_eq_true jM) eS ?_ hk
 intro T mJ cM dF ys s1 du cp nV hv h1 Bm oS PE hb1
 rw [dQ] at PE
 obtain ⟨rfl,_,_,h4⟩:=cj.row.inj PE
 have h4:=eq_of_heq h4
 subst h4
 exact Y' bL.ty Zb l0 (Nat.ne_of_beq_eq_false hY) (Nat.ne_of_beq_eq_false Ii) iF (by rw [Bm];exact hx1) (by rw [Bm];exact nL) hm p4 h1 oS hb1
end
end Go.LM
