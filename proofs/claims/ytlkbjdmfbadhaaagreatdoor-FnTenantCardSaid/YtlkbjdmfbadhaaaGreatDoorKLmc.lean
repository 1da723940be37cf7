/- Calls are what the interpreter says. Conditions: each theorem's own hypotheses. -/
import Derived.Test.YtlkbjdmfbadhaaaGreatDoorKLmb
set_option linter.unusedVariables false
set_option linter.unusedSimpArgs false
namespace Go.LM
def gp:List Value→List Value
 | []=>[]
 | .func _ a b :: l=>a.toList++b.toList++gp l
 | _ :: l=>gp l
def gH(w:World)(Z:ai)(key:Nat):(ps:List bF)→(bF.ins ps).D→List Value→ai→Prop
 | [],_,us,_=>us=[]
 | .fn mu py :: ps,x,us,F=>∃a b aX,us=.func (.func key) a b :: aX∧(a.size=mu∧b.size=py)∧gH w Z key ps x aX F
 | .val t m :: ps,x,us,F=>∃vs aX G H,us=dQ t vs :: aX∧t.ar w Z m x.1 vs G∧gH w Z key ps x.2 aX H∧ai.apart G H∧ai.sub G F∧ai.sub H F
 | .hS t :: ps,x,us,F=>∃vs aX G H,us=dQ t vs :: aX∧t.ar w Z .R x.1 vs G∧gH w Z key ps x.2 aX H∧ai.apart G H∧ai.sub G F∧ai.sub H F
 | .hR t m :: ps,x,us,F=>∃vs aX G H,us=dQ t vs :: aX∧t.ar w Z m x.1 vs G∧gH w Z key ps x.2 aX H∧ai.apart G H∧ai.sub G F∧ai.sub H F
 | .ref t :: ps,x,us,F=>∃b o vs aX,us=.pointer (some (at_ b o)) :: aX∧ca w b o vs∧t.ar w Z .R x.1 vs ai.none∧(∀j,j<t.size→Z b (o+j))∧gH w Z key ps x.2 aX F
 | .mut t m _ :: ps,x,us,F=>∃b o vs aX G H,us=.pointer (some (at_ b o)) :: aX∧ca w b o vs∧(∀j,j<t.size→fC w b (o+j))∧t.ar w Z m x.1 vs G∧gH w Z key ps x.2 aX H ∧
   ai.apart (G.or (ai.run b o t.size)) H∧ai.apart G (ai.run b o t.size)∧ai.sub (G.or (ai.run b o t.size)) F∧ai.sub H F
def iC(w:World)(Z:ai):(ps:List bF)→List Value→(bF.eg ps).D→ai→Prop
 | [],_,_,_=>True
 | .mut t _ m' :: ps,us,x,F=>∃b o vs aX G H,us=.pointer (some (at_ b o)) :: aX∧ca w b o vs∧t.ar w Z m' x.1 vs G∧iC w Z ps aX x.2 H ∧
   ai.apart (G.or (ai.run b o t.size)) H∧ai.apart G (ai.run b o t.size)∧ai.sub (G.or (ai.run b o t.size)) F∧ai.sub H F
 | .hR t m :: ps,us,x,F=>∃vs aX G H,us=dQ t vs :: aX∧t.ar w Z m x.1 vs G∧iC w Z ps aX x.2 H∧ai.apart G H∧ai.sub G F∧ai.sub H F
 | .val _ _ :: ps,us,x,F=>∃u aX,us=u :: aX∧iC w Z ps aX x F
 | .hS _ :: ps,us,x,F=>∃u aX,us=u :: aX∧iC w Z ps aX x F
 | .ref _ :: ps,us,x,F=>∃u aX,us=u :: aX∧iC w Z ps aX x F
 | .fn _ _ :: ps,us,x,F=>∃u aX,us=u :: aX∧iC w Z ps aX x F
def Kt(w:World)(us:List Value)(a off size:Nat)(x:Int)(v:Value):Prop:=
 (x<0∧v=.pointer none)∨(0≤x∧∃b o iI dN n c,us[a]?=some (.pointer (some (at_ b o)))∧w.cell? (at_ b (o+off))=some (.slice (some (at_ iI dN)) n c)∧x.toNat<n∧v=.pointer (some (at_ iI (dN+x.toNat*size))))
def il(w:World)(Z:ai)(ps:List bF)(us:List Value):(rs:List c7)→(c7.outs rs (bF.eg ps)).D→List Value→ai→Prop
 | [],x,dA,F=>dA=[]∧iC w Z ps us x F
 | .val t m :: rs,x,dA,F=>∃vs ej G H,dA=dQ t vs :: ej∧t.ar w Z m x.1 vs G∧il w Z ps us rs x.2 ej H∧ai.apart G H∧ai.sub G F∧ai.sub H F
 | .opt a off t :: rs,x,dA,F=>∃v ej,dA=v :: ej∧Kt w us a off t.size x.1 v∧il w Z ps us rs x.2 ej F
 | .any t :: rs,x,dA,F=>∃v ej,dA=v :: ej∧(v.cells.toList.length=t.size∧∀u∈v.cells.toList,ek u=true)∧il w Z ps us rs x ej F
 | .pz t :: rs,x,dA,F=>∃v ej,dA=v :: ej∧((x.1=[]∧v=.pointer none)∨∃y b o vs,x.1=[y]∧v=.pointer (some (at_ b o))∧ca w b o vs∧t.ar w Z .R y vs ai.none∧∀j,j<t.size→Z b (o+j))∧il w Z ps us rs x.2 ej F
 | .new t m :: rs,x,dA,F=>∃b o vs ej G H,dA=.pointer (some (at_ b o)) :: ej∧ca w b o vs∧(∀j,j<t.size→fC w b (o+j))∧t.ar w Z m x.1 vs G∧il w Z ps us rs x.2 ej H ∧
   ai.apart (G.or (ai.run b o t.size)) H∧ai.apart G (ai.run b o t.size)∧ai.sub (G.or (ai.run b o t.size)) F∧ai.sub H F
def oG:List Value→Value
 | [v]=>v
 | l=>.tuple l.toArray
structure Ends(w:World)(Z F:ai)(e:Entry)(us:List Value)(r:(c7.outs e.rs (bF.eg e.ps)).D)(v:Value)(w':World):Prop where
 out:∃dA Z' F',v=oG dA∧Ext w w' F∧ai.sub Z Z'∧(∀b o,Z' b o→Z b o∨((F b o∨w.heap.size≤b)∧b<w'.heap.size))∧(∀b o,F' b o→(F b o∨w.heap.size≤b)∧b<w'.heap.size) ∧
  ai.apart F' Z'∧il w' Z' e.ps (us++gp us) e.rs r dA F'
structure Sound(P:Program)(f:FuncId)(key:Nat)(e:Entry):Prop where
 fn:∃fn,P.funcs[f]?=some fn∧fn.body.isNone=false∧(fn.name == "runtime.NumGoroutine")=false
 calls:∀(w:World) (Z F:ai) (x:(bF.ins e.ps).D) (us:List Value) (r:(c7.outs e.rs (bF.eg e.ps)).D),
  (∀b o,Z b o→b<w.heap.size)→(∀b o,F b o→b<w.heap.size)→ai.apart F Z→gH w Z key e.ps x (us++gp us) F→e.f x=some r →
  Calls P f us.toArray w fun end_ w'=>∃v,end_=.returned v∧Ends w Z F e us r v w'
def xu(P:Program)(f:FuncId)(us:Array Value)(w:World)(R:Ending→World→Prop):Prop:=
 ((∃fn,P.funcs[f]?=some fn∧fn.body.isNone=false∧(fn.name == "runtime.NumGoroutine")=false)∧Calls P f us w R)∨∃v w',(callFunc f us).run P w=.ok (.value v) w'∧R (.returned v) w'
structure ia(P:Program)(f:FuncId)(key:Nat)(e:Entry):Prop where
 calls:∀(w:World) (Z F:ai) (x:(bF.ins e.ps).D) (us:List Value) (r:(c7.outs e.rs (bF.eg e.ps)).D),
  (∀b o,Z b o→b<w.heap.size)→(∀b o,F b o→b<w.heap.size)→ai.apart F Z→gH w Z key e.ps x (us++gp us) F→e.f x=some r →
  xu P f us.toArray w fun end_ w'=>∃v,end_=.returned v∧Ends w Z F e us r v w'
theorem Sound.x{P:Program}{f:FuncId}{key:Nat}{e:Entry}(h:Sound P f key e):ia P f key e:=
 ⟨fun w Z F x us r h1 h2 h3 h4 a'=>.inl ⟨h.fn,h.calls w Z F x us r h1 h2 h3 h4 a'⟩⟩
instance {P:Program} {f:FuncId} {key:Nat} {e:Entry} : Coe (Sound P f key e) (ia P f key e):=⟨Sound.x⟩
section
variable{P:Program}{Q:Exit→Act→World→Prop}
variable{w0:World}{F0 Z0:ai}{n:cO}{s au:aq}{a cg:Act}{w w':World}{ι bp:Nat→bJ}{Z Z':ai}
theorem gH.mono{key:Nat}(hZ:ai.sub Z Z'):∀(ps:List bF) {x:(bF.ins ps).D} {us:List Value} {F F':ai},ai.sub F F'→gH w Z key ps x us F→gH w Z' key ps x us F'
 | [],_,_,_,_,_,h=>h
 | .fn _ _ :: ps,_,_,_,_,hF,h=>by obtain ⟨a,b,aX,h1,h0,h2⟩:=h;exact⟨a,b,aX,h1,h0,gH.mono hZ ps hF h2⟩
 | .val t m :: ps,_,_,_,_,hF,h=>by obtain ⟨vs,aX,G,H,h1,h2,h3,h4,a',br⟩:=h;exact⟨vs,aX,G,H,h1,ae.ar.mono hZ _ _ (fun _ _ h=>h) h2,gH.mono hZ ps (fun _ _ h=>h) h3,h4,fun b o h=>hF b o (a' b o h),fun b o h=>hF b o (br b o h)⟩
 | .hS t :: ps,_,_,_,_,hF,h=>by obtain ⟨vs,aX,G,H,h1,h2,h3,h4,a',br⟩:=h;exact⟨vs,aX,G,H,h1,ae.ar.mono hZ _ _ (fun _ _ h=>h) h2,gH.mono hZ ps (fun _ _ h=>h) h3,h4,fun b o h=>hF b o (a' b o h),fun b o h=>hF b o (br b o h)⟩
 | .hR t m :: ps,_,_,_,_,hF,h=>by obtain ⟨vs,aX,G,H,h1,h2,h3,h4,a',br⟩:=h;exact⟨vs,aX,G,H,h1,ae.ar.mono hZ _ _ (fun _ _ h=>h) h2,gH.mono hZ ps (fun _ _ h=>h) h3,h4,fun b o h=>hF b o (a' b o h),fun b o h=>hF b o (br b o h)⟩
 | .ref t :: ps,_,_,_,_,hF,h=>by obtain ⟨b,o,vs,aX,h1,h2,h3,h4,a'⟩:=h;exact⟨b,o,vs,aX,h1,h2,ae.ar.mono hZ _ _ (fun _ _ h=>h) h3,fun j hj=>hZ _ _ (h4 j hj),gH.mono hZ ps hF a'⟩
 | .mut t m m' :: ps,_,_,_,_,hF,h=>by obtain ⟨b,o,vs,aX,G,H,h1,h2,h3,h4,a',br,bL,dg,j3⟩:=h;exact⟨b,o,vs,aX,G,H,h1,h2,h3,ae.ar.mono hZ _ _ (fun _ _ h=>h) h4,gH.mono hZ ps (fun _ _ h=>h) a',br,bL,fun b o h=>hF b o (dg b o h),fun b o h=>hF b o (j3 b o h)⟩
structure fL(s:aq)(ι : Nat→bJ)(Z:ai)(au:aq)(Z':ai):Prop where
 o:∀id,au.o id=s.o id∨((s.o id).live∧(au.o id=.dead∨au.o id=.ck (s.o id)))
 t:au.t=s.t
 g:au.g=s.g
 dO:ai.sub Z Z'
 pC:∀b o,Z' b o→Z b o∨∃id,(s.o id).live∧¬(au.o id).live∧(ι id).F b o
theorem fj.mG(h:fj s ι Z au Z'):fL s ι Z au Z':=
 ⟨fun id=>(h.o id).imp (fun h=>h) fun h=>⟨h.1,.inl h.2⟩,h.t,h.g,h.dO,fun b o hz=>(h.pC b o hz).imp (fun h=>h) fun⟨id,h1,h2,h3⟩=>⟨id,h1,by rw [h2];exact adq,h3⟩⟩
where adq:¬cE.live .dead:=fun h=>h
theorem fL.refl:fL s ι Z s Z:=fj.mG .refl
theorem fL.live(h:fL s ι Z au Z'){id:Nat}(hl:(au.o id).live):(s.o id).live∧au.o id=s.o id:=by
 rcases h.o id with h1 | ⟨_,h1 | h1⟩
 ·exact⟨h1 ▸ hl,h1⟩
 ·rw [h1] at hl;exact hl.elim
 ·rw [h1] at hl;exact hl.elim
theorem fL.trans{s2:aq}{bR:ai}(h:fL s ι Z au Z')(k:fL au ι Z' s2 bR):fL s ι Z s2 bR:=by
 refine⟨fun id=>?_,k.t.trans h.t,k.g.trans h.g,fun b o hz=>k.dO b o (h.dO b o hz),fun b o hz=>?_⟩
 ·rcases k.o id with h1 | ⟨h0,h1⟩
  ·rw [h1];exact h.o id
  ·obtain ⟨h2,h3⟩:=h.live h0;rw [h3] at h1;exact .inr ⟨h2,h1⟩
 ·rcases k.pC b o hz with h1 | ⟨id,h1,h2,h3⟩
  ·rcases h.pC b o h1 with h1 | ⟨id,h1,h2,h3⟩
   ·exact .inl h1
   ·exact .inr ⟨id,h1,fun hl=>h2 (k.live hl).1,h3⟩
  ·exact .inr ⟨id,(h.live h1).1,h2,h3⟩
theorem fL.et(h:fL s ι Z au Z'):eR w Z s ι w Z' au ι := by
 refine⟨fun id=>?_,h.dO,cd.refl _ _⟩;rcases h.o id with h1 | ⟨h0,h1 | h1⟩
 ·rw [h1];exact .stay _ _
 ·rw [h1];exact .dead _ _ _
 ·rw [h1];exact .fE _ _ h0
theorem bM.uz{F:ai}(hf:bM w0 F0 s w ι Z F)(h:fL s ι Z au Z'):bM w0 F0 au w ι Z' F:=by
 refine⟨hf.own,fun id hl=>hf.apart id (h.live hl).1,fun b o h1 h2=>?_⟩;rcases h.pC b o h2 with h3 | ⟨id,h3,_,h4⟩
 ·exact hf.dd b o h1 h3
 ·exact hf.apart id h3 b o h1 h4
theorem zG{id:Nat}(hl:(s.o id).live):fL s ι Z (s.bV id (.ck (s.o id))) Z:=by
 refine⟨fun j=>?_,rfl,rfl,fun _ _ h=>h,fun _ _ h=>.inl h⟩;by_cases hj:id=j
 ·subst hj;exact .inr ⟨hl,.inr (cN _ _ _)⟩
 ·exact .inl (cZ hj)
theorem Inv.mG(h:Inv w0 F0 Z0 n s a w ι Z)(aI:fL s ι Z au Z'):Inv w0 F0 Z0 n au a w ι Z':=by
 have hm:eR w Z s ι w Z' au ι := aI.et;refine h.next hm (Ext.refl _ ai.none) (fun _ _ h=>h.elim) ?_ ?_ ?_ (fun k=>by rw [aI.t];exact(h.tmps k).move hm) h.size h.defers aI.g
 ·intro b o hz;rcases aI.pC b o hz with h1 | ⟨id,h1,_,h3⟩
  ·exact .inl h1
  ·exact .inr (h.own id h1 b o h3)
 ·intro id hl hne;exact absurd ⟨(aI.live hl).2,rfl⟩ hne
 ·intro id hl b o h1 h2;obtain ⟨d',_⟩:=aI.live hl;rcases aI.pC b o h2 with h3 | ⟨j,h3,h4,a'⟩
  ·exact h.dd id d' b o h1 h3
  ·have hne:id≠j:=fun e=>h4 (e ▸ hl)
   exact h.apart id j d' h3 hne b o h1 a'
theorem Inv.zH(h:Inv w0 F0 Z0 n s a w ι Z){id:Nat}(hl:(s.o id).live):bM w0 F0 (s.bV id (.ck (s.o id))) w ι Z (ι id).F:=by
 refine⟨h.own id hl,fun j hj=>?_,h.dd id hl⟩;have hj':(bZ s.o id (cE.ck (s.o id)) j).live:=hj;by_cases hne:id=j
 ·subst hne;rw [cN] at hj';exact hj'.elim
 ·rw [cZ hne] at hj';exact h.apart id j hl hj' hne
def xv(g:Bool)(w:World)(Z:ai)(s:aq)(ι : Nat→bJ)(t:ae)(p:Place)(u:Value)(H:ai):Prop:=
 ∃ver old b o vs,(g=true→¬(s.o p.id).live)∧(∀eK,s.o p.id=.ck eK→eK=.var ver old∧(ι p.id).base=some (at_ b o))∧p.fD=none∧u=.pointer (some (at_ b (o+p.off)))∧p.off+t.size≤old.length∧bN w Z s ι old vs ∧
  (∀j,j<old.length→fC w b (o+j))∧(∀j,j<old.length→(j<p.off∨p.off+t.size≤j)→H b (o+j)) ∧
  (∀(j:Nat) (v:Value),vs[j]?=some v→(j<p.off∨p.off+t.size≤j)→w.cell? (at_ b (o+j))=some v)
def xw(g:Bool)(w:World)(Z:ai)(s:aq)(ι : Nat→bJ)(t:ae)(m:bl)(p:Place)(u:Value)(H:ai):Prop:=
 ∃ver xs i b o c G1 G2,(g=true→¬(s.o p.id).live)∧(∀eK,s.o p.id=.ck eK→eK=.row t m ver xs∧(ι p.id).base=some (at_ b o)∧(ι p.id).cap=c)∧p.fD=some i∧i<xs.length∧u=.pointer (some (at_ b (o+i*t.size)))∧xs.length≤c ∧
  (∀j,j<c*t.size→fZ w t.size b (o+j))∧(∀j,j<c*t.size→(j<i*t.size∨(i+1)*t.size≤j)→H b (o+j)) ∧
  Row w (t.ar w Z m) t.size (xs.take i) b o G1∧Row w (t.ar w Z m) t.size (xs.drop (i+1)) b (o +(i+1)*t.size) G2∧ai.apart G1 G2∧ai.sub G1 H∧ai.sub G2 H ∧
  (∀j,j<c*t.size→¬G1 b (o+j)∧¬G2 b (o+j))
def adr(g:Bool)(s:aq)(ι : Nat→bJ)(t:ae)(e:bl)(cJ:Option Place)(v:Value)(H:ai)(w:World):Prop:=
 ∃(p:Place) (i:Nat) (T:ae) (ver:Nat) (ys:List T.D) (b o c:Nat),cJ=some p∧p.fD=some i∧(g=true→¬(s.o p.id).live)∧(∀eK,s.o p.id=.ck eK→eK=.row T T.own ver ys∧(ι p.id).base=some (at_ b o)∧(ι p.id).cap=c)∧i<ys.length∧e=t.own ∧
  ∀(ch:World) (bR X:ai) (y:List t.D) (bG:T.D),cd w ch H→(ae.sl t).ar ch bR (.O t.own) y [v] X→ai.apart X H→T.setAt p.off t y (I T ys i)=some bG→nk ch (T.ar ch bR T.own) T.size (ys.set i bG) (at_ b o) c (X.or H)
mutual
def c9(g:Bool)(w:World)(Z:ai)(s:aq)(ι : Nat→bJ):(t:ae)→bl→List bd→List Value→ai→Prop
 | .sl t,.O e,cs,vs,H=>∃c v,cs=[c]∧vs=[v]∧match c with
  | .nil _=>v=.slice none 0 0
  | .ah id none=>∃ver xs A k c,(g=true→¬(s.o id).live)∧(∀eK,s.o id=.ck eK→eK=.row t e ver xs∧(ι id).cap=c∧JL (ι id) t.size none xs.length A xs.length k)∧v=.slice A xs.length k ∧
    ((xs=[]∧c=0)∨∃b o,(∀eK,s.o id=.ck eK→(ι id).base=some (at_ b o))∧xs.length≤c∧k≤c∧(k=0∨A=some (at_ b o))∧(∀j,j<c*t.size→fZ w t.size b (o+j))∧(∀j,k*t.size≤j→j<c*t.size→H b (o+j)))
  | .bY _ _ cJ _=>adr g s ι t e cJ v H w
  | _=>False
 | .sl _,_,_,_,_=>False
 | .st ak,m,cs,vs,H=>fO g w Z s ι ak m.parts cs vs H
 | _,_,cs,vs,_=>cs.length=1∧vs.length=1
def fO(g:Bool)(w:World)(Z:ai)(s:aq)(ι : Nat→bJ):(ak:aC)→c4→List bd→List Value→ai→Prop
 | .nil,_,cs,vs,_=>cs=[]∧vs=[]
 | .cons t ak,m,cs,vs,H=>∃c1 gR v1 v2 H1 H2,cs=c1++gR∧vs=v1++v2∧c9 g w Z s ι t m.ah c1 v1 H1∧fO g w Z s ι ak m.dF gR v2 H2∧ai.apart H1 H2∧ai.sub H1 H∧ai.sub H2 H
end
def e9(g:Bool)(w:World)(Z:ai)(s:aq)(ι : Nat→bJ):(ps:List bF)→List a_→List Value→ai→Prop
 | [],_,_,_=>True
 | .mut t m m' :: ps,vs,us,H=>∃p bK u aX H1 H2,vs=.ptr p :: bK∧us=u :: aX∧(xv g w Z s ι t p u H1∨(m'=m∧m=t.own∧xw g w Z s ι t m p u H1))∧e9 g w Z s ι ps bK aX H2∧ai.apart H1 H2∧ai.sub H1 H∧ai.sub H2 H
 | .hR t m :: ps,vs,us,H=>∃v bK u aX cs H1 H2,vs=v :: bK∧us=u :: aX∧ja t v=some cs∧m=t.own∧c9 g w Z s ι t m cs u.cells.toList H1∧e9 g w Z s ι ps bK aX H2∧ai.apart H1 H2∧ai.sub H1 H∧ai.sub H2 H
 | _ :: ps,vs,us,H=>∃v bK u aX,vs=v :: bK∧us=u :: aX∧e9 g w Z s ι ps bK aX H
end
end Go.LM
namespace Go.LM
section
variable{P:Program}{Q:Exit→Act→World→Prop}
variable{g:Bool}{w0:World}{F0 Z0:ai}{n:cO}{s au:aq}{a cg:Act}{w w':World}{ι bp:Nat→bJ}{Z Z':ai}
structure gV(g:Bool)(w:World)(Z:ai)(s:aq)(ι : Nat→bJ)(w':World)(Z':ai)(au:aq)(bp:Nat→bJ)(H:ai):Prop where
 az:∀x v,aV w Z s ι x v→aV w' Z' au bp x v
 cell:∀c v,cw w Z s ι c v→cw w' Z' au bp c v
 dO:ai.sub Z Z'
 ck:∀id o',(g=true→¬(s.o id).live)→au.o id=.ck o'→s.o id=.ck o' ∧ bp id = ι id
 nl:g=true→∀id,¬(s.o id).live→¬(au.o id).live
 same:cd w w' H
 C3:cd w w' Z
 wr:∀b o,fC w b o→fC w' b o
 zI:∀z b o,fZ w z b o→fZ w' z b o
theorem gV.mono{H gb:ai}(h:gV g w Z s ι w' Z' au bp H)(hs:ai.sub gb H):gV g w Z s ι w' Z' au bp gb:=⟨h.az,h.cell,h.dO,h.ck,h.nl,h.same.mono hs,h.C3,h.wr,h.zI⟩
theorem xv.move{t:ae}{p:Place}{u:Value}{H gb:ai}(h:gV g w Z s ι w' Z' au bp H)(cP:ai.sub H gb)(hk:xv g w Z s ι t p u H):xv g w' Z' au bp t p u gb:=by
 obtain ⟨ver,old,b,o,vs,h0,h1,h2,h4,a',br,bL,dg,j3⟩:=hk;have hl:=br.len;refine⟨ver,old,b,o,vs,fun aI=>h.nl aI _ (h0 aI),fun eK b1=>?_,h2,h4,a',bN.mono h.cell br,fun j hj=>h.wr _ _ (bL j hj),fun j hj hh=>cP _ _ (dg j hj hh),fun j v hv hh=>?_⟩
 ·obtain ⟨eb,eS⟩:=h.ck _ _ h0 b1;rw [eS];exact h1 eK eb
 have hj:j<old.length:=by
  rcases Nat.lt_or_ge j vs.length with h | h
  ·omega
  ·rw [List.getElem?_eq_none h] at hv;simp at hv
 rw [(h.same _ _ (dg j hj hh)).1];exact j3 j v hv hh
theorem xw.move{t:ae}{m:bl}{p:Place}{u:Value}{H gb:ai}(h:gV g w Z s ι w' Z' au bp H)(cP:ai.sub H gb)(hk:xw g w Z s ι t m p u H):xw g w' Z' au bp t m p u gb:=by
 obtain ⟨ver,xs,i,b,o,c,G1,G2,h0,h1,h2,h3,a',br,bL,dg,j3,kn,qO,j5,xx,xy⟩:=hk;have cV:∀(G:ai),ai.sub G H→∀y us dx,ai.sub dx G→t.ar w Z m y us dx→t.ar w' Z' m y us dx:=fun G hG y us dx JY hr=>ae.ar.mono h.dO _ _ (fun _ _ h=>h) (ae.ar.same h.C3 _ _ (h.same.mono fun b o aI=>hG b o (JY b o aI)) hr)
 have hcap:(i+1)*t.size≤c*t.size:=Nat.mul_le_mul_right _ (by omega);have hcell:∀j,j<c*t.size→(j<i*t.size∨(i+1)*t.size≤j)→w'.cell? (at_ b (o+j))=w.cell? (at_ b (o+j)):=fun j hj hh=>(h.same _ _ (dg j hj hh)).1
 refine⟨ver,xs,i,b,o,c,G1,G2,fun aI=>h.nl aI _ (h0 aI),fun eK b1=>?_,h2,h3,a',br,fun j hj=>h.zI _ _ _ (bL j hj),fun j hj hh=>cP _ _ (dg j hj hh),?_,?_,qO,fun b o aI=>cP b o (j5 b o aI),fun b o aI=>cP b o (xx b o aI),xy⟩
 ·obtain ⟨eb,eS⟩:=h.ck _ _ h0 b1;rw [eS];exact h1 eK eb
 ·refine j3.imp (cV G1 j5) fun j hj=>hcell j ?_ (.inl ?_)
  all_goals
   have:(xs.take i).length=i:=by simp;omega
   rw [this] at hj;rw [Nat.add_one_mul] at hcap;omega
 ·refine kn.imp (cV G2 xx) fun j hj=>?_
  have hle:xs.length*t.size≤c*t.size:=Nat.mul_le_mul_right _ br;have e1:(xs.drop (i+1)).length=xs.length-(i+1):=by simp
  rw [e1,Nat.sub_mul] at hj;have:=hcell ((i+1)*t.size+j) (by omega) (.inr (by omega));rwa [← Nat.add_assoc] at this
mutual
theorem c9.move{H gb:ai}(h:gV g w Z s ι w' Z' au bp H)(cP:ai.sub H gb):∀(t:ae) (m:bl) {cs:List bd} {vs:List Value},c9 g w Z s ι t m cs vs H→c9 g w' Z' au bp t m cs vs gb
 | .int _,_,_,_,hk=>by simp only [c9] at hk ⊢;exact hk
 | .bool,_,_,_,hk=>by simp only [c9] at hk ⊢;exact hk
 | .str,_,_,_,hk=>by simp only [c9] at hk ⊢;exact hk
 | .raw,_,_,_,hk=>by simp only [c9] at hk ⊢;exact hk
 | .sl t,.R,_,_,hk=>by simp only [c9] at hk
 | .sl t,.S _,_,_,hk=>by simp only [c9] at hk
 | .sl t,.O e,_,_,hk=>by
  simp only [c9] at hk ⊢;obtain ⟨c,v,h1,h2,hk⟩:=hk;refine⟨c,v,h1,h2,?_⟩
  cases c with
  | nil=>exact hk
  | ah id sub=>
   cases sub with
   | some=>exact hk
   | none=>
    obtain ⟨ver,xs,A,k,c,mD,k1,k2,bg⟩:=hk;refine⟨ver,xs,A,k,c,fun aI=>h.nl aI _ (mD aI),fun eK b1=>?_,k2,?_⟩
    ·obtain ⟨eb,eS⟩:=h.ck _ _ mD b1;rw [eS];exact k1 eK eb
    rcases bg with bg | ⟨b,o,cU,eF,iE,iF,iG,pN⟩
    ·exact .inl bg
    ·right;refine⟨b,o,fun eK b1=>?_,eF,iE,iF,fun j hj=>h.zI _ _ _ (iG j hj),fun j h1 h2=>cP _ _ (pN j h1 h2)⟩;obtain ⟨eb,eS⟩:=h.ck _ _ mD b1;rw [eS];exact cU eK eb
  | bY u dp cJ xs=>
   obtain ⟨p,i,T,ver,ys,b,o,c,av,hi,mD,k1,k2,k3,bg⟩:=hk;refine⟨p,i,T,ver,ys,b,o,c,av,hi,fun aI=>h.nl aI _ (mD aI),fun eK b1=>?_,k2,k3,fun ch bR X y bG cU eF iE iF=>?_⟩
   ·obtain ⟨eb,eS⟩:=h.ck _ _ mD b1;rw [eS];exact k1 eK eb
   ·have:=bg ch bR X y bG (h.same.trans (cU.mono cP)) eF (fun b o x y=>iE b o x (cP b o y)) iF;obtain ⟨G,g1,g2,g3⟩:=this.row;exact⟨this.spot,this.cap,this.wr,fun j hj=>(this.inF j hj).imp (fun h=>h) (cP _ _),G,g1,g2,fun b o x=>(g3 b o x).imp (fun h=>h) (cP b o)⟩
  | _=>exact hk
 | .st ak,m,_,_,hk=>by simp only [c9] at hk ⊢;exact fO.move h cP ak m.parts hk
theorem fO.move{H gb:ai}(h:gV g w Z s ι w' Z' au bp H)(cP:ai.sub H gb):∀(ak:aC) (m:c4) {cs:List bd} {vs:List Value},fO g w Z s ι ak m cs vs H→fO g w' Z' au bp ak m cs vs gb
 | .nil,_,_,_,hk=>by simp only [fO] at hk ⊢;exact hk
 | .cons t ak,m,_,_,hk=>by simp only [fO] at hk ⊢;obtain ⟨c1,gR,v1,v2,H1,H2,h1,h2,h3,h4,a',br,bL⟩:=hk;exact⟨c1,gR,v1,v2,H1,H2,h1,h2,c9.move (h.mono br) (fun _ _ h=>h) t m.ah h3,fO.move (h.mono bL) (fun _ _ h=>h) ak m.dF h4,a',fun b o x=>cP b o (br b o x),fun b o x=>cP b o (bL b o x)⟩
end
theorem e9.move{H gb:ai}(h:gV g w Z s ι w' Z' au bp H)(cP:ai.sub H gb):∀(ps:List bF) {vs:List a_} {us:List Value},e9 g w Z s ι ps vs us H→e9 g w' Z' au bp ps vs us gb
 | [],_,_,_=>trivial
 | .mut t m m' :: ps,_,_,⟨p,bK,u,aX,H1,H2,h1,h2,h3,h4,a',br,bL⟩=>⟨p,bK,u,aX,H1,H2,h1,h2,h3.imp (xv.move (h.mono br) (fun _ _ h=>h)) (fun hk=>⟨hk.1,hk.2.1,xw.move (h.mono br) (fun _ _ h=>h) hk.2.2⟩),e9.move (h.mono bL) (fun _ _ h=>h) ps h4,a',fun b o x=>cP b o (br b o x),fun b o x=>cP b o (bL b o x)⟩
 | .hR t m :: ps,_,_,⟨v,bK,u,aX,cs,H1,H2,h1,h2,h3,oH,h4,a',br,bL,dg⟩=>⟨v,bK,u,aX,cs,H1,H2,h1,h2,h3,oH,c9.move (h.mono bL) (fun _ _ h=>h) t m h4,e9.move (h.mono dg) (fun _ _ h=>h) ps a',br,fun b o x=>cP b o (bL b o x),fun b o x=>cP b o (dg b o x)⟩
 | .val _ _ :: ps,_,_,⟨v,bK,u,aX,h1,h2,h3⟩=>⟨v,bK,u,aX,h1,h2,e9.move h cP ps h3⟩
 | .hS _ :: ps,_,_,⟨v,bK,u,aX,h1,h2,h3⟩=>⟨v,bK,u,aX,h1,h2,e9.move h cP ps h3⟩
 | .ref _ :: ps,_,_,⟨v,bK,u,aX,h1,h2,h3⟩=>⟨v,bK,u,aX,h1,h2,e9.move h cP ps h3⟩
 | .fn _ _ :: ps,_,_,⟨v,bK,u,aX,h1,h2,h3⟩=>⟨v,bK,u,aX,h1,h2,e9.move h cP ps h3⟩
theorem fL.held(h:fL s ι Z au Z')(H:ai):gV true w Z s ι w Z' au ι H:=by
 refine⟨fun _ _=>aV.move h.et,fun _ _=>cw.move h.et,h.dO,fun id o' hn ho=>⟨?_,rfl⟩,fun _ id hn hl=>hn (h.live hl).1,cd.refl _ _,cd.refl _ _,fun _ _ h=>h,fun _ _ _ h=>h⟩;rcases h.o id with h1 | ⟨h0,_⟩
 ·rw [← h1,ho]
 ·exact absurd h0 (hn rfl)
def Ku(w0:World)(F0 Z0:ai)(n:cO)(s:aq)(a:Act)(w:World)(ι : Nat→bJ)(Z:ai)(R:List Value→ai→Prop)(C4:aq→List bd→List Value→ai→Prop)(cs:List bd)(vs:List Value)(cs':List bd)(au:aq):Prop:=
 ∃c1 us bK F H,cs=c1++cs'∧vs=us++bK∧Inv w0 F0 Z0 n au a w ι Z∧fL s ι Z au Z∧bN w Z au ι cs' bK∧bM w0 F0 au w ι Z F∧bM w0 F0 au w ι Z H∧ai.apart F H ∧
  R us F∧C4 au c1 us H∧∀b o,F b o∨H b o→∃id,(s.o id).live∧(ι id).F b o
theorem C5{R:List Value→ai→Prop}{C4:aq→List bd→List Value→ai→Prop}{c:bd}{v:Value}{cs':List bd}{bK:List Value}(h:Inv w0 F0 Z0 n s a w ι Z)(hc:bN w Z s ι cs' bK)
  (d_:R [v] ai.none) (Kv:C4 s [c] [v] ai.none):Ku w0 F0 Z0 n s a w ι Z R C4 (c :: cs') (v :: bK) cs' s:=
 ⟨[c],[v],bK,ai.none,ai.none,rfl,rfl,h,.refl,hc,.none,.none,fun _ _ h=>h.elim,d_,Kv,fun _ _ h=>h.elim (fun h=>h.elim) fun h=>h.elim⟩
mutual
theorem ae.zJ:∀(t:ae) (m:bl) (cs:List bd) (s:aq) (r:t.D×List bd×aq) (vs:List Value),t.fE m cs s=some r→Inv w0 F0 Z0 n s a w ι Z→bN w Z s ι cs vs →
  Ku w0 F0 Z0 n s a w ι Z (fun us F=>t.ar w Z m r.1 us F) (fun s c us H=>c9 true w Z s ι t m c us H) cs vs r.2.1 r.2.2
 | .int k,m,cs,s,r,vs,hi,h,hc=>by
  match cs,vs,hc with
  | [],_,_=>simp [ae.fE] at hi
  | _ :: _,[],hc=>exact hc.elim
  | c :: cs,v :: vs,hc=>
   cases c <;> simp only [ae.fE] at hi <;> try (simp at hi;done)
   rename_i k' x;cases hb:Nat.beq (dz k) (dz k')
   ·rw [hb] at hi;simp at hi
   rw [hb] at hi;obtain rfl:=aZ hi;have:=CO hb;subst this;have hv:v=.int k x:=hc.1;exact C5 h hc.2 (by simp only [ae.ar];rw [hv]) (by simp only [c9];exact⟨rfl,rfl⟩)
 | .bool,m,cs,s,r,vs,hi,h,hc=>by
  match cs,vs,hc with
  | [],_,_=>simp [ae.fE] at hi
  | _ :: _,[],hc=>exact hc.elim
  | c :: cs,v :: vs,hc=>
   cases c <;> simp only [ae.fE] at hi <;> try (simp at hi;done)
   obtain rfl:=aZ hi;have hv:=hc.1;simp only [cw] at hv;exact C5 h hc.2 (by simp only [ae.ar];rw [hv]) (by simp only [c9];exact⟨rfl,rfl⟩)
 | .str,m,cs,s,r,vs,hi,h,hc=>by
  match cs,vs,hc with
  | [],_,_=>simp [ae.fE] at hi
  | _ :: _,[],hc=>exact hc.elim
  | c :: cs,v :: vs,hc=>
   cases c <;> simp only [ae.fE] at hi <;> try (simp at hi;done)
   obtain rfl:=aZ hi;have hv:=hc.1;obtain ⟨kJ,hv,hx⟩:=hv;exact C5 h hc.2 (by simp only [ae.ar];exact⟨kJ,by rw [hv],hx⟩) (by simp only [c9];exact⟨rfl,rfl⟩)
 | .raw,m,cs,s,r,vs,hi,h,hc=>by cases cs <;> cases m <;> simp [ae.fE] at hi
 | .sl t,m,cs,s,r,vs,hi,h,hc=>by
  match cs,vs,hc with
  | [],_,_=>cases m <;> simp [ae.fE] at hi
  | _ :: _,[],hc=>exact hc.elim
  | c :: cs,v :: vs,hc=>
   cases m with
   | R=>simp [ae.fE] at hi
   | S=>simp [ae.fE] at hi
   | O e=>
    cases c with
    | nil u=>
     simp only [ae.fE] at hi;obtain ⟨x,hx,hi⟩:=bq hi;obtain ⟨e1,rfl⟩:=hp hx;subst e1;obtain rfl:=aZ hi;have hv:v=.slice none 0 0:=hc.1;refine C5 h hc.2 ?_ ?_
     ·simp only [ae.ar];exact⟨none,0,by rw [hv];rfl,.inl (by simp)⟩
     ·simp only [c9];exact⟨_,_,rfl,rfl,hv⟩
    | ah id sub=>
     cases sub with
     | some=>simp [ae.fE] at hi
     | none=>
      simp only [ae.fE] at hi
      cases ho:s.o id with
      | row u em ver xs=>
       rw [ho] at hi;simp only at hi;cases hb:bl.beq em e
       ·rw [hb] at hi;simp at hi
       rw [hb] at hi;simp only [cond_true] at hi;have:=bl.eq_of_beq _ _ hb;subst this;obtain ⟨x,hx,hi⟩:=bq hi;obtain ⟨e1,rfl⟩:=hp hx;subst e1;obtain rfl:=aZ hi;have cj:(s.o id).live:=by rw [ho];trivial
       have aI:fL s ι Z (s.bV id (.ck (.row u em ver xs))) Z:=by have:=zG (s:=s) (ι := ι) (Z:=Z) cj;rw [ho] at this;exact this
       have fs:bM w0 F0 (s.bV id (.ck (.row u em ver xs))) w ι Z (ι id).F:=by have:=h.zH cj;rw [ho] at this;exact this
       have da:=h.f_ id;rw [ho] at da;obtain ⟨_,A,m',k,hv,hh⟩:=hc.1;have hh:=hh u em ver xs (lU ho);have nC:=w_ da hh;have pO:m'=xs.length:=hh.RR;subst pO;have mH:(s.bV id (.ck (.row u em ver xs))).o id=.ck (.row u em ver xs):=cN _ _ _;simp only [ae.ar,lf] at nC;obtain ⟨nx,k',lV,nC⟩:=nC;simp only [List.cons.injEq,Value.slice.injEq,and_true,true_and] at lV;obtain ⟨rfl,rfl⟩:=lV;rcases da with⟨hx0,ads⟩ | ⟨⟨b,o,sp⟩,eL,hr⟩
       ·refine⟨[.ah id none],[v],vs,ai.none,ai.none,rfl,rfl,h.mG aI,aI,hc.2.move aI.et,.none,.none,fun _ _ h=>h.elim,?_,?_,fun _ _ h=>h.elim (fun h=>h.elim) fun h=>h.elim⟩
        ·simp only [ae.ar];have hk0:k=0:=by have:=hh.cap;omega
         exact⟨A,k,by rw [hv],.inl ⟨hx0,hk0⟩⟩
        ·simp only [c9];exact⟨_,_,rfl,rfl,ver,xs,A,k,_,fun _=>by rw [mH];exact fun h=>h,fun eK b1=>by rw [mH] at b1;exact⟨(cE.ck.inj b1).symm,rfl,hh⟩,hv,.inl ⟨hx0,ads⟩⟩
       ·have hsp:=hr.spot;simp only at hsp;subst hsp;have adt:k*u.size≤(ι id).cap*u.size:=Nat.mul_le_mul_right _ (by have:=hh.cap;simp only [er] at this;omega)
        let T:ai:=ai.run b (o+k*u.size) ((ι id).cap*u.size-k*u.size)
        refine⟨[.ah id none],[v],vs,ai.diff (ι id).F T,fun b o=>(ι id).F b o∧T b o,rfl,rfl,h.mG aI,aI,hc.2.move aI.et,fs.sub fun _ _ h=>h.1,fs.sub fun _ _ h=>h.1,fun b o h1 h2=>h1.2 h2.2,?_,?_,?_⟩
        ·simp only [ae.ar];refine⟨A,k,by rw [hv],?_⟩;rcases nC with nC | ⟨⟨b',o',sp⟩,hA,iJ⟩
         ·exact .inl nC
         ·rcases hh.at_ with hk0 | ⟨a1,nF,uA⟩
          ·exact .inl ⟨List.eq_nil_of_length_eq_zero (by have:=hh.le;omega),hk0⟩
          ·right;rw [eL] at nF;obtain rfl:=aZ nF;rw [hA] at uA;simp only [er,Nat.zero_mul,Nat.add_zero,Option.some.injEq,at_,Addr.mk.injEq] at uA;obtain ⟨rfl,rfl,rfl⟩:=uA;obtain ⟨G,g1,g2,g3⟩:=hr.row;refine⟨_,hA,rfl,iJ.cap,iJ.wr,fun j hj=>⟨iJ.inF j hj,?_⟩,G,g1,fun j hj=>g2 j (by omega),fun b o aI=>⟨g3 b o aI,?_⟩⟩
           ·rintro ⟨_,h1,_⟩;simp only at h1;omega
           ·rintro ⟨rfl,h1,h2⟩
            have:=g2 (o-o') (by omega);simp only at this;rw [show o' +(o-o')=o by omega] at this;exact this aI
        ·simp only [c9];refine⟨_,_,rfl,rfl,ver,xs,A,k,(ι id).cap,fun _=>by rw [mH];exact fun h=>h,fun eK b1=>by rw [mH] at b1;exact⟨(cE.ck.inj b1).symm,rfl,hh⟩,hv,.inr ⟨b,o,fun _ _=>eL,hr.cap,by have:=hh.cap;simp only [er] at this;omega,?_,hr.wr,fun j h1 h2=>⟨hr.inF j h2,rfl,by omega,by omega⟩⟩⟩;rcases hh.at_ with h0 | ⟨a1,nF,uA⟩
         ·exact .inl h0
         ·rw [eL] at nF;obtain rfl:=aZ nF;right;rw [uA];simp [er,at_]
        ·rintro b o (hf | hf)
         ·exact⟨id,cj,hf.1⟩
         ·exact⟨id,cj,hf.1⟩
      | _=>rw [ho] at hi;simp at hi
    | bY u dp cJ xs=>
     simp only [ae.fE] at hi;obtain ⟨C6,iL,hi⟩:=bq hi;obtain rfl:=aZ hi
     cases cJ with
     | none=>simp [ua] at iL
     | some p=>
      simp only [ua] at iL
      cases ff:p.fD with
      | none=>rw [ff] at iL;simp at iL
      | some i=>
       rw [ff] at iL
       cases ho:s.o p.id with
       | row T em ver ys=>
        rw [ho] at iL;simp only at iL;cases hb:(alive s dp&&bl.beq em T.own&&bl.beq e t.own)
        ·rw [hb] at iL;simp at iL
        rw [hb] at iL;simp only [cond_true] at iL;simp only [Bool.and_eq_true] at hb;obtain rfl:=bl.eq_of_beq _ _ hb.1.2;obtain rfl:=bl.eq_of_beq _ _ hb.2;obtain ⟨x,hx,iL⟩:=bq iL;obtain rfl:=aZ iL;obtain ⟨_,_,_,lq⟩:=hc.1;obtain ⟨_,lq⟩:=lq _ rfl;obtain ⟨cX,dV,⟨_,gf⟩,hcell,hin⟩:=lq hb.1.1;simp only [ho,cE.core] at gf;obtain ⟨dS,hii,lr,a0,eL,nA⟩:=gf;rw [ff] at hii;obtain rfl:=aZ hii;have cj:(s.o p.id).live:=by rw [ho];trivial
        have aI:fL s ι Z (s.bV p.id (.ck (.row T T.own ver ys))) Z:=by have:=zG (s:=s) (ι := ι) (Z:=Z) cj;rw [ho] at this;exact this
        have fs:bM w0 F0 (s.bV p.id (.ck (.row T T.own ver ys))) w ι Z (ι p.id).F:=by have:=h.zH cj;rw [ho] at this;exact this
        have da:=h.f_ p.id;rw [ho] at da;rcases da with⟨hx0,_⟩ | ⟨a1,hb1,hr⟩
        ·rw [hx0] at lr;simp at lr
        rw [eL] at hb1;obtain rfl:=aZ hb1;obtain ⟨ab,ao,sp⟩:=a0;have hsp:=hr.spot;simp only at hsp;subst hsp;obtain ⟨eX,H1,eb,eS,oB,pH⟩:=hr.lens lr hx;rw [← nA] at eb;have Kw:eX=v:=by rw [hcell] at eb;exact(aZ eb).symm
        subst Kw;have mH:(s.bV p.id (.ck (.row T T.own ver ys))).o p.id=.ck (.row T T.own ver ys):=cN _ _ _;refine⟨[.bY u dp (some p) xs],[eX],vs,H1,ai.diff (ι p.id).F H1,rfl,rfl,h.mG aI,aI,hc.2.move aI.et,fs.sub oB,fs.sub fun _ _ h=>h.1,fun b o h1 h2=>h2.2 h1,eS,?_,?_⟩
        ·simp only [c9];exact⟨_,_,rfl,rfl,p,i,T,ver,ys,ab,ao,(ι p.id).cap,rfl,ff,fun _=>by rw [mH];exact fun h=>h,fun eK b1=>by rw [mH] at b1;exact⟨(cE.ck.inj b1).symm,eL,rfl⟩,lr,rfl,pH⟩
        ·rintro b o (hf | hf)
         ·exact⟨p.id,cj,oB b o hf⟩
         ·exact⟨p.id,cj,hf.1⟩
       | _=>rw [ho] at iL;simp at iL
    | _=>simp [ae.fE] at hi
 | .st ak,m,cs,s,r,vs,hi,h,hc=>by simp only [ae.fE] at hi;have:=aC.zJ ak m.parts cs s r vs hi h hc;simpa only [ae.ar,c9] using this
theorem aC.zJ:∀(ak:aC) (m:c4) (cs:List bd) (s:aq) (r:ak.D×List bd×aq) (vs:List Value),ak.fE m cs s=some r→Inv w0 F0 Z0 n s a w ι Z→bN w Z s ι cs vs →
  Ku w0 F0 Z0 n s a w ι Z (fun us F=>ak.ar w Z m r.1 us F) (fun s c us H=>fO true w Z s ι ak m c us H) cs vs r.2.1 r.2.2
 | .nil,m,cs,s,r,vs,hi,h,hc=>by simp only [aC.fE] at hi;obtain rfl:=aZ hi;exact⟨[],[],vs,ai.none,ai.none,rfl,rfl,h,.refl,hc,.none,.none,fun _ _ h=>h.elim,by simp only [aC.ar],by simp [fO],fun _ _ h=>h.elim (fun h=>h.elim) fun h=>h.elim⟩
 | .cons t ak,m,cs,s,r,vs,hi,h,hc=>by
  simp only [aC.fE] at hi;obtain ⟨bH,h1,hi⟩:=bq hi;obtain ⟨cm,h2,hi⟩:=bq hi;obtain rfl:=aZ hi;obtain ⟨c1,us1,vs1,F1,H1,e1,e2,i1,g1,cU,f1,zK,a1,ea,k1,eb⟩:=ae.zJ t m.ah cs s bH vs h1 h hc;obtain ⟨gR,us2,vs2,dU,H2,d1,d2,i2,g2,eF,f2,adu,a2,e7,k2,eS⟩:=aC.zJ ak m.dF bH.2.1 bH.2.2 cm vs1 h2 i1 cU;have hap:∀ {X:ai},bM w0 F0 bH.2.2 w ι Z X→∀b o,X b o→(dU b o∨H2 b o)→False:=by intro X hX b o hx hh;obtain ⟨id,hl,hf⟩:=eS b o hh;exact hX.apart id hl b o hx hf
  refine⟨c1++gR,us1++us2,vs2,F1.or dU,H1.or H2,by rw [e1,d1,List.append_assoc],by rw [e2,d2,List.append_assoc],i2,g1.trans g2,eF,(f1.uz g2).or f2,(zK.uz g2).or adu,?_,?_,?_,?_⟩
  ·rintro b o (hf | hf) (hh | hh)
   ·exact a1 b o hf hh
   ·exact hap f1 b o hf (.inr hh)
   ·exact hap zK b o hh (.inl hf)
   ·exact a2 b o hf hh
  ·simp only [aC.ar];exact⟨us1,us2,F1,dU,rfl,ea,e7,fun b o h1 h2=>hap f1 b o h1 (.inl h2),fun _ _ h=>.inl h,fun _ _ h=>.inr h⟩
  ·simp only [fO];exact⟨c1,gR,us1,us2,H1,H2,rfl,rfl,c9.move (g2.held H1) (fun _ _ h=>h) t m.ah k1,k2,fun b o h1 h2=>hap zK b o h1 (.inr h2),fun _ _ h=>.inl h,fun _ _ h=>.inr h⟩
  ·rintro b o ((hf | hf) | (hf | hf))
   ·exact eb b o (.inl hf)
   ·obtain ⟨id,hl,qP⟩:=eS b o (.inl hf);exact⟨id,(g1.live hl).1,qP⟩
   ·exact eb b o (.inr hf)
   ·obtain ⟨id,hl,qP⟩:=eS b o (.inr hf);exact⟨id,(g1.live hl).1,qP⟩
end
end
end Go.LM
namespace Go.LM
section
variable{P:Program}{Q:Exit→Act→World→Prop}
variable{w0:World}{F0 Z0:ai}{n:cO}{s au:aq}{a cg:Act}{w w':World}{ι bp:Nat→bJ}{Z Z':ai}
theorem C7{t:ae}{x:a_}{v:Value}(hf:oq t x=true)(hv:aV w Z s ι x v):v=dQ t v.cells.toList:=by
 cases t <;> cases x <;> simp only [oq] at hf <;> try (simp at hf;done)
 all_goals simp only [aV] at hv
 all_goals first
  | (rw [J4 hv.ek];rfl)
  | (subst hv;rfl)
  | (obtain ⟨vs,rfl,_⟩:=hv;simp [dQ,Value.cells])
theorem SZ(h:Inv w0 F0 Z0 n s a w ι Z){k:Nat}{p:Place}{cs:List bd}{A:Addr}(hr:mv s k p=some cs)(av:jF s ι p A) :
  ∃b o vs,A=at_ b o∧bN w Z s ι cs vs∧ca w b o vs∧vs.length=k∧(s.o p.id).live∧∀j,j<k→(ι p.id).F b (o+j):=by
 obtain ⟨b,o,vs,rfl,h1,h2,h3⟩:=zv h hr av;refine⟨b,o,vs,rfl,h1,h2,h3,?_⟩;obtain ⟨hs,av⟩:=av;unfold mv at hr
 cases ho:s.o p.id with
 | var ver old=>rw [ho] at hr av;obtain ⟨he,a0,hb,hA⟩:=av;rw [he] at hr;obtain ⟨hle,rfl⟩:=pE hr;have da:=h.f_ p.id;rw [ho] at da;obtain ⟨xa,bK,dP,hsp,hc,cB,hF⟩:=da;rw [hb] at dP;obtain rfl:=aZ dP;simp only [at_,Addr.mk.injEq,and_true] at hA;obtain ⟨rfl,rfl⟩:=hA;refine⟨trivial,fun j hj=>?_⟩;have:=(hF (p.off+j) (by omega)).2;rwa [← Nat.add_assoc] at this
 | row t em ver xs=>
  rw [ho] at hr av;obtain ⟨i,he,hi,a0,hb,hA⟩:=av;rw [he] at hr;obtain ⟨hle,rfl⟩:=pE hr;have da:=h.f_ p.id;rw [ho] at da;obtain ⟨xa,bK,dP,hsp,hc,cB,hl⟩:=RW h ho hi;rcases da with⟨rfl,_⟩ | ⟨a1,hb1,hrow⟩
  ·simp at hi
  rw [hb] at hb1;obtain rfl:=aZ hb1;simp only [at_,Addr.mk.injEq,and_true] at hA;obtain ⟨rfl,rfl⟩:=hA;refine⟨trivial,fun j hj=>?_⟩;have hcl:=hc.len;have JW:(i+1)*t.size≤(ι p.id).cap*t.size:=Nat.mul_le_mul_right _ (by have:=hrow.cap;omega);rw [Nat.add_one_mul] at JW;have:=hrow.inF (i*t.size+p.off+j) (by omega);rwa [show a0.off +(i*t.size+p.off+j)=a0.off+i*t.size+p.off+j by omega] at this
 | none=>rw [ho] at hr;simp at hr
 | dead=>rw [ho] at hr;simp at hr
 | ck=>rw [ho] at hr;simp at hr
def C8(w0:World)(F0 Z0:ai)(n:cO)(s:aq)(a:Act)(w:World)(ι : Nat→bJ)(Z:ai)(key:Nat)(bw:List (Nat×Nat))(ps:List bF)(vs:List a_)(us:List Value)(q:(bF.ins ps).D×aq×List (Nat×Nat)):Prop:=
 ∃F H cI,Inv w0 F0 Z0 n q.2.1 a w ι cI∧fL s ι Z q.2.1 cI∧gH w (cI.or (dt ι q.2.2)) key ps q.1 us F∧e9 true w cI q.2.1 ι ps vs us H∧bM w0 F0 q.2.1 w ι cI F∧bM w0 F0 q.2.1 w ι cI H∧ai.apart F H ∧
  (∃nb,q.2.2=nb++bw)∧(∀d,d∈q.2.2→eE q.2.1 d)∧∀b o,F b o∨H b o→∃id,(s.o id).live∧(ι id).F b o
theorem Kx(h:fL s ι Z au Z'){d:Nat×Nat}(ah:eE s d):eE au d:=(h.et (w:=default)).turns.dep ah
theorem xz{key:Nat}{sp:bF}{ps:List bF}{v:a_}{vs:List a_}{u:Value}{us:List Value}{bw Ky nb:List (Nat×Nat)}{s1:aq}{cI F1 H1:ai}{q:(bF.ins ps).D×aq×List (Nat×Nat)}{x:(bF.ins (sp :: ps)).D}
  (g1:fL s ι Z s1 cI) (f1:bM w0 F0 s1 w ι cI F1) (h1:bM w0 F0 s1 w ι cI H1) (a1:ai.apart F1 H1) (src:∀b o,F1 b o∨H1 b o→∃id,(s.o id).live∧(ι id).F b o) (mI:Ky=nb++bw)
  (hr:C8 w0 F0 Z0 n s1 a w ι cI key Ky ps vs us q)
  (hA:∀(bR dU:ai),ai.sub (cI.or (dt ι Ky)) bR→gH w bR key ps q.1 us dU→ai.apart F1 dU→gH w bR key (sp :: ps) x (u :: us) (F1.or dU))
  (Kv:∀(s2:aq) (bR H2:ai),fL s1 ι cI s2 bR→e9 true w bR s2 ι ps vs us H2→ai.apart H1 H2→e9 true w bR s2 ι (sp :: ps) (v :: vs) (u :: us) (H1.or H2)) :
  C8 w0 F0 Z0 n s a w ι Z key bw (sp :: ps) (v :: vs) (u :: us) (x,q.2):=by
 obtain ⟨dU,H2,bR,i2,g2,cm,k2,f2,h2,a2,⟨JU,jG⟩,d2,s2⟩:=hr;have hap:∀ {X:ai},bM w0 F0 s1 w ι cI X→∀b o,X b o→(dU b o∨H2 b o)→False:=by intro X hX b o hx hh;obtain ⟨id,hl,hf⟩:=s2 b o hh;exact hX.apart id hl b o hx hf
 refine⟨F1.or dU,H1.or H2,bR,i2,g1.trans g2,hA _ _ ?_ cm (fun b o h1 h2=>hap f1 b o h1 (.inl h2)),Kv _ _ _ g2 k2 (fun b o x y=>hap h1 b o x (.inr y)),(f1.uz g2).or f2,(h1.uz g2).or h2,?_,⟨JU++nb,by show q.2.2=_;rw [jG,mI,List.append_assoc]⟩,d2,?_⟩
 ·rintro b o (hz | hz)
  ·exact .inl (g2.dO b o hz)
  ·show bR b o∨dt ι q.2.2 b o;rw [jG];exact .inr (JQ _ _ _ b o hz)
 ·rintro b o (hf | hf) (hh | hh)
  ·exact a1 b o hf hh
  ·exact hap f1 b o hf (.inr hh)
  ·exact hap h1 b o hh (.inl hf)
  ·exact a2 b o hf hh
 ·rintro b o ((hf | hf) | (hf | hf))
  ·exact src b o (.inl hf)
  ·obtain ⟨id,hl,qP⟩:=s2 b o (.inl hf);exact⟨id,(g1.live hl).1,qP⟩
  ·exact src b o (.inr hf)
  ·obtain ⟨id,hl,qP⟩:=s2 b o (.inr hf);exact⟨id,(g1.live hl).1,qP⟩
theorem Kz{sp:bF}{ps:List bF}{v:a_}{vs:List a_}{u:Value}{us:List Value}{H gb:ai}(hsp:(∃t m,sp=.val t m)∨(∃t,sp=.ref t)∨(∃a b,sp=.fn a b)∨∃t,sp=.hS t)(cP:ai.sub H gb)
  (h:e9 true w Z s ι ps vs us H) (hz:gV true w Z s ι w Z s ι H):e9 true w Z s ι (sp :: ps) (v :: vs) (u :: us) gb:=by
 have:=e9.move hz cP ps h;rcases hsp with⟨t,m,rfl⟩ | ⟨t,rfl⟩ | ⟨a,b,rfl⟩ | ⟨t,rfl⟩ <;> exact⟨v,vs,u,us,rfl,rfl,this⟩
theorem KA:∀ {x:List a_} {us:List Value},a8 w Z s ι x us→us.length=x.length
 | [],_,h=>by simp only [a8] at h;rw [h];rfl
 | _ :: _,_,h=>by simp only [a8] at h;obtain ⟨u,aX,rfl,_,h2⟩:=h;simp [KA h2]
theorem qQ{key:Nat} : ∀(ps:List bF) (vs:List a_) (us:List Value) (s:aq) (Z:ai) (bw:List (Nat×Nat)) (q:(bF.ins ps).D×aq×List (Nat×Nat)),gq key s ps vs bw=some q→Inv w0 F0 Z0 n s a w ι Z →
  a8 w Z s ι vs us→(∀d,d∈bw→eE s d)→C8 w0 F0 Z0 n s a w ι Z key bw ps vs us q
 | [],vs,us,s,Z,bw,q,hm,h,hv,hb=>by
  cases vs with
  | cons=>simp [gq] at hm
  | nil=>simp only [gq,Option.some.injEq] at hm;subst hm;simp only [a8] at hv;exact⟨ai.none,ai.none,Z,h,.refl,hv,trivial,.none,.none,fun _ _ h=>h.elim,⟨[],rfl⟩,hb,fun _ _ h=>h.elim (fun h=>h.elim) fun h=>h.elim⟩
 | .fn mu py :: ps,vs,us,s,Z,bw,q,hm,h,hv,hb=>by
  cases vs with
  | nil=>simp [gq] at hm
  | cons v vs=>
   cases v <;> simp only [gq] at hm <;> try (simp at hm;done)
   rename_i g adv Kp;cases aI:(Nat.beq g key&&Nat.beq adv.length mu&&Nat.beq Kp.length py)
   ·rw [aI] at hm;cases hm
   rw [aI] at hm;simp only [Bool.and_eq_true] at aI;obtain ⟨⟨aI,S0⟩,C9⟩:=aI;have aI:=Nat.eq_of_beq_eq_true aI;have S0:=Nat.eq_of_beq_eq_true S0;have C9:=Nat.eq_of_beq_eq_true C9;subst aI;simp only [a8,aV] at hv;obtain ⟨u,aX,rfl,⟨x,y,hx,adw,Sy⟩,ga⟩:=hv;have aq6:=KA adw;have aq7:=KA Sy;obtain ⟨F,H,cI,i1,g1,bH,k1,f1,h1,a1,e8,d1,s1⟩:=qQ ps vs aX s Z bw q hm h ga hb;exact⟨F,H,cI,i1,g1,⟨_,_,aX,by rw [hx],⟨by simp;omega,by simp;omega⟩,bH⟩,⟨_,_,_,_,rfl,rfl,k1⟩,f1,h1,a1,e8,d1,s1⟩
 | .val t m :: ps,vs,us,s,Z,bw,q,hm,h,hv,hb=>by
  cases vs with
  | nil=>simp [gq] at hm
  | cons v vs=>
   simp only [gq] at hm;cases hf:oq t v
   ·rw [hf] at hm;simp at hm
   rw [hf] at hm;simp only [cond_true] at hm
   cases hcs:ja t v with
   | none=>rw [hcs] at hm;simp at hm
   | some cs=>
    rw [hcs] at hm;simp only at hm;obtain ⟨r,hr,hm⟩:=bq hm
    cases ez:r.2.1 with
    | cons=>rw [ez] at hm;simp at hm
    | nil=>
     rw [ez] at hm;simp only at hm;obtain ⟨p,av,hm⟩:=bq hm;obtain rfl:=aZ hm;simp only [a8] at hv;obtain ⟨u,aX,rfl,hu,ga⟩:=hv;obtain ⟨us1,vs1,F1,cI,e1,i1,s1,c1,f1,bH,⟨nb,e8⟩,_,d1,g1⟩:=ae.lW t true m cs s bw r _ Z hr h (sg hcs hu) hb;rw [ez] at c1;have hvs1:vs1=[]:=by cases vs1 with | nil=>rfl | cons=>exact c1.elim
     subst hvs1;rw [List.append_nil] at e1;have hw:=C7 hf hu;rw [e1] at hw;have nI:=qQ ps vs aX r.2.2.1 cI r.2.2.2 p av i1 (a8.move s1.et ga) d1;refine xz s1.mG f1 .none (fun _ _ _ h=>h) (fun b o hf=>hf.elim (g1 b o) fun h=>h.elim) e8 nI ?_ ?_
     ·intro bR dU hZ hA hap;exact⟨us1,aX,F1,dU,by rw [← hw],ae.ar.mono hZ _ _ (fun _ _ h=>h) bH,hA,hap,fun _ _ h=>.inl h,fun _ _ h=>.inr h⟩
     ·intro s2 bR H2 aI hk lu;exact Kz (.inl ⟨_,_,rfl⟩) (fun _ _ h=>.inr h) hk (fL.refl.held H2)
 | .hS t :: ps,vs,us,s,Z,bw,q,hm,h,hv,hb=>by
  cases vs with
  | nil=>simp [gq] at hm
  | cons v vs=>
   simp only [gq] at hm;cases hf:oq t v
   ·rw [hf] at hm;simp at hm
   rw [hf] at hm;simp only [cond_true] at hm
   cases hcs:ja t v with
   | none=>rw [hcs] at hm;simp at hm
   | some cs=>
    rw [hcs] at hm;simp only at hm;obtain ⟨r,hr,hm⟩:=bq hm
    cases ez:r.2.1 with
    | cons=>rw [ez] at hm;simp at hm
    | nil=>
     rw [ez] at hm;simp only at hm;obtain ⟨p,av,hm⟩:=bq hm;obtain rfl:=aZ hm;simp only [a8] at hv;obtain ⟨u,aX,rfl,hu,ga⟩:=hv;obtain ⟨us1,vs1,F1,cI,e1,i1,s1,c1,f1,bH,⟨nb,e8⟩,_,d1,g1⟩:=ae.lW t false .R cs s bw r _ Z hr h (sg hcs hu) hb;rw [ez] at c1;have hvs1:vs1=[]:=by cases vs1 with | nil=>rfl | cons=>exact c1.elim
     subst hvs1;rw [List.append_nil] at e1;have hw:=C7 hf hu;rw [e1] at hw;have nI:=qQ ps vs aX r.2.2.1 cI r.2.2.2 p av i1 (a8.move s1.et ga) d1;refine xz s1.mG f1 .none (fun _ _ _ h=>h) (fun b o hf=>hf.elim (g1 b o) fun h=>h.elim) e8 nI ?_ ?_
     ·intro bR dU hZ hA hap;exact⟨us1,aX,F1,dU,by rw [← hw],ae.ar.mono hZ _ _ (fun _ _ h=>h) bH,hA,hap,fun _ _ h=>.inl h,fun _ _ h=>.inr h⟩
     ·intro s2 bR H2 aI hk lu;exact Kz (.inr (.inr (.inr ⟨_,rfl⟩))) (fun _ _ h=>.inr h) hk (fL.refl.held H2)
 | .hR t m :: ps,vs,us,s,Z,bw,q,hm,h,hv,hb=>by
  cases vs with
  | nil=>simp [gq] at hm
  | cons v vs=>
   simp only [gq] at hm;cases hf:(oq t v&&bl.beq m t.own)
   ·rw [hf] at hm;simp at hm
   rw [hf] at hm;simp only [cond_true] at hm;simp only [Bool.and_eq_true] at hf;obtain ⟨hf,oH⟩:=hf;have oH:=bl.eq_of_beq _ _ oH
   cases hcs:ja t v with
   | none=>rw [hcs] at hm;simp at hm
   | some cs=>
    rw [hcs] at hm;simp only at hm;obtain ⟨r,hr,hm⟩:=bq hm
    cases ez:r.2.1 with
    | cons=>rw [ez] at hm;simp at hm
    | nil=>
     rw [ez] at hm;simp only at hm;obtain ⟨p,av,hm⟩:=bq hm;obtain rfl:=aZ hm;simp only [a8] at hv;obtain ⟨u,aX,rfl,hu,ga⟩:=hv;obtain ⟨c1,us1,vs1,F1,H1,e0,e1,i1,g1,cU,f1,zK,a1,bH,k1,eb⟩:=ae.zJ t m cs s r _ hr h (sg hcs hu);rw [ez] at cU e0;have hvs1:vs1=[]:=by cases vs1 with | nil=>rfl | cons=>exact cU.elim
     subst hvs1;rw [List.append_nil] at e1 e0;subst e0;have hw:=C7 hf hu;have nI:=qQ ps vs aX r.2.2 Z bw p av i1 (a8.move g1.et ga) (fun d ah=>Kx g1 (hb d ah));refine xz (nb:=[]) g1 f1 zK a1 eb rfl nI ?_ ?_
     ·intro bR dU hZ hA hap;exact⟨us1,aX,F1,dU,by rw [← e1,← hw],ae.ar.mono (fun b o hz=>hZ b o (.inl hz)) _ _ (fun _ _ h=>h) bH,hA,hap,fun _ _ h=>.inl h,fun _ _ h=>.inr h⟩
     ·intro s2 bR H2 aI hk lu;refine⟨v,vs,u,aX,cs,H1,H2,rfl,rfl,hcs,oH,?_,hk,lu,fun _ _ h=>.inl h,fun _ _ h=>.inr h⟩;rw [e1];exact c9.move (aI.held H1) (fun _ _ h=>h) t m k1
 | .ref t :: ps,vs,us,s,Z,bw,q,hm,h,hv,hb=>by
  cases vs with
  | nil=>simp [gq] at hm
  | cons v vs=>
   simp only [a8] at hv;obtain ⟨u,aX,rfl,hu,ga⟩:=hv
   have go:∀(cs:List bd) (ns:List (Nat×Nat)) (b o:Nat) (ws:List Value),bN w Z s ι cs ws→ca w b o ws→ws.length=t.size→u=.pointer (some (at_ b o))→(∃nb,ns=nb++bw)→(∀d,d∈ns→eE s d) →
     (∀j,j<t.size→Z.or (dt ι ns) b (o+j)) →
     ((t.imp true .R cs s ns).bind fun r=>match r.2.1 with | []=>(gq key r.2.2.1 ps vs r.2.2.2).bind fun q=>some ((r.1,q.1),q.2) | _=>none)=some q→C8 w0 F0 Z0 n s a w ι Z key bw (.ref t :: ps) (v :: vs) (u :: aX) q:=by
    intro cs ns b o ws pJ cB um jH ⟨adx,ady⟩ adz hin hm;obtain ⟨r,hr,hm⟩:=bq hm
    cases ez:r.2.1 with
    | cons=>rw [ez] at hm;simp at hm
    | nil=>
     rw [ez] at hm;simp only at hm;obtain ⟨p,av,hm⟩:=bq hm;obtain rfl:=aZ hm;obtain ⟨us1,vs1,F1,cI,e1,i1,s1,c1,f1,bH,⟨nb,e8⟩,_,d1,g1⟩:=ae.lW t true .R cs s ns r _ Z hr h pJ adz;rw [ez] at c1;have hvs1:vs1=[]:=by cases vs1 with | nil=>rfl | cons=>exact c1.elim
     subst hvs1;rw [List.append_nil] at e1;subst e1;have nI:=qQ ps vs aX r.2.2.1 cI r.2.2.2 p av i1 (a8.move s1.et ga) d1;refine xz (nb:=nb++adx) s1.mG .none .none (fun _ _ h=>h.elim) (fun b o hf=>hf.elim (fun h=>h.elim) fun h=>h.elim) (by rw [e8,ady,List.append_assoc]) nI ?_ ?_
     ·intro bR dU hZ hA hap;refine⟨b,o,ws,aX,by rw [jH],cB,ae.ar.mono hZ _ _ (fun _ _ h=>h) (r_ bH),fun j hj=>hZ _ _ ?_,gH.mono (fun _ _ h=>h) ps (fun _ _ h=>.inr h) hA⟩;rcases hin j hj with hz | hz
      ·exact .inl (s1.dO _ _ hz)
      ·rw [e8];exact .inr (JQ _ _ _ _ _ hz)
     ·intro s2 bR H2 aI hk lu;exact Kz (.inr (.inl ⟨_,rfl⟩)) (fun _ _ h=>.inr h) hk (fL.refl.held H2)
   cases v <;> simp only [gq] at hm <;> try (simp at hm;done)
   ·rename_i p
    cases hr:mv s t.size p with
    | none=>rw [hr] at hm;simp at hm
    | some cs=>
     rw [hr] at hm;simp only [aV] at hu;obtain ⟨hk,A,hu,av⟩:=hu;obtain ⟨b,o,ws,rfl,h1,h2,h3,h4,a'⟩:=SZ h hr av;refine go cs ((p.id,kG s p.id) :: bw) b o ws h1 h2 h3 hu ⟨[_],rfl⟩ ?_ (fun j hj=>.inr ⟨_,List.mem_cons_self,a' j hj⟩) hm;intro d ah;rcases List.mem_cons.1 ah with rfl | ah
     ·exact⟨hk,.inr (Nat.le_refl _)⟩
     ·exact hb d ah
   ·rename_i dp cs off
    cases ht:takeN off t.size cs with
    | none=>rw [ht] at hm;simp at hm
    | some ds=>
     rw [ht] at hm;simp only at hm;cases dB:alive s dp
     ·rw [dB] at hm;simp at hm
     rw [dB] at hm;simp only [cond_true] at hm;obtain ⟨hle,rfl⟩:=pE ht;simp only [aV] at hu;obtain ⟨ah,b,o,ws,hu,hx⟩:=hu;obtain ⟨h1,h2,h3⟩:=hx dB;have hl:=h1.len;refine go _ (dp++bw) b (o+off) ((ws.drop off).take t.size) ((h1.drop off).take _) (h2.part off _) (by simp;omega) hu ⟨dp,rfl⟩ ?_ ?_ hm
     ·intro d ig;rcases List.mem_append.1 ig with h | h
      ·exact ah d h
      ·exact hb d h
     ·intro j hj;have:=h3 (off+j) (by omega);rw [← Nat.add_assoc] at this;rcases this with hz | ⟨d,ah,hf⟩
      ·exact .inl hz
      ·exact .inr ⟨d,List.mem_append.2 (.inl ah),hf⟩
 | .mut t m m' :: ps,vs,us,s,Z,bw,q,hm,h,hv,hb=>by
  cases vs with
  | nil=>simp [gq] at hm
  | cons v vs=>
   simp only [a8] at hv;obtain ⟨u,aX,rfl,hu,ga⟩:=hv;cases v <;> simp only [gq] at hm <;> try (simp at hm;done)
   rename_i p;simp only [aV] at hu;obtain ⟨hk,A,hu,av⟩:=hu;obtain ⟨aq8,av⟩:=av
   cases ho:s.o p.id with
   | none=>rw [ho] at hm;simp at hm
   | dead=>rw [ho] at hm;simp at hm
   | ck=>rw [ho] at hm;simp at hm
   | var ver old=>
    rw [ho] at hm av;obtain ⟨he,a0,eL,hA⟩:=av;rw [he] at hm;simp only at hm
    cases ht:takeN p.off t.size old with
    | none=>rw [ht] at hm;simp at hm
    | some cs=>
     rw [ht] at hm;simp only at hm;obtain ⟨hle,rfl⟩:=pE ht;obtain ⟨r,hr,hm⟩:=bq hm
     cases ez:r.2.1 with
     | cons=>rw [ez] at hm;simp at hm
     | nil=>
      rw [ez] at hm;simp only at hm;obtain ⟨KB,hq,hm⟩:=bq hm;obtain rfl:=aZ hm;have cj:(s.o p.id).live:=by rw [ho];trivial
      have aI:fL s ι Z (s.bV p.id (.ck (.var ver old))) Z:=by have:=zG (s:=s) (ι := ι) (Z:=Z) cj;rw [ho] at this;exact this
      have fs:bM w0 F0 (s.bV p.id (.ck (.var ver old))) w ι Z (ι p.id).F:=by have:=h.zH cj;rw [ho] at this;exact this
      have da:=h.f_ p.id;rw [ho] at da;obtain ⟨⟨b,o,sp⟩,ws,dP,hsp,hc,cB,hF⟩:=da;simp only at hsp;subst hsp;rw [eL] at dP;obtain rfl:=aZ dP;have hl:=hc.len;have mH:(s.bV p.id (.ck (.var ver old))).o p.id=.ck (.var ver old):=cN _ _ _;have S1:=hc.move aI.et;obtain ⟨us1,vs1,F1,cI,e1,i1,s1,c1,f1,bH,⟨nb,e8⟩,_,d1,g1⟩:=ae.lW t true m _ _ bw r _ Z hr (h.mG aI) ((S1.drop p.off).take t.size) (fun d ah=>Kx aI (hb d ah));rw [ez] at c1;have hvs1:vs1=[]:=by cases vs1 with | nil=>rfl | cons=>exact c1.elim
      subst hvs1;rw [List.append_nil] at e1;have nI:=qQ ps vs aX r.2.2.1 cI r.2.2.2 KB hq i1 (a8.move s1.et (a8.move aI.et ga)) d1;have zt:=aI.trans s1.mG
      have hrun:ai.sub (ai.run b (o+p.off) t.size) (ι p.id).F:=by
       rintro b' o' ⟨rfl,h1,h2⟩
       have:=(hF (o'-o) (by omega)).2;simp only at this;rwa [show o +(o'-o)=o' by omega] at this
      have S2:=fs.shrink s1;have S3:ai.apart F1 (ι p.id).F:=by intro b o h1 h2;obtain ⟨id,hl,hf⟩:=g1 b o h1;exact fs.apart id hl b o h2 hf
      refine xz (F1:=F1.or (ai.run b (o+p.off) t.size)) (H1:=ai.diff (ι p.id).F (ai.run b (o+p.off) t.size)) zt (f1.or (S2.sub hrun)) (S2.sub fun _ _ h=>h.1) ?_ ?_ e8 nI ?_ ?_
      ·rintro b o (hf | hf) hh
       ·exact S3 b o hf hh.1
       ·exact hh.2 hf
      ·rintro b' o' ((hf | hf) | hh)
       ·obtain ⟨id,hl,qP⟩:=g1 b' o' hf;exact⟨id,(aI.live hl).1,qP⟩
       ·exact⟨p.id,cj,hrun b' o' hf⟩
       ·exact⟨p.id,cj,hh.1⟩
      ·intro bR dU hZ pP hap;refine⟨b,o+p.off,us1,aX,F1,dU,by rw [hu,hA],?_,?_,ae.ar.mono hZ _ _ (fun _ _ h=>h) bH,pP,hap,fun b o h1 h2=>S3 b o h1 (hrun b o h2),fun _ _ h=>.inl h,fun _ _ h=>.inr h⟩
       ·rw [← e1];exact cB.part p.off t.size
       ·intro j hj;have:=(hF (p.off+j) (by omega)).1;rwa [← Nat.add_assoc] at this
      ·intro s2 bR H2 KC hkk lu;refine⟨p,vs,u,aX,_,H2,rfl,rfl,.inl ?_,hkk,lu,fun _ _ h=>.inl h,fun _ _ h=>.inr h⟩;refine xv.move ((s1.mG.trans KC).held (ai.diff (ι p.id).F (ai.run b (o+p.off) t.size))) (fun _ _ h=>h) ?_;refine⟨ver,old,b,o,ws,fun _=>by rw [mH];exact fun h=>h,fun eK b1=>by rw [mH] at b1;exact⟨(cE.ck.inj b1).symm,eL⟩,he,by rw [hu,hA],hle,S1,fun j hj=>(hF j hj).1,fun j hj hh=>⟨(hF j hj).2,?_⟩,fun j v hv hh=>cB j v hv⟩
       rintro ⟨_,h1,h2⟩
       omega
   | row gW em ver xs=>
    rw [ho] at hm av;obtain ⟨i,he,hi,a0,eL,hA⟩:=av;rw [he] at hm;simp only at hm;cases C_:(Nat.beq p.off 0&&bl.beq em m&&bl.beq m' em&&bl.beq m t.own)
    ·rw [C_] at hm;simp at hm
    rw [C_] at hm;simp only [Bool.and_eq_true] at C_;obtain ⟨⟨⟨hc1,hc2⟩,zL⟩,KD⟩:=C_;have KD:=bl.eq_of_beq _ _ KD;have hc1:=Nat.eq_of_beq_eq_true hc1;have hc2:=bl.eq_of_beq _ _ hc2;have zL:=bl.eq_of_beq _ _ zL;subst hc2;subst zL;simp only [cond_true] at hm;obtain ⟨x,hx,hm⟩:=bq hm;obtain ⟨e1,rfl⟩:=Cz hx;subst e1;obtain ⟨KB,hq,hm⟩:=bq hm;obtain rfl:=aZ hm;have cj:(s.o p.id).live:=by rw [ho];trivial
    have aI:fL s ι Z (s.bV p.id (.ck (.row gW m' ver xs))) Z:=by have:=zG (s:=s) (ι := ι) (Z:=Z) cj;rw [ho] at this;exact this
    have fs:bM w0 F0 (s.bV p.id (.ck (.row gW m' ver xs))) w ι Z (ι p.id).F:=by have:=h.zH cj;rw [ho] at this;exact this
    have da:=h.f_ p.id;rw [ho] at da;rcases da with⟨rfl,_⟩ | ⟨⟨b,o,sp⟩,dP,hrow⟩
    ·simp at hi
    have hsp:=hrow.spot;simp only at hsp;subst hsp;rw [eL] at dP;obtain rfl:=aZ dP;obtain ⟨G,g1,g2,g3⟩:=hrow.row;obtain ⟨G1,jj,G2,ws,k1,k2,k3,bg,bx,du,dq,df,eY,dC,cL⟩:=g1.C1 i hi;have mH:(s.bV p.id (.ck (.row gW m' ver xs))).o p.id=.ck (.row gW m' ver xs):=cN _ _ _;have hcap:(i+1)*gW.size≤(ι p.id).cap*gW.size:=Nat.mul_le_mul_right _ (by have:=hrow.cap;omega);rw [Nat.add_one_mul] at hcap
    have hrun:ai.sub (ai.run b (o+i*gW.size) gW.size) (ι p.id).F:=by
     rintro b' o' ⟨rfl,h1,h2⟩
     have:=hrow.inF (o'-o) (by omega);simp only at this;rwa [show o +(o'-o)=o' by omega] at this
    have C':∀ {X:ai},ai.sub X G→∀j,j<(ι p.id).cap*gW.size→¬X b (o+j):=fun hX j hj hh=>g2 j hj (hX _ _ hh)
    have sr:∀ {X:ai},ai.sub X G→ai.apart X (ai.run b (o+i*gW.size) gW.size):=by
     rintro X hX b' o' hx ⟨rfl,h1,h2⟩
     have:=C' hX (o'-o) (by omega);rw [show o +(o'-o)=o' by omega] at this;exact this hx
    have nI:=qQ ps vs aX _ Z bw KB hq (h.mG aI) (a8.move aI.et ga) (fun d ah=>Kx aI (hb d ah));have S4:ai.sub (jj.or (ai.run b (o+i*gW.size) gW.size)) (ι p.id).F:=fun b o h=>h.elim (fun h=>g3 b o (dC b o h)) (hrun b o)
    have jH:u=.pointer (some (at_ b (o+i*gW.size))):=by rw [hu,hA,hc1];rfl
    refine xz (nb:=[]) (F1:=jj.or (ai.run b (o+i*gW.size) gW.size)) (H1:=ai.diff (ι p.id).F (jj.or (ai.run b (o+i*gW.size) gW.size))) aI (fs.sub S4) (fs.sub fun _ _ h=>h.1) (fun b o h1 h2=>h2.2 h1) ?_ rfl nI ?_ ?_
    ·rintro b' o' (hf | hf)
     ·exact⟨p.id,cj,S4 b' o' hf⟩
     ·exact⟨p.id,cj,hf.1⟩
    ·intro bR dU hZ pP hap;refine⟨b,o+i*gW.size,ws,aX,jj,dU,by rw [jH],bg,fun j hj=>?_,?_,pP,hap,sr dC,fun _ _ h=>.inl h,fun _ _ h=>.inr h⟩
     ·have:=(hrow.wr (i*gW.size+j) (by omega)).1;rwa [← Nat.add_assoc] at this
     ·rw [c0 hi];exact ae.ar.mono (fun b o hz=>hZ b o (.inl hz)) _ _ (fun _ _ h=>h) k2
    ·intro s2 bR H2 KC hkk lu;refine⟨p,vs,u,aX,_,H2,rfl,rfl,.inr ⟨rfl,KD,?_⟩,hkk,lu,fun _ _ h=>.inl h,fun _ _ h=>.inr h⟩;refine xw.move (KC.held (ai.diff (ι p.id).F (jj.or (ai.run b (o+i*gW.size) gW.size)))) (fun _ _ h=>h) ?_;refine⟨ver,xs,i,b,o,_,G1,G2,fun _=>by rw [mH];exact fun h=>h,fun eK b1=>by rw [mH] at b1;exact⟨(cE.ck.inj b1).symm,eL,rfl⟩,he,hi,jH,hrow.cap,hrow.wr,fun j hj hh=>⟨hrow.inF j hj,?_⟩,k1,bx,dq,fun b o aI=>⟨g3 b o (eY b o aI),?_⟩,fun b o aI=>⟨g3 b o (cL b o aI),?_⟩,fun j hj=>⟨C' eY j hj,C' cL j hj⟩⟩
     ·rintro (adA | ⟨_,h1,h2⟩)
      ·exact C' dC j hj adA
      ·rw [Nat.add_one_mul] at hh;omega
     ·rintro (hh | hh)
      ·exact du b o aI hh
      ·exact sr eY b o aI hh
     ·rintro (hh | hh)
      ·exact df b o hh aI
      ·exact sr cL b o aI hh
end
end Go.LM
namespace Go.LM
section
variable{P:Program}{Q:Exit→Act→World→Prop}
variable{g:Bool}{w0:World}{F0 Z0:ai}{n:cO}{s au:aq}{a cg:Act}{w w' ch:World}{ι bp eJ:Nat→bJ}{Z Z' bR:ai}
theorem gV.trans{s2:aq}{H:ai}(h:gV g w Z s ι w' Z' au bp H)(k:gV g w' Z' au bp ch bR s2 eJ H):gV g w Z s ι ch bR s2 eJ H:=by
 refine⟨fun x v hx=>k.az x v (h.az x v hx),fun c v hc=>k.cell c v (h.cell c v hc),fun b o hz=>k.dO b o (h.dO b o hz),fun id o' hn ho=>?_,fun aI id hn=>k.nl aI id (h.nl aI id hn),h.same.trans k.same,h.C3.trans ?_,fun b o hw=>k.wr b o (h.wr b o hw),fun z b o hw=>k.zI z b o (h.zI z b o hw)⟩
 ·obtain ⟨h1,h2⟩:=k.ck id o' (fun aI=>h.nl aI id (hn aI)) ho;obtain ⟨h3,h4⟩:=h.ck id o' hn h1;exact⟨h3,h2.trans h4⟩
 ·exact k.C3.mono h.dO
theorem Inv.adB(h:Inv w0 F0 Z0 n s a w ι Z){id:Nat}{o:cE}{i:bJ}(hnl:¬(s.o id).live)(ht:jf (s.o id) (ι id) o i)
  (cV:eR w Z s ι w Z (s.bV id o) (bZ ι id i)→ie w Z (s.bV id o) (bZ ι id i) i o) (hF:bM w0 F0 s w ι Z i.F) :
  Inv w0 F0 Z0 n (s.bV id o) a w (bZ ι id i) Z∧eR w Z s ι w Z (s.bV id o) (bZ ι id i):=by
 have hm:eR w Z s ι w Z (s.bV id o) (bZ ι id i):=by
  refine⟨fun j=>?_,fun _ _ h=>h,cd.refl _ _⟩;show jf (s.o j) (ι j) (bZ s.o id o j) (bZ ι id i j);by_cases hj:id=j
  ·subst hj;rw [cN,cN];exact ht
  ·rw [cZ hj,cZ hj];exact .stay _ _
 refine⟨?_,hm⟩;refine h.next hm (Ext.refl _ ai.none) (fun _ _ h=>h.elim) (fun _ _ h=>.inl h) ?_ ?_ (fun k=>(h.tmps k).move hm) h.size h.defers
 ·intro j hl hne;by_cases hj:id=j
  ·subst hj;rw [cN];refine⟨by show ie _ _ _ _ _ (bZ s.o id o id);rw [cN];exact cV hm,hF.own,fun lj gu j2=>?_⟩;rw [cZ j2];have d':(s.o lj).live:=by have:(bZ s.o id _ lj).live:=gu;rwa [cZ j2] at this
   exact hF.apart lj d'
  ·exact absurd ⟨cZ hj,cZ hj⟩ hne
 ·intro j hl;by_cases hj:id=j
  ·subst hj;rw [cN];exact hF.dd
  ·rw [cZ hj];have d':(s.o j).live:=by have:(bZ s.o id _ j).live:=hl;rwa [cZ hj] at this
   exact h.dd j d'
def oI(w0:World)(F0 Z0:ai)(n:cO)(s:aq)(a:Act)(w:World)(ι : Nat→bJ)(Z:ai)(au:aq)(eT:ai):Prop:=
 ∃ bp,Inv w0 F0 Z0 n au a w bp Z∧gV false w Z s ι w Z au bp (fun _ _=>True)∧(∀X,bM w0 F0 s w ι Z X→ai.apart X eT→bM w0 F0 au w bp Z X)∧∀id,(s.o id).live→au.o id=s.o id ∧ bp id = ι id
theorem uB(h:Inv w0 F0 Z0 n s a w ι Z)(eT:ai):oI w0 F0 Z0 n s a w ι Z s eT:=
 ⟨ι,h,⟨fun _ _ h=>h,fun _ _ h=>h,fun _ _ h=>h,fun _ _ _ h=>⟨h,rfl⟩,fun h=>by simp at h,cd.refl _ _,cd.refl _ _,fun _ _ h=>h,fun _ _ _ h=>h⟩,fun _ h _=>h,fun _ _=>⟨rfl,rfl⟩⟩
theorem KE(h:Inv w0 F0 Z0 n s a w ι Z){id:Nat}{o:cE}{i:bJ}(hnl:¬(s.o id).live)(ho:∀o',o≠.ck o')(ht:jf (s.o id) (ι id) o i)
  (cV:eR w Z s ι w Z (s.bV id o) (bZ ι id i)→ie w Z (s.bV id o) (bZ ι id i) i o) (hF:bM w0 F0 s w ι Z i.F) :
  Inv w0 F0 Z0 n (s.bV id o) a w (bZ ι id i) Z∧gV false w Z s ι w Z (s.bV id o) (bZ ι id i) (fun _ _=>True)∧(∀X,bM w0 F0 s w ι Z X→ai.apart X i.F→bM w0 F0 (s.bV id o) w (bZ ι id i) Z X) ∧
  ∀j,(s.o j).live→(s.bV id o).o j=s.o j∧bZ ι id i j = ι j:=by
 obtain ⟨h1,hm⟩:=h.adB hnl ht cV hF;refine⟨h1,⟨fun _ _=>aV.move hm,fun _ _=>cw.move hm,fun _ _ h=>h,fun j o' _ hj=>?_,fun h=>by simp at h,cd.refl _ _,cd.refl _ _,fun _ _ h=>h,fun _ _ _ h=>h⟩,fun X hX ha=>⟨hX.own,fun j hl=>?_,hX.dd⟩,fun j hl=>?_⟩
 ·have hj':bZ s.o id o j=.ck o':=hj;by_cases hne:id=j
  ·subst hne;rw [cN] at hj';exact absurd hj' (ho o')
  ·rw [cZ hne] at hj';exact⟨hj',cZ hne⟩
 ·by_cases hne:id=j
  ·subst hne;rw [cN];exact ha
  ·rw [cZ hne];have d':(s.o j).live:=by have:(bZ s.o id _ j).live:=hl;rwa [cZ hne] at this
   exact hX.apart j d'
 ·have hne:id≠j:=fun e=>hnl (e ▸ hl)
  exact⟨cZ hne,cZ hne⟩
theorem zM(h:Inv w0 F0 Z0 n s a w ι Z){id:Nat}{o:cE}{i:bJ}(hnl:¬(s.o id).live)(ho:∀o',o≠.ck o')(ht:jf (s.o id) (ι id) o i)
  (cV:eR w Z s ι w Z (s.bV id o) (bZ ι id i)→ie w Z (s.bV id o) (bZ ι id i) i o) (hF:bM w0 F0 s w ι Z i.F):oI w0 F0 Z0 n s a w ι Z (s.bV id o) i.F:=⟨_,KE h hnl ho ht cV hF⟩
mutual
theorem c9.len:∀(t:ae) (m:bl) {cs:List bd} {vs:List Value} {H:ai},c9 g w Z s ι t m cs vs H→vs.length=t.size
 | .int _,_,_,_,_,hk=>by simp only [c9] at hk;rw [hk.2];rfl
 | .bool,_,_,_,_,hk=>by simp only [c9] at hk;rw [hk.2];rfl
 | .str,_,_,_,_,hk=>by simp only [c9] at hk;rw [hk.2];rfl
 | .raw,_,_,_,_,hk=>by simp only [c9] at hk;rw [hk.2];rfl
 | .sl t,.R,_,_,_,hk=>by simp only [c9] at hk
 | .sl t,.S _,_,_,_,hk=>by simp only [c9] at hk
 | .sl t,.O e,_,_,_,hk=>by simp only [c9] at hk;obtain ⟨c,v,_,rfl,_⟩:=hk;rfl
 | .st ak,m,_,_,_,hk=>by simp only [c9] at hk;simpa only [ae.size] using fO.len ak m.parts hk
theorem fO.len:∀(ak:aC) (m:c4) {cs:List bd} {vs:List Value} {H:ai},fO g w Z s ι ak m cs vs H→vs.length=ak.size
 | .nil,_,_,_,_,hk=>by simp only [fO] at hk;rw [hk.2];rfl
 | .cons t ak,m,_,_,_,hk=>by simp only [fO] at hk;obtain ⟨c1,gR,v1,v2,H1,H2,_,rfl,h1,h2,_⟩:=hk;rw [List.length_append,c9.len t m.ah h1,fO.len ak m.dF h2];rfl
end
mutual
theorem ae.zN:∀(t:ae) (m:bl) (x:t.D) (c1 rest:List bd) (s:aq) (ι : Nat→bJ) (r:List bd×aq) (us:List Value) (F H:ai),t.back x (c1++rest) s=some r→Inv w0 F0 Z0 n s a w ι Z →
  c9 false w Z s ι t m c1 us H→t.ar w Z m x us F→bM w0 F0 s w ι Z F→bM w0 F0 s w ι Z H→ai.apart F H→r.1=rest∧oI w0 F0 Z0 n s a w ι Z r.2 (F.or H)
 | .int k,m,x,c1,rest,s,ι,r,us,F,H,hb,h,hk,hr,hF,cP,ha=>by
  simp only [c9] at hk;obtain ⟨hk,_⟩:=hk
  match c1,hk with
  | [c],_=>simp only [ae.back,List.cons_append,List.nil_append,Option.some.injEq] at hb;subst hb;exact⟨rfl,uB h _⟩
 | .bool,m,x,c1,rest,s,ι,r,us,F,H,hb,h,hk,hr,hF,cP,ha=>by
  simp only [c9] at hk;obtain ⟨hk,_⟩:=hk
  match c1,hk with
  | [c],_=>simp only [ae.back,List.cons_append,List.nil_append,Option.some.injEq] at hb;subst hb;exact⟨rfl,uB h _⟩
 | .str,m,x,c1,rest,s,ι,r,us,F,H,hb,h,hk,hr,hF,cP,ha=>by
  simp only [c9] at hk;obtain ⟨hk,_⟩:=hk
  match c1,hk with
  | [c],_=>simp only [ae.back,List.cons_append,List.nil_append,Option.some.injEq] at hb;subst hb;exact⟨rfl,uB h _⟩
 | .raw,m,x,c1,rest,s,ι,r,us,F,H,hb,h,hk,hr,hF,cP,ha=>by
  simp only [c9] at hk;obtain ⟨hk,_⟩:=hk
  match c1,hk with
  | [c],_=>simp only [ae.back,List.cons_append,List.nil_append,Option.some.injEq] at hb;subst hb;exact⟨rfl,uB h _⟩
 | .sl t,.R,x,c1,rest,s,ι,r,us,F,H,hb,h,hk,hr,hF,cP,ha=>by simp only [c9] at hk
 | .sl t,.S _,x,c1,rest,s,ι,r,us,F,H,hb,h,hk,hr,hF,cP,ha=>by simp only [c9] at hk
 | .sl t,.O e,x,c1,rest,s,ι,r,us,F,H,hb,h,hk,hr,hF,cP,ha=>by
  simp only [c9] at hk;obtain ⟨c,v,rfl,rfl,hk⟩:=hk
  cases c with
  | nil u=>simp only [ae.back,List.cons_append,List.nil_append,Option.some.injEq] at hb;subst hb;exact⟨rfl,uB h _⟩
  | ah id sub=>
   cases sub with
   | some=>exact hk.elim
   | none=>
    simp only at hk;obtain ⟨ver,xs,A,k,so,_,hl,hv,hk⟩:=hk;simp only [ae.back,List.cons_append,List.nil_append] at hb
    cases ho:s.o id with
    | ck eK=>
     rw [ho] at hb;obtain ⟨rfl,hcap,hh⟩:=hl eK ho;simp only at hb;obtain ⟨y,aT,hb2⟩:=bq hb;obtain ⟨e1,uC⟩:=hp aT;have uC:x=y:=uC.symm;subst uC;obtain rfl:=aZ hb2;refine⟨rfl,?_⟩;simp only [ae.ar] at hr;obtain ⟨nx,k',lV,hr⟩:=hr;rw [hv] at lV;simp only [List.cons.injEq,Value.slice.injEq,and_true] at lV;obtain ⟨rfl,hlen,rfl⟩:=lV;have l5:=zM h (id:=id) (o:=.row t e (ver+1) x) (i:=⟨(ι id).base,(ι id).cap,F.or H⟩) (by rw [ho];exact fun h=>h) (fun o'=>by simp) (by rw [ho];exact .sb _ _ _ _ _ _ _ _ _ (by omega) hlen.symm rfl rfl) ?_ (hF.or cP)
     ·exact l5
     intro hm;rcases hk with⟨rfl,jl⟩ | ⟨b,o,eL,KF,adt,hA,hwr,hV⟩
     ·left;refine⟨List.eq_nil_of_length_eq_zero (by rw [← hlen];rfl),?_⟩;show(ι id).cap=0;rw [hcap,jl]
     ·right;refine⟨at_ b o,eL _ ho,?_⟩;rcases hr with⟨rfl,rfl⟩ | ⟨⟨b',o',sp⟩,pP,hr⟩
      ·refine⟨rfl,Nat.zero_le _,?_,?_,ai.none,trivial,fun _ _ h=>h,fun _ _ h=>h.elim⟩
       ·show ∀j,j<(ι id).cap*t.size→_
        rw [hcap];exact hwr
       ·show ∀j,j<(ι id).cap*t.size→_
        rw [hcap];exact fun j hj=>.inr (hV j (by omega) hj)
      ·have hx0:=hr.cap;by_cases hk0:k=0
       ·subst hk0;have:x=[]:=List.eq_nil_of_length_eq_zero (by omega);subst this;refine⟨rfl,Nat.zero_le _,?_,?_,ai.none,trivial,fun _ _ h=>h,fun _ _ h=>h.elim⟩
        ·show ∀j,j<(ι id).cap*t.size→_
         rw [hcap];exact hwr
        ·show ∀j,j<(ι id).cap*t.size→_
         rw [hcap];exact fun j hj=>.inr (hV j (by omega) hj)
       ·have hA:=hA.resolve_left hk0;rw [pP] at hA;simp only [at_,Option.some.injEq,Addr.mk.injEq] at hA;obtain ⟨rfl,rfl,rfl⟩:=hA;obtain ⟨G,g1,g2,g3⟩:=hr.row;refine⟨rfl,?_,?_,?_,G,g1,?_,fun b o aI=>.inl (g3 b o aI)⟩
        ·show x.length≤(ι id).cap;rw [hcap,← hlen];exact KF
        ·show ∀j,j<(ι id).cap*t.size→_
         rw [hcap];exact hwr
        ·show ∀j,j<(ι id).cap*t.size→_
         rw [hcap];intro j hj;by_cases l6:j<k*t.size
         ·exact .inl (hr.inF j l6)
         ·exact .inr (hV j (by omega) hj)
        ·show ∀j,j<(ι id).cap*t.size→_
         rw [hcap];intro j hj aI;by_cases l6:j<k*t.size
         ·exact g2 j l6 aI
         ·exact ha _ _ (g3 _ _ aI) (hV j (by omega) hj)
    | _=>rw [ho] at hb;simp at hb
  | bY u dp cJ xs=>
   simp only at hk;obtain ⟨p,i,T,ver,ys,b,o,so,rfl,ff,_,hl,lr,rfl,adC⟩:=hk;simp only [ae.back,List.cons_append,List.nil_append] at hb;obtain ⟨s1,l2,hb2⟩:=bq hb;obtain rfl:=aZ hb2;simp only [wX,ff] at l2
   cases ho:s.o p.id with
   | ck eK=>
    rw [ho] at l2;obtain ⟨rfl,eL,hcap⟩:=hl eK ho;simp only at l2;obtain ⟨z,hz,l2⟩:=bq l2;obtain rfl:=aZ l2;refine⟨rfl,?_⟩
    exact zM h (id:=p.id) (o:=.row T T.own (ver+1) (ys.set i z)) (i:=⟨(ι p.id).base,(ι p.id).cap,F.or H⟩) (by rw [ho];exact fun h=>h) (fun o'=>by simp) (by rw [ho];exact .sb _ _ _ _ _ _ _ _ _ (by omega) (by simp) rfl rfl)
     (fun hm=>.inr ⟨at_ b o,eL,by
      have:=adC w Z F x z (cd.refl _ _) hr ha hz;rw [← hcap] at this
      exact this⟩) (hF.or cP)
   | _=>rw [ho] at l2;simp at l2
  | _=>exact hk.elim
 | .st ak,m,x,c1,rest,s,ι,r,us,F,H,hb,h,hk,hr,hF,cP,ha=>by simp only [ae.back] at hb;simp only [c9] at hk;simp only [ae.ar] at hr;exact aC.zN ak m.parts x c1 rest s ι r us F H hb h hk hr hF cP ha
theorem aC.zN:∀(ak:aC) (m:c4) (x:ak.D) (c1 rest:List bd) (s:aq) (ι : Nat→bJ) (r:List bd×aq) (us:List Value) (F H:ai),ak.back x (c1++rest) s=some r→Inv w0 F0 Z0 n s a w ι Z →
  fO false w Z s ι ak m c1 us H→ak.ar w Z m x us F→bM w0 F0 s w ι Z F→bM w0 F0 s w ι Z H→ai.apart F H→r.1=rest∧oI w0 F0 Z0 n s a w ι Z r.2 (F.or H)
 | .nil,m,x,c1,rest,s,ι,r,us,F,H,hb,h,hk,hr,hF,cP,ha=>by simp only [fO] at hk;obtain ⟨rfl,rfl⟩:=hk;simp only [aC.back,List.nil_append,Option.some.injEq] at hb;subst hb;exact⟨rfl,uB h _⟩
 | .cons t ak,m,x,c1,rest,s,ι,r,us,F,H,hb,h,hk,hr,hF,cP,ha=>by
  simp only [fO] at hk;obtain ⟨d1,d2,v1,v2,H1,H2,rfl,rfl,k1,k2,lu,jm,hV⟩:=hk;simp only [aC.ar] at hr;obtain ⟨us1,us2,G1,G2,he,bH,cm,pQ,fk,hH⟩:=hr;have hlen:v1.length=us1.length:=by rw [c9.len t m.ah k1,(ae.ar.len t m.ah bH).1]
  obtain ⟨rfl,rfl⟩:=List.append_inj he hlen;simp only [aC.back,List.append_assoc] at hb;obtain ⟨q,hq,hb⟩:=bq hb;obtain ⟨e1,dH,i1,su,fP,zO⟩:=ae.zN t m.ah x.1 d1 (d2++rest) s ι q v1 G1 H1 hq h k1 bH (hF.sub fk) (cP.sub jm) (fun b o h1 h2=>ha b o (fk b o h1) (jm b o h2));rw [e1] at hb
  obtain ⟨e2,eJ,i2,nJ,mJ,nK⟩:=aC.zN ak m.dF x.2 d2 rest q.2 dH r v2 G2 H2 hb i1 (fO.move (su.mono fun _ _ _=>trivial) (fun _ _ h=>h) ak m.dF k2) cm
   (fP G2 (hF.sub hH) (by rintro b o h1 (h2 | h2);exact pQ b o h2 h1;exact ha b o (hH b o h1) (jm b o h2)))
   (fP H2 (cP.sub hV) (by rintro b o h1 (h2 | h2);exact ha b o (fk b o h2) (hV b o h1);exact lu b o h2 h1))
   (fun b o h1 h2=>ha b o (hH b o h1) (hV b o h2))
  refine⟨e2,eJ,i2,su.trans nJ,fun X hX fQ=>mJ X (fP X hX ?_) ?_,fun id hl=>?_⟩
  ·rintro b o h1 (h2 | h2)
   ·exact fQ b o h1 (.inl (fk b o h2))
   ·exact fQ b o h1 (.inr (jm b o h2))
  ·rintro b o h1 (h2 | h2)
   ·exact fQ b o h1 (.inl (hH b o h2))
   ·exact fQ b o h1 (.inr (hV b o h2))
  ·obtain ⟨ea,e7⟩:=zO id hl;obtain ⟨fF,hy⟩:=nK id (ea ▸ hl);exact⟨fF.trans ea,hy.trans e7⟩
end
end
end Go.LM
namespace Go.LM
section
variable{P:Program}{Q:Exit→Act→World→Prop}
variable{g:Bool}{w0:World}{F0 Z0:ai}{n:cO}{s au:aq}{a cg:Act}{w w' ch:World}{ι bp eJ:Nat→bJ}{Z Z' bR:ai}
theorem lX.held(h:lX s ι au bp)(H:ai):gV false w Z s ι w Z au bp H:=by
 have hm:eR w Z s ι w Z au bp:=h.et;refine⟨fun _ _=>aV.move hm,fun _ _=>cw.move hm,fun _ _ h=>h,fun id o' _ ho=>?_,fun h=>by simp at h,cd.refl _ _,cd.refl _ _,fun _ _ h=>h,fun _ _ _ h=>h⟩;by_cases hn:s.o id=.none
 ·exact absurd ho (h.nl id o' hn)
 ·obtain ⟨h1,h2⟩:=h.o id hn;exact⟨by rw [← h1,ho],h2⟩
theorem zP{dp:List (Nat×Nat)}(hl:∀d,d∈dp→(s.o d.1).live)(hk:∀id,(s.o id).live→au.o id=s.o id ∧ bp id = ι id):(∀d,d∈dp→(au.o d.1).live)∧dt bp dp=dt ι dp:=by
 refine⟨fun d ah=>by rw [(hk d.1 (hl d ah)).1];exact hl d ah,?_⟩
 funext b o
 apply propext;constructor
 ·rintro ⟨d,ah,hf⟩;exact⟨d,ah,by rw [← (hk d.1 (hl d ah)).2];exact hf⟩
 ·rintro ⟨d,ah,hf⟩;exact⟨d,ah,by rw [(hk d.1 (hl d ah)).2];exact hf⟩
theorem lX.keeps(h:lX s ι au bp):∀id,(s.o id).live→au.o id=s.o id ∧ bp id = ι id:=fun id hl=>h.o id (fun e=>by rw [e] at hl;exact hl)
theorem bM.dt{F:ai}{dp:List (Nat×Nat)}(hF:bM w0 F0 s w ι Z F)(hl:∀d,d∈dp→(s.o d.1).live):ai.apart F (LM.dt ι dp):=by
 rintro b o h ⟨d,ah,hf⟩
 exact hF.apart d.1 (hl d ah) b o h hf
theorem oI.trans{s1 s2:aq}{dH:Nat→bJ}{S5 S6 eT:ai}(h1:Inv w0 F0 Z0 n s1 a w dH Z)(hh:gV false w Z s ι w Z s1 dH (fun _ _=>True))(hf:∀X,bM w0 F0 s w ι Z X→ai.apart X S5→bM w0 F0 s1 w dH Z X)
  (hl:∀id,(s.o id).live→s1.o id=s.o id ∧ dH id = ι id) (k:oI w0 F0 Z0 n s1 a w dH Z s2 S6) (gX:ai.sub (S5.or S6) eT):oI w0 F0 Z0 n s a w ι Z s2 eT:=by
 obtain ⟨eJ,i2,nJ,mJ,nK⟩:=k;refine⟨eJ,i2,hh.trans nJ,fun X hX fQ=>mJ X (hf X hX fun b o x y=>fQ b o x (gX b o (.inl y))) fun b o x y=>fQ b o x (gX b o (.inr y)),fun id cf=>?_⟩;obtain ⟨ea,e7⟩:=hl id cf;obtain ⟨fF,hy⟩:=nK id (ea ▸ cf);exact⟨fF.trans ea,hy.trans e7⟩
theorem iC.mono(hZ:ai.sub Z Z'):∀(ps:List bF) {us:List Value} {x:(bF.eg ps).D} {F F':ai},ai.sub F F'→iC w Z ps us x F→iC w Z' ps us x F'
 | [],_,_,_,_,_,_=>trivial
 | .mut t m m' :: ps,_,_,_,_,hF,⟨b,o,vs,aX,G,H,h1,h2,h3,h4,a',br,bL,dg⟩=>⟨b,o,vs,aX,G,H,h1,h2,ae.ar.mono hZ _ _ (fun _ _ h=>h) h3,iC.mono hZ ps (fun _ _ h=>h) h4,a',br,fun b o h=>hF b o (bL b o h),fun b o h=>hF b o (dg b o h)⟩
 | .hR t m :: ps,_,_,_,_,hF,⟨vs,aX,G,H,h1,h2,h3,h4,a',br⟩=>⟨vs,aX,G,H,h1,ae.ar.mono hZ _ _ (fun _ _ h=>h) h2,iC.mono hZ ps (fun _ _ h=>h) h3,h4,fun b o h=>hF b o (a' b o h),fun b o h=>hF b o (br b o h)⟩
 | .val _ _ :: ps,_,_,_,_,hF,⟨u,aX,h1,h2⟩=>⟨u,aX,h1,iC.mono hZ ps hF h2⟩
 | .hS _ :: ps,_,_,_,_,hF,⟨u,aX,h1,h2⟩=>⟨u,aX,h1,iC.mono hZ ps hF h2⟩
 | .ref _ :: ps,_,_,_,_,hF,⟨u,aX,h1,h2⟩=>⟨u,aX,h1,iC.mono hZ ps hF h2⟩
 | .fn _ _ :: ps,_,_,_,_,hF,⟨u,aX,h1,h2⟩=>⟨u,aX,h1,iC.mono hZ ps hF h2⟩
theorem sv{dp:List (Nat×Nat)} : ∀(ps:List bF) (vs:List a_) (us:List Value) (x:(bF.eg ps).D) (s:aq) (ι : Nat→bJ) (j:Nat) (q:aq×Nat) (F H:ai),mw dp ps vs x s j=some q→Inv w0 F0 Z0 n s a w ι Z →
  e9 false w Z s ι ps vs us H→iC w (Z.or (dt ι dp)) ps us x F→bM w0 F0 s w ι Z F→bM w0 F0 s w ι Z H→ai.apart F H→(∀d,d∈dp→(s.o d.1).live∧eE s d)→oI w0 F0 Z0 n s a w ι Z q.1 (F.or H)
 | [],vs,us,x,s,ι,j,q,F,H,hu,h,hk,hr,hF,cP,ha,ah=>by simp only [mw,Option.some.injEq] at hu;subst hu;exact uB h _
 | .val t m :: ps,vs,us,x,s,ι,j,q,F,H,hu,h,hk,hr,hF,cP,ha,ah=>by obtain ⟨v,bK,u,aX,rfl,rfl,hk⟩:=hk;obtain ⟨jk,us2,he,hr⟩:=hr;simp only [List.cons.injEq] at he;obtain ⟨rfl,rfl⟩:=he;exact sv ps bK aX x s ι j q F H (by simpa only [mw] using hu) h hk hr hF cP ha ah
 | .hS t :: ps,vs,us,x,s,ι,j,q,F,H,hu,h,hk,hr,hF,cP,ha,ah=>by obtain ⟨v,bK,u,aX,rfl,rfl,hk⟩:=hk;obtain ⟨jk,us2,he,hr⟩:=hr;simp only [List.cons.injEq] at he;obtain ⟨rfl,rfl⟩:=he;exact sv ps bK aX x s ι j q F H (by simpa only [mw] using hu) h hk hr hF cP ha ah
 | .ref t :: ps,vs,us,x,s,ι,j,q,F,H,hu,h,hk,hr,hF,cP,ha,ah=>by obtain ⟨v,bK,u,aX,rfl,rfl,hk⟩:=hk;obtain ⟨jk,us2,he,hr⟩:=hr;simp only [List.cons.injEq] at he;obtain ⟨rfl,rfl⟩:=he;exact sv ps bK aX x s ι j q F H (by simpa only [mw] using hu) h hk hr hF cP ha ah
 | .fn _ _ :: ps,vs,us,x,s,ι,j,q,F,H,hu,h,hk,hr,hF,cP,ha,ah=>by obtain ⟨v,bK,u,aX,rfl,rfl,hk⟩:=hk;obtain ⟨jk,us2,he,hr⟩:=hr;simp only [List.cons.injEq] at he;obtain ⟨rfl,rfl⟩:=he;exact sv ps bK aX x s ι j q F H (by simpa only [mw] using hu) h hk hr hF cP ha ah
 | .hR t m :: ps,vs,us,x,s,ι,j,q,F,H,hu,h,hk,hr,hF,cP,ha,ah=>by
  obtain ⟨v,bK,u,aX,cs,H1,H2,rfl,rfl,hcs,rfl,k1,k2,lu,jm,hV⟩:=hk;obtain ⟨ws,us2,G1,G2,he,bH,cm,pQ,fk,hH⟩:=hr;simp only [List.cons.injEq] at he;obtain ⟨rfl,rfl⟩:=he;simp only [mw,hcs] at hu;obtain ⟨r,hb,hu⟩:=bq hu;have hl:=ae.ar.len t _ bH;rw [J6 hl.1 hl.2] at k1;have KG:t.ar w Z t.own x.1 ws G1:=uh t bH;obtain ⟨e1,dH,i1,su,fP,zO⟩:=ae.zN t t.own x.1 cs [] s ι r ws G1 H1 (by rw [List.append_nil];exact hb) h k1 KG (hF.sub fk) (cP.sub jm) (fun b o x y=>ha b o (fk b o x) (jm b o y));have hdl:=zP (dp:=dp) (fun d hm=>(ah d hm).1) zO
  have zQ:=sv ps bK aX x.2 r.2 dH j q G2 H2 hu i1 (e9.move (su.mono fun _ _ _=>trivial) (fun _ _ h=>h) ps k2) (by rw [hdl.2];exact cm)
   (fP G2 (hF.sub hH) (by rintro b o x (y | y);exact pQ b o y x;exact ha b o (hH b o x) (jm b o y)))
   (fP H2 (cP.sub hV) (by rintro b o x (y | y);exact ha b o (fk b o y) (hV b o x);exact lu b o y x))
   (fun b o x y=>ha b o (hH b o x) (hV b o y)) (fun d hm=>⟨hdl.1 d hm,by have:=(ah d hm).2;unfold eE known kG at *;rw [(zO d.1 (ah d hm).1).1];exact this⟩)
  refine oI.trans i1 su fP zO zQ ?_
  rintro b o ((y | y) | (y | y))
  ·exact .inl (fk b o y)
  ·exact .inr (jm b o y)
  ·exact .inl (hH b o y)
  ·exact .inr (hV b o y)
 | .mut t m m' :: ps,vs,us,x,s,ι,j,q,F,H,hu,h,hk,hr,hF,cP,ha,ah=>by
  obtain ⟨p,bK,u,aX,H1,H2,rfl,rfl,k1,k2,lu,jm,hV⟩:=hk;obtain ⟨b,o,ws,us2,G,gb,he,cB,bH,cm,pQ,sr,fk,hH⟩:=hr;simp only [List.cons.injEq] at he;obtain ⟨rfl,rfl⟩:=he;have hGF:ai.sub G F:=fun b o x=>fk b o (.inl x)
  have adD:ai.sub (ai.run b o t.size) F:=fun b o x=>fk b o (.inr x)
  have um:=ae.ar.len t _ bH;simp only [mw] at hu
  cases ho:s.o p.id with
  | ck eK=>
   rw [ho] at hu
   cases ff:p.fD with
   | none=>
    rw [ff] at hu
    cases eK with
    | var ver old=>
     simp only at hu;obtain ⟨r,hx,hu⟩:=bq hu;rcases k1 with k1 | ⟨_,_,_,_,_,_,_,_,_,_,_,_,hk2,_⟩
     case inr=>rw [ff] at hk2;simp at hk2
     obtain ⟨nz,aq9,b',o',Da,_,hl,_,jH,hle,S7,hwr,Db,hcell⟩:=k1;obtain ⟨b1,eL⟩:=hl _ ho;simp only [cE.var.injEq] at b1;obtain ⟨rfl,rfl⟩:=b1;simp only [Value.pointer.injEq,Option.some.injEq,at_,Addr.mk.injEq,and_true] at jH;obtain ⟨rfl,rfl⟩:=jH;obtain ⟨dH,i1,jn,c1,fP⟩:=ae.oy t m' dp x.1 s ι j r ws G hx h bH (hF.sub hGF) ((hF.sub hGF).dt fun d hm=>(ah d hm).1) (fun d hm=>(ah d hm).2);obtain ⟨hs1,adE⟩:=jn.o p.id (by rw [ho];simp);have hcl:=c1.len;have hol:=S7.len;have aq_:=um.1;have adF:=jn.keeps;have KH:bM w0 F0 r.2.1 w dH Z ((ai.run b (o'+p.off) t.size).or H1):=(fP _ (hF.sub adD) (fun b o x y=>sr b o y x)).or (fP _ (cP.sub jm) (fun b o x y=>ha b o (hGF b o y) (jm b o x)))
     have l5:=zM i1 (id:=p.id) (o:=.var (ver+1) (old.take p.off++r.1++old.drop (p.off+t.size))) (i:=⟨(dH p.id).base,(dH p.id).cap,(ai.run b (o'+p.off) t.size).or H1⟩)
      (by rw [hs1,ho];exact fun h=>h) (fun o'=>by simp) (by rw [hs1,ho];exact .zs _ _ _ _ _ _ (by omega) rfl) (fun hm=>by
       refine⟨at_ b o',dr Da p.off ws,by rw [adE];exact eL,rfl,?_,?_,?_⟩
       ·have adG:bN w Z r.2.1 dH old Da:=S7.move jn.et;have:=(bN.dr adG c1 p.off).move hm;rwa [show p.off+r.1.length=p.off+t.size by omega] at this
       ·intro i v hv;unfold dr at hv;show w.cell? (at_ b (o'+i))=some v;by_cases h1:i<p.off
        ·rw [List.append_assoc,List.getElem?_append_left (by simp;omega),List.getElem?_take,if_pos h1] at hv;exact hcell i v hv (.inl h1)
        ·by_cases h2:i<p.off+t.size
         ·rw [List.getElem?_append_left (by simp;omega),List.getElem?_append_right (by simp;omega)] at hv;simp only [List.length_take] at hv;have:=cB _ v hv;rwa [show o'+p.off +(i-min p.off Da.length)=o'+i by omega] at this
         ·rw [List.getElem?_append_right (by simp;omega)] at hv;simp only [List.length_append,List.length_take,List.getElem?_drop] at hv;rw [show p.off+ws.length +(i-(min p.off Da.length+ws.length))=i by omega] at hv;exact hcell i v hv (.inr (by omega))
       ·intro i hi;have dm:i<old.length:=by simp only [List.length_append,List.length_take,List.length_drop] at hi;omega
        refine⟨hwr i dm,?_⟩;show(ai.run b (o'+p.off) t.size).or H1 b (o'+i);by_cases hh:i<p.off∨p.off+t.size≤i
        ·exact .inr (Db i dm hh)
        ·exact .inl ⟨rfl,by omega,by omega⟩) KH
     obtain ⟨eJ,i2,nJ,mJ,nK⟩:=l5;have KI:∀id,(s.o id).live→(r.2.1.bV p.id (.var (ver+1) (old.take p.off++r.1++old.drop (p.off+t.size)))).o id=s.o id ∧ eJ id = ι id:=fun id cf=>by obtain ⟨ea,e7⟩:=adF id cf;obtain ⟨fF,hy⟩:=nK id (ea ▸ cf);exact⟨fF.trans ea,hy.trans e7⟩
     have xA:gV false w Z s ι w Z (r.2.1.bV p.id (.var (ver+1) (old.take p.off++r.1++old.drop (p.off+t.size)))) eJ (fun _ _=>True):=(jn.held _).trans nJ
     have kk:∀X,bM w0 F0 s w ι Z X→ai.apart X ((G.or (ai.run b (o'+p.off) t.size)).or H1)→bM w0 F0 (r.2.1.bV p.id (.var (ver+1) (old.take p.off++r.1++old.drop (p.off+t.size)))) w eJ Z X:=fun X hX fQ=>by
      refine mJ X (fP X hX fun b o x y=>fQ b o x (.inl (.inl y))) ?_
      rintro b o x (y | y)
      ·exact fQ b o x (.inl (.inr y))
      ·exact fQ b o x (.inr y)
     have hdl:=zP (dp:=dp) (fun d hm=>(ah d hm).1) KI
     have zQ:=sv ps bK aX x.2 _ eJ r.2.2 q gb H2 hu i2 (e9.move (xA.mono fun _ _ _=>trivial) (fun _ _ h=>h) ps k2) (by rw [hdl.2];exact cm)
      (kk gb (hF.sub hH) (by rintro b o x (y | y);exact pQ b o y x;exact ha b o (hH b o x) (jm b o y)))
      (kk H2 (cP.sub hV) (by rintro b o x (y | y);exact ha b o (fk b o y) (hV b o x);exact lu b o y x))
      (fun b o x y=>ha b o (hH b o x) (hV b o y)) (fun d hm=>⟨hdl.1 d hm,by have:=(ah d hm).2;unfold eE known kG at *;rw [(KI d.1 (ah d hm).1).1];exact this⟩)
     refine oI.trans i2 xA kk KI zQ ?_
     rintro b o ((y | y) | (y | y))
     ·exact .inl (fk b o y)
     ·exact .inr (jm b o y)
     ·exact .inl (hH b o y)
     ·exact .inr (hV b o y)
    | _=>simp at hu
   | some i=>
    rw [ff] at hu
    cases eK with
    | row gW em ver xs=>
     simp only at hu;obtain ⟨y,aT,hu⟩:=bq hu;obtain ⟨e1,uC⟩:=Cz aT;subst e1;have uC:x.1=y:=uC.symm;subst uC;rcases k1 with⟨_,_,_,_,_,_,_,hk2,_⟩ | ⟨mC,oH,k1⟩
     ·rw [ff] at hk2;simp at hk2
     obtain ⟨nz,f',dS,b',o',c,G1,G2,_,hl,S8,hi,jH,KF,hwr,Db,adH,adI,adJ,S9,S_,S'⟩:=k1;obtain ⟨b1,eL,hcap⟩:=hl _ ho;simp only [cE.row.injEq,heq_eq_eq,true_and] at b1;obtain ⟨rfl,rfl,rfl⟩:=b1;rw [ff] at S8;obtain rfl:=aZ S8;simp only [Value.pointer.injEq,Option.some.injEq,at_,Addr.mk.injEq,and_true] at jH;obtain ⟨rfl,rfl⟩:=jH;subst mC;have KG:t.ar w Z m' x.1 ws G:=by rw [oH] at bH ⊢;exact uh t bH
     have hcs:(i+1)*t.size≤c*t.size:=Nat.mul_le_mul_right _ (by omega);rw [Nat.add_one_mul] at hcs;have KH:bM w0 F0 s w ι Z ((G.or (ai.run b (o'+i*t.size) t.size)).or H1):=(hF.sub fk).or (cP.sub jm)
     have l5:=zM h (id:=p.id) (o:=.row t m' (ver+1) (xs.set i x.1)) (i:=⟨(ι p.id).base,(ι p.id).cap,(G.or (ai.run b (o'+i*t.size) t.size)).or H1⟩)
      (by rw [ho];exact fun h=>h) (fun o'=>by simp) (by rw [ho];exact .sb _ _ _ _ _ _ _ _ _ (by omega) (by simp) rfl rfl) (fun hm=>by
       right;refine⟨at_ b o',eL,rfl,?_,?_,?_,?_⟩
       ·show(xs.set i x.1).length≤(ι p.id).cap;rw [List.length_set,hcap];exact KF
       ·show ∀j,j<(ι p.id).cap*t.size→_
        rw [hcap];exact hwr
       ·show ∀j,j<(ι p.id).cap*t.size→_
        rw [hcap];intro j hj;show((G.or (ai.run b (o'+i*t.size) t.size)).or H1) b (o'+j);by_cases hh:j<i*t.size∨(i+1)*t.size≤j
        ·exact .inr (Db j hj hh)
        ·rw [Nat.add_one_mul] at hh;exact .inl (.inr ⟨rfl,by omega,by omega⟩)
       ·refine⟨G1.or (G.or G2),Row.C2 i hi adH KG um.1 cB adI (fun b o x y=>ha b o (hGF b o y) (jm b o (S9 b o x))) adJ (fun b o x y=>ha b o (hGF b o x) (jm b o (S_ b o y))),?_,?_⟩
        ·show ∀j,j<(ι p.id).cap*t.size→_
         rw [hcap]
         rintro j hj (aI | aI | aI)
         ·exact(S' j hj).1 aI
         ·by_cases hh:j<i*t.size∨(i+1)*t.size≤j
          ·exact ha _ _ (hGF _ _ aI) (jm _ _ (Db j hj hh))
          ·rw [Nat.add_one_mul] at hh;exact sr _ _ aI ⟨rfl,by show o'+i*t.size≤o'+j;omega,by show o'+j<_;omega⟩
         ·exact(S' j hj).2 aI
        ·rintro b o (aI | aI | aI)
         ·exact .inr (S9 b o aI)
         ·exact .inl (.inl aI)
         ·exact .inr (S_ b o aI)) KH
     obtain ⟨eJ,i2,nJ,mJ,nK⟩:=l5;have hdl:=zP (dp:=dp) (fun d hm=>(ah d hm).1) nK
     have zQ:=sv ps bK aX x.2 _ eJ j q gb H2 hu i2 (e9.move (nJ.mono fun _ _ _=>trivial) (fun _ _ h=>h) ps k2) (by rw [hdl.2];exact cm)
      (mJ gb (hF.sub hH) (by rintro b o x (y | y);exact pQ b o y x;exact ha b o (hH b o x) (jm b o y)))
      (mJ H2 (cP.sub hV) (by rintro b o x (y | y);exact ha b o (fk b o y) (hV b o x);exact lu b o y x))
      (fun b o x y=>ha b o (hH b o x) (hV b o y)) (fun d hm=>⟨hdl.1 d hm,by have:=(ah d hm).2;unfold eE known kG at *;rw [(nK d.1 (ah d hm).1).1];exact this⟩)
     refine oI.trans i2 nJ mJ nK zQ ?_
     rintro b o ((y | y) | (y | y))
     ·exact .inl (fk b o y)
     ·exact .inr (jm b o y)
     ·exact .inl (hH b o y)
     ·exact .inr (hV b o y)
    | _=>simp at hu
  | _=>rw [ho] at hu;simp at hu
end
end Go.LM
namespace Go.LM
section
variable{P:Program}{Q:Exit→Act→World→Prop}
variable{g:Bool}{w0:World}{F0 Z0:ai}{n:cO}{s au:aq}{a cg:Act}{w w' ch:World}{ι bp eJ:Nat→bJ}{Z Z' bR:ai}
variable{E:Env}{o:Oper}{bB : Type}{K:aq→Option bB}{r : bB}{id:Nat}
theorem Dc:∀ {dp:List (Nat×Nat)},alive s dp=true→∀d,d∈dp→(s.o d.1).live
 | [],_,d,ah=>by simp at ah
 | (i,v) :: dp,h,d,ah=>by
  unfold alive at h;rcases List.mem_cons.1 ah with rfl | ah
  ·cases ho:s.o i with
   | row=>trivial
   | var=>trivial
   | _=>rw [ho] at h;simp at h
  ·cases ho:s.o i with
   | row t em ver xs=>
    rw [ho] at h;simp only at h;cases hb:Nat.beq ver v
    ·rw [hb] at h;simp at h
    ·rw [hb] at h;exact Dc h d ah
   | var ver cs=>
    rw [ho] at h;simp only at h;cases hb:Nat.beq ver v
    ·rw [hb] at h;simp at h
    ·rw [hb] at h;exact Dc h d ah
   | _=>rw [ho] at h;simp at h
theorem a8.append:∀ {x y:List a_} {us vs:List Value},a8 w Z s ι x us→a8 w Z s ι y vs→a8 w Z s ι (x++y) (us++vs)
 | [],_,_,_,h,k=>by simp only [a8] at h;subst h;exact k
 | _ :: _,_,_,_,h,k=>by simp only [a8] at h;obtain ⟨u,aX,rfl,h1,h2⟩:=h;simp only [List.cons_append,a8];exact⟨u,_,rfl,h1,h2.append k⟩
theorem KJ:∀ {x:List a_} {us:List Value},ot x=true→a8 w Z s ι x us→a8 w Z s ι (lS x) (gp us)
 | [],_,_,h=>by simp only [a8] at h;subst h;simp only [lS,gp,a8]
 | v :: l,_,hn,h=>by
  simp only [a8] at h;obtain ⟨u,aX,rfl,h1,h2⟩:=h;have hl:ot l=true:=by cases v <;> simp_all [ot]
  have ih:=KJ hl h2
  cases v with
  | fn f a b=>simp only [aV] at h1;obtain ⟨xs,ys,rfl,cU,eF⟩:=h1;simp only [lS,gp];exact(cU.append eF).append ih
  | ay=>simp [ot] at hn
  | aW c=>
   simp only [lS]
   have:∀f a b,u≠.func f a b:=by
    rintro f a b rfl
    simp only [aV] at h1
    cases c with
    | bY=>obtain ⟨_,⟨_,_,_,h⟩,_⟩:=h1;simp at h
    | ah=>obtain ⟨_,_,_,_,h,_⟩:=h1;simp at h
    | str=>obtain ⟨_,h,_⟩:=h1;simp at h
    | raw=>obtain ⟨h,_,_,_,h2⟩:=h1;rw [h2] at h;simp at h
    | _=>simp [cw] at h1
   cases u <;> first | exact ih | exact absurd rfl (this _ _ _)
  | iD cs=>simp only [aV] at h1;obtain ⟨_,rfl,_⟩:=h1;exact ih
  | ptr p=>simp only [aV] at h1;obtain ⟨_,_,rfl,_⟩:=h1;exact ih
  | dk=>simp only [aV] at h1;obtain ⟨_,_,_,_,rfl,_⟩:=h1;exact ih
  | gone=>simp [ot] at hn
  | r4=>simp [ot] at hn
  | kd=>simp only [aV] at h1;subst h1;exact ih
  | ld=>simp only [aV] at h1;subst h1;exact ih
  | may=>simp only [aV] at h1;rcases h1 with⟨_,rfl⟩ | ⟨_,_,_,_,_,rfl,_⟩ <;> exact ih
  | opt=>simp only [aV] at h1;rcases h1.2 with⟨_,rfl⟩ | ⟨_,_,rfl,_⟩ <;> exact ih
  | px=>simp only [aV] at h1;obtain ⟨_,rfl,_⟩:=h1;exact ih
mutual
theorem c9.mK:∀(t:ae) (m:bl) {cs:List bd} {vs:List Value} {H:ai},c9 true w Z s ι t m cs vs H→c9 false w Z s ι t m cs vs H
 | .int _,_,_,_,_,hk=>by simp only [c9] at hk ⊢;exact hk
 | .bool,_,_,_,_,hk=>by simp only [c9] at hk ⊢;exact hk
 | .str,_,_,_,_,hk=>by simp only [c9] at hk ⊢;exact hk
 | .raw,_,_,_,_,hk=>by simp only [c9] at hk ⊢;exact hk
 | .sl t,.R,_,_,_,hk=>by simp only [c9] at hk
 | .sl t,.S _,_,_,_,hk=>by simp only [c9] at hk
 | .sl t,.O e,_,_,_,hk=>by
  simp only [c9] at hk ⊢;obtain ⟨c,v,h1,h2,hk⟩:=hk;refine⟨c,v,h1,h2,?_⟩
  cases c with
  | nil=>exact hk
  | ah id sub=>
   cases sub with
   | some=>exact hk
   | none=>obtain ⟨ver,xs,A,k,c,_,h⟩:=hk;exact⟨ver,xs,A,k,c,fun h=>by simp at h,h⟩
  | bY u dp cJ xs=>obtain ⟨p,i,T,ver,ys,b,o,c,h1,h2,_,h⟩:=hk;exact⟨p,i,T,ver,ys,b,o,c,h1,h2,fun h=>by simp at h,h⟩
  | _=>exact hk
 | .st ak,m,_,_,_,hk=>by simp only [c9] at hk ⊢;exact fO.mK ak m.parts hk
theorem fO.mK:∀(ak:aC) (m:c4) {cs:List bd} {vs:List Value} {H:ai},fO true w Z s ι ak m cs vs H→fO false w Z s ι ak m cs vs H
 | .nil,_,_,_,_,hk=>by simp only [fO] at hk ⊢;exact hk
 | .cons t ak,m,_,_,_,hk=>by simp only [fO] at hk ⊢;obtain ⟨c1,gR,v1,v2,H1,H2,h1,h2,h3,h4,a'⟩:=hk;exact⟨c1,gR,v1,v2,H1,H2,h1,h2,c9.mK t m.ah h3,fO.mK ak m.dF h4,a'⟩
end
theorem e9.mK:∀(ps:List bF) {vs:List a_} {us:List Value} {H:ai},e9 true w Z s ι ps vs us H→e9 false w Z s ι ps vs us H
 | [],_,_,_,_=>trivial
 | .mut t m m' :: ps,_,_,_,⟨p,bK,u,aX,H1,H2,h1,h2,h3,h4,a'⟩=>⟨p,bK,u,aX,H1,H2,h1,h2,h3.imp (fun⟨a,b,c,d,e,_,h⟩=>⟨a,b,c,d,e,fun h=>by simp at h,h⟩) (fun⟨cU,eF,a,b,c,d,e,f,g1,g2,_,h⟩=>⟨cU,eF,a,b,c,d,e,f,g1,g2,fun h=>by simp at h,h⟩),e9.mK ps h4,a'⟩
 | .hR t m :: ps,_,_,_,⟨v,bK,u,aX,cs,H1,H2,h1,h2,h3,oH,h4,a',br⟩=>⟨v,bK,u,aX,cs,H1,H2,h1,h2,h3,oH,c9.mK t m h4,e9.mK ps a',br⟩
 | .val _ _ :: ps,_,_,_,⟨v,bK,u,aX,h1,h2,h3⟩=>⟨v,bK,u,aX,h1,h2,e9.mK ps h3⟩
 | .hS _ :: ps,_,_,_,⟨v,bK,u,aX,h1,h2,h3⟩=>⟨v,bK,u,aX,h1,h2,e9.mK ps h3⟩
 | .ref _ :: ps,_,_,_,⟨v,bK,u,aX,h1,h2,h3⟩=>⟨v,bK,u,aX,h1,h2,e9.mK ps h3⟩
 | .fn _ _ :: ps,_,_,_,⟨v,bK,u,aX,h1,h2,h3⟩=>⟨v,bK,u,aX,h1,h2,e9.mK ps h3⟩
theorem il.mono(hZ:ai.sub Z Z'){ps:List bF}{us:List Value} : ∀(rs:List c7) {x:(c7.outs rs (bF.eg ps)).D} {dA:List Value} {F F':ai},ai.sub F F'→il w Z ps us rs x dA F→il w Z' ps us rs x dA F'
 | [],_,_,_,_,hF,⟨h1,h2⟩=>⟨h1,iC.mono hZ ps hF h2⟩
 | .val t m :: rs,_,_,_,_,hF,⟨vs,ej,G,H,h1,h2,h3,h4,a',br⟩=>⟨vs,ej,G,H,h1,ae.ar.mono hZ _ _ (fun _ _ h=>h) h2,il.mono hZ rs (fun _ _ h=>h) h3,h4,fun b o h=>hF b o (a' b o h),fun b o h=>hF b o (br b o h)⟩
 | .opt a off t :: rs,_,_,_,_,hF,⟨v,ej,h1,h2,h3⟩=>⟨v,ej,h1,h2,il.mono hZ rs hF h3⟩
 | .any t :: rs,_,_,_,_,hF,⟨v,ej,h1,h2,h3⟩=>⟨v,ej,h1,h2,il.mono hZ rs hF h3⟩
 | .pz t :: rs,_,_,_,_,hF,⟨v,ej,h1,h2,h3⟩=>⟨v,ej,h1,h2.imp (fun h=>h) fun⟨y,b,o,vs,k1,k2,k3,bg,bx⟩=>⟨y,b,o,vs,k1,k2,k3,ae.ar.mono hZ _ _ (fun _ _ h=>h) bg,fun j hj=>hZ _ _ (bx j hj)⟩,il.mono hZ rs hF h3⟩
 | .new t m :: rs,_,_,_,_,hF,⟨b,o,vs,ej,G,H,h1,h2,hw,h3,h4,a',br,bL,dg⟩=>⟨b,o,vs,ej,G,H,h1,h2,hw,ae.ar.mono hZ _ _ (fun _ _ h=>h) h3,il.mono hZ rs (fun _ _ h=>h) h4,a',br,fun b o h=>hF b o (bL b o h),fun b o h=>hF b o (dg b o h)⟩
theorem jF.plus{p:Place}{b o:Nat}(k:Nat)(h:jF s ι p (at_ b o)):jF s ι { p with off:=p.off+k } (at_ b (o+k)):=by
 obtain ⟨_,h⟩:=h;refine⟨rfl,?_⟩;show match (s.o p.id).core with | .var _ _=>_ | .row .. => _ | _=>_
 cases hc:(s.o p.id).core with
 | var ver cs=>rw [hc] at h;obtain ⟨h1,a0,h2,h3⟩:=h;simp only [at_,Addr.mk.injEq,and_true] at h3;exact⟨h1,a0,h2,by simp only [at_,Addr.mk.injEq,and_true];exact⟨h3.1,by omega⟩⟩
 | row t em ver xs=>rw [hc] at h;obtain ⟨i,h1,h2,a0,h3,h4⟩:=h;simp only [at_,Addr.mk.injEq,and_true] at h4;exact⟨i,h1,h2,a0,h3,by simp only [at_,Addr.mk.injEq,and_true];exact⟨h4.1,by omega⟩⟩
 | _=>trivial
theorem a8.get:∀ {x:List a_} {us:List Value} (i:Nat) {v:a_},a8 w Z s ι x us→x[i]?=some v→∃u,us[i]?=some u∧aV w Z s ι v u
 | [],_,i,_,_,h=>by simp at h
 | y :: l,_,0,v,h,hv=>by simp only [a8] at h;obtain ⟨u,aX,rfl,h1,h2⟩:=h;simp at hv;subst hv;exact⟨u,rfl,h1⟩
 | y :: l,_,i+1,v,h,hv=>by simp only [a8] at h;obtain ⟨u,aX,rfl,h1,h2⟩:=h;simp only [List.getElem?_cons_succ] at hv ⊢;exact h2.get i hv
theorem a8.held{g:Bool}{H:ai}(h:gV g w Z s ι w' Z' au bp H):∀ {x:List a_} {us:List Value},a8 w Z s ι x us→a8 w' Z' au bp x us
 | [],_,hx=>by simp only [a8] at hx ⊢;exact hx
 | y :: l,_,hx=>by simp only [a8] at hx ⊢;obtain ⟨u,aX,h0,h1,h2⟩:=hx;exact⟨u,aX,h0,h.az _ _ h1,a8.held h h2⟩
theorem xB{bw:List (Nat×Nat)}{ps:List bF}{vs:List a_}{us:List Value} : ∀(rs:List c7) (x:(c7.outs rs (bF.eg ps)).D) (dA:List Value) (s:aq) (ι : Nat→bJ) (j:Nat) (q:List a_×aq) (F H:ai),lR vs ps bw rs x s j=some q →
  Inv w0 F0 Z0 n s a w ι Z→e9 false w Z s ι ps vs us H→il w (Z.or (dt ι bw)) ps us rs x dA F→bM w0 F0 s w ι Z F→bM w0 F0 s w ι Z H→ai.apart F H→(∀d,d∈bw→(s.o d.1).live∧eE s d)→a8 w Z s ι vs us →
  ∃ bp,Inv w0 F0 Z0 n q.2 a w bp Z∧(∀x u,aV w Z s ι x u→aV w Z q.2 bp x u)∧a8 w Z q.2 bp q.1 dA
 | [],x,dA,s,ι,j,q,F,H,hu,h,hk,hr,hF,cP,ha,ah,hv=>by simp only [lR] at hu;obtain ⟨r,hx,hu⟩:=bq hu;obtain rfl:=aZ hu;obtain ⟨rfl,hr⟩:=hr;obtain ⟨bp,dS,held,_⟩:=sv ps vs us x s ι j r F H hx h hk hr hF cP ha ah;exact⟨bp,dS,held.az,by simp only [a8]⟩
 | .val t m :: rs,x,dA,s,ι,j,q,F,H,hu,h,hk,hr,hF,cP,ha,ah,hv=>by
  simp only [lR] at hu;obtain ⟨r,hx,hu⟩:=bq hu
  cases hw:ke t r.1 with
  | none=>rw [hw] at hu;simp at hu
  | some v=>
   rw [hw] at hu;simp only at hu;obtain ⟨p,av,hu⟩:=bq hu;obtain rfl:=aZ hu;obtain ⟨ws,ej,G1,G2,rfl,bH,cm,pQ,fk,hH⟩:=hr;obtain ⟨dH,i1,jn,c1,fP⟩:=ae.oy t m bw x.1 s ι j r ws G1 hx h bH (hF.sub fk) ((hF.sub fk).dt fun d hm=>(ah d hm).1) (fun d hm=>(ah d hm).2);have su:gV false w Z s ι w Z r.2.1 dH (fun _ _=>True):=jn.held _;have hdl:=zP (dp:=bw) (fun d hm=>(ah d hm).1) jn.keeps;have KK:a8 w Z r.2.1 dH vs us:=a8.move (jn.et (w:=w) (Z:=Z)) hv
   obtain ⟨eJ,i2,pR,hW⟩:=xB rs x.2 ej r.2.1 dH r.2.2 p G2 H av i1 (e9.move (su.mono fun _ _ _=>trivial) (fun _ _ h=>h) ps hk) (by rw [hdl.2];exact cm)
    (fP G2 (hF.sub hH) (fun b o x y=>pQ b o y x)) (fP H cP (fun b o x y=>ha b o (fk b o y) x)) (fun b o x y=>ha b o (hH b o x) y)
    (fun d hm=>⟨hdl.1 d hm,by have:=(ah d hm).2;unfold eE known kG at *;rw [(jn.keeps d.1 (ah d hm).1).1];exact this⟩) KK
   refine⟨eJ,i2,fun x u hx=>pR x u (su.az x u hx),?_⟩;simp only [a8];exact⟨_,ej,rfl,pR _ _ (pI hw c1),hW⟩
 | .new t m :: rs,x,dA,s,ι,j,q,F,H,hu,h,hk,hr,hF,cP,ha,ah,hv=>by
  simp only [lR] at hu;obtain ⟨r,hx,hu⟩:=bq hu;obtain ⟨s1,hm,hu⟩:=bq hu;obtain ⟨p,av,hu⟩:=bq hu;obtain rfl:=aZ hu;obtain ⟨cf,rfl⟩:=qI hm;obtain ⟨b,o,ws,ej,G1,G2,rfl,cB,hwr,bH,cm,pQ,sr,fk,hH⟩:=hr;have hG:ai.sub G1 F:=fun b o x=>fk b o (.inl x)
  have d_:ai.sub (ai.run b o t.size) F:=fun b o x=>fk b o (.inr x)
  obtain ⟨dH,i1,jn,c1,fP⟩:=ae.oy t m bw x.1 s ι j r ws G1 hx h bH (hF.sub hG) ((hF.sub hG).dt fun d hm=>(ah d hm).1) (fun d hm=>(ah d hm).2);have hl:=(ae.ar.len t _ bH).1;have hcl:=c1.len;have kk:=fP _ (hF.sub d_) (fun b o x y=>sr b o y x);obtain ⟨i2,nJ,mJ,nK⟩:=KE i1 (id:=r.2.2) (o:=.var 0 r.1) (i:=⟨some (at_ b o),0,ai.run b o t.size⟩) (by rw [cf];exact fun h=>h) (fun o'=>by simp) (by rw [cf];exact .made _ _ _) (fun hm=>by refine⟨at_ b o,ws,rfl,rfl,c1.move hm,cB,fun k hk=>⟨hwr k (by omega),rfl,by simp [at_],by simp [at_];omega⟩⟩) kk;have held:gV false w Z s ι w Z _ _ (fun _ _=>True):=(jn.held _).trans nJ;have Ta:∀id,(s.o id).live→(r.2.1.bV r.2.2 (.var 0 r.1)).o id=s.o id∧bZ dH r.2.2 ⟨some (at_ b o),0,ai.run b o t.size⟩ id = ι id:=fun id cj=>by obtain ⟨h1,h2⟩:=jn.keeps id cj;obtain ⟨h3,h4⟩:=nK id (by rw [h1];exact cj);exact⟨h3.trans h1,h4.trans h2⟩
  have hdl:=zP (dp:=bw) (fun d hm=>(ah d hm).1) Ta;have KK:a8 w Z _ _ vs us:=a8.held held hv;have zR:∀X,bM w0 F0 s w ι Z X→ai.apart X (G1.or (ai.run b o t.size))→bM w0 F0 (r.2.1.bV r.2.2 (.var 0 r.1)) w (bZ dH r.2.2 ⟨some (at_ b o),0,ai.run b o t.size⟩) Z X:=fun X hX fQ=>mJ X (fP X hX fun b o x y=>fQ b o x (.inl y)) fun b o x y=>fQ b o x (.inr y)
  obtain ⟨KL,i3,Tb,hW⟩:=xB rs x.2 ej _ _ _ p G2 H av i2 (e9.move (held.mono fun _ _ _=>trivial) (fun _ _ h=>h) ps hk) (by rw [hdl.2];exact cm)
   (zR G2 (hF.sub hH) (fun b o x y=>pQ b o y x)) (zR H cP (fun b o x y=>ha b o (fk b o y) x)) (fun b o x y=>ha b o (hH b o x) y)
   (fun d hm=>⟨hdl.1 d hm,by have:=(ah d hm).2;unfold eE known kG at *;rw [(Ta d.1 (ah d hm).1).1];exact this⟩) KK
  refine⟨KL,i3,fun x u hx=>Tb x u (held.az x u hx),?_⟩;simp only [a8];refine⟨_,ej,rfl,Tb _ _ ?_,hW⟩;simp only [aV];refine⟨by show bZ r.2.1.o r.2.2 _ r.2.2≠_;rw [cN];simp,_,rfl,rfl,?_⟩;show match (bZ r.2.1.o r.2.2 _ r.2.2).core with | .var _ _=>_ | .row .. => _ | _=>_
  rw [cN];exact⟨rfl,at_ b o,by rw [cN],by simp [at_]⟩
 | .any t :: rs,x,dA,s,ι,j,q,F,H,hu,h,hk,hr,hF,cP,ha,ah,hv=>by simp only [lR] at hu;obtain ⟨p,av,hu⟩:=bq hu;obtain rfl:=aZ hu;obtain ⟨v,ej,rfl,adK,cm⟩:=hr;obtain ⟨eJ,i2,pR,hW⟩:=xB rs x ej s ι j p F H av h hk cm hF cP ha ah hv;refine⟨eJ,i2,pR,?_⟩;simp only [a8];exact⟨_,ej,rfl,by simp only [aV];exact adK,hW⟩
 | .pz t :: rs,x,dA,s,ι,j,q,F,H,hu,h,hk,hr,hF,cP,ha,ah,hv=>by
  simp only [lR] at hu;obtain ⟨p,av,hu⟩:=bq hu;obtain rfl:=aZ hu;obtain ⟨v,ej,rfl,ho,cm⟩:=hr;obtain ⟨eJ,i2,pR,hW⟩:=xB rs x.2 ej s ι j p F H av h hk cm hF cP ha ah hv;refine⟨eJ,i2,pR,?_⟩;simp only [a8];refine⟨v,ej,rfl,pR _ _ ?_,hW⟩;simp only [aV];rcases ho with⟨h1,h2⟩ | ⟨y,b,o,bK,h1,h2,h3,h4,a'⟩
  ·exact .inl ⟨by rw [h1];rfl,h2⟩
  ·right;rw [h1];refine⟨rfl,fun d hm=>(ah d hm).2,b,o,bK,h2,fun _=>?_⟩;have hc:bN w Z s ι (t.cells bw none y) bK:=ae.qF t bw none (fun d hm=>(ah d hm).2) (fun _=>h4) ⟨_,_,_,h4⟩ .none;refine⟨hc,h3,fun j hj=>?_⟩;have hl:=(ae.ar.len t _ h4).1;have d':=hc.len;exact a' j (by rw [show(I t [y] 0)=y from rfl] at hj;omega)
 | .opt l7 off t :: rs,x,dA,s,ι,j,q,F,H,hu,h,hk,hr,hF,cP,ha,ah,hv=>by
  simp only [lR] at hu;obtain ⟨p,av,hu⟩:=bq hu
  cases ec:qA p.2 vs l7 off with
  | none=>rw [ec] at hu;simp at hu
  | some id=>
   rw [ec] at hu;simp only at hu;cases mL:qB p.2 t id
   ·rw [mL] at hu;cases hu
   rw [mL] at hu;simp only [cond_true] at hu;obtain rfl:=aZ hu;obtain ⟨v,ej,rfl,ho,cm⟩:=hr;obtain ⟨eJ,i2,pR,hW⟩:=xB rs x.2 ej s ι j p F H av h hk cm hF cP ha ah hv;refine⟨eJ,i2,pR,?_⟩;simp only [a8];refine⟨v,ej,rfl,?_,hW⟩;unfold qA at ec
   cases nE:vs[l7]? with
   | none=>rw [nE] at ec;simp at ec
   | some lT=>
    rw [nE] at ec
    cases lT with
    | ptr pl=>
     simp only at ec
     cases de:mv p.2 1 { pl with off:=pl.off+off } with
     | none=>rw [de] at ec;simp at ec
     | some cs=>
      rw [de] at ec
      have hcs:cs=[.ah id none]:=by
       split at ec
       ·rename_i h;obtain rfl:=aZ ec;exact aZ h
       ·simp at ec
      subst hcs;obtain ⟨u,xC,sw⟩:=hv.get l7 nE;have sw:=pR _ _ sw;simp only [aV] at sw;obtain ⟨ki,A,rfl,nL⟩:=sw;obtain ⟨b,o,sp⟩:=A;have hsp:=nL.1;simp only at hsp;subst hsp;obtain ⟨pD,eQ,ws,hA,hc1,hc2,zL⟩:=zv i2 de (jF.plus (b:=b) (o:=o) off nL);simp only [at_,Addr.mk.injEq,and_true] at hA;obtain ⟨rfl,rfl⟩:=hA
      match ws,hc1 with
      | [v0],hc1=>
       obtain ⟨hk0,A,m,k,rfl,hh⟩:=hc1.1;simp only [aV];refine⟨hk0,?_⟩;rcases ho with⟨h1,h2⟩ | ⟨h1,sk,e6,iI,dN,e8,c1,h2,h3,h4,a'⟩
       ·exact .inl ⟨h1,h2⟩
       ·right;refine⟨h1,_,a',rfl,?_⟩;rw [xC] at h2;simp only [Option.some.injEq,Value.pointer.injEq,at_,Addr.mk.injEq,and_true] at h2;obtain ⟨rfl,rfl⟩:=h2;have:=hc2.head;rw [h3] at this;simp only [Option.some.injEq,Value.slice.injEq] at this;obtain ⟨rfl,rfl,rfl⟩:=this;show match (p.2.o id).core with | .var _ _=>_ | .row .. => _ | _=>_
        unfold qB at mL
        cases b1:p.2.o id with
        | row u em ver xs=>
         rw [b1] at mL;have:=ae.eq_of_beq _ _ mL;subst this;obtain ⟨cU,eF,iE,iF,iG⟩:=hh u em ver xs (lU b1);have cU:e8=xs.length:=cU;rcases iG with iG | ⟨a0,nA,nF⟩
         ·omega
         ·simp only [er,Nat.zero_mul,Nat.add_zero,Option.some.injEq,at_,Addr.mk.injEq,and_true] at nF;refine⟨_,rfl,by omega,a0,nA,?_⟩;simp only [at_,Addr.mk.injEq,and_true];exact⟨nF.1,by omega⟩
        | _=>rw [b1] at mL;cases mL
    | _=>simp at ec
end
end Go.LM
namespace Go.LM
section
variable{P:Program}{Q:Exit→Act→World→Prop}
variable{g:Bool}{w0:World}{F0 Z0:ai}{n:cO}{s au:aq}{a cg:Act}{w w' ch:World}{ι bp eJ:Nat→bJ}{Z Z' bR:ai}
variable{E:Env}{o:Oper}{bB : Type}{K:aq→Option bB}{r : bB}{id:Nat}
def Dd:List a_→a_
 | [v]=>v
 | l=>.px l
theorem Calls.mono{P:Program}{f:FuncId}{args:Array Value}{w:World}{R jd:Ending→World→Prop}(h:Calls P f args w R)(d_:∀e w',R e w'→jd e w'):Calls P f args w jd:=by intro cs;obtain ⟨e,w',nM,h1,h2⟩:=h cs;exact⟨e,w',nM,d_ e w' h1,h2⟩
theorem xu.mono{P:Program}{f:FuncId}{args:Array Value}{w:World}{R jd:Ending→World→Prop}(h:xu P f args w R)(d_:∀e w',R e w'→jd e w'):xu P f args w jd:=by
 rcases h with⟨h1,h2⟩ | ⟨v,w',h1,h2⟩
 ·exact .inl ⟨h1,Calls.mono h2 d_⟩
 ·exact .inr ⟨v,w',h1,d_ _ _ h2⟩
def De(P:Program)(E:Env):Prop:=∀f key e,E.fns f key=some e→ia P f key e
theorem adL{f:FuncId}{vs:List a_}{us:List Value}{K:a_→aq→Option bB}(dZ:De P E)(h:Inv w0 F0 Z0 n s a w ι Z)(hv:a8 w Z s ι vs us)(hk:Jx E id s f vs K=some r) :
  ∃(T:a_→aq→Prop),(∀v au,T v au→K v au=some r)∧(∃v au,T v au)∧xu P f us.toArray w fun e w'=>∃u,e=.returned u∧∀v au,T v au→∃ bp Z',Inv w0 F0 Z0 n au a w' bp Z'∧aV w' Z' au bp v u:=by
 unfold Jx at hk
 cases hf:E.fns f (pB vs) with
 | none=>rw [hf] at hk;simp at hk
 | some e=>
  rw [hf] at hk;simp only at hk
  cases hm:gq (pB vs) s e.ps (vs++lS vs) [] with
  | none=>rw [hm] at hk;simp at hk
  | some q=>
   obtain ⟨x,s1,bw⟩:=q;rw [hm] at hk;simp only at hk;cases dB:(alive s1 bw&&ot vs)
   ·rw [dB] at hk;simp at hk
   rw [dB] at hk;simp only [Bool.and_eq_true] at dB;obtain ⟨dB,KM⟩:=dB;simp only [cond_true] at hk;obtain ⟨y,aT,hk⟩:=bq hk
   cases hu:lR (vs++lS vs) e.ps bw e.rs y s1 id with
   | none=>rw [hu] at hk;simp at hk
   | some q=>
    obtain ⟨l,s2⟩:=q;rw [hu] at hk;have KN:=dZ f _ e hf;have hvc:=hv.append (KJ KM hv);obtain ⟨F,H,cI,i1,g1,bH,k1,f1,h1,a1,_,d1,_⟩:=qQ e.ps _ _ s Z [] _ hm h hvc (by simp);simp only at i1 g1 bH k1 f1 h1 d1;have cj:=Dc dB
    have hcall:=KN.calls w (cI.or (dt ι bw)) F x us y
     (by
      rintro b o (hz | ⟨d,ah,hf⟩)
      ·exact i1.je b o hz
      ·exact(i1.own d.1 (cj d ah) b o hf).2)
     (fun b o hf=>(f1.own b o hf).2)
     (by
      rintro b o hf (hz | hz)
      ·exact f1.dd b o hf hz
      ·exact f1.dt cj b o hf hz) bH aT
    refine⟨fun eX au=>eX=Dd l∧au=s2,?_,⟨_,s2,rfl,rfl⟩,hcall.mono ?_⟩
    ·rintro eX au ⟨rfl,rfl⟩
     clear hu
     match l,hk with
     | [],hk=>exact hk
     | [_],hk=>exact hk
     | _ :: _ :: _,hk=>exact hk
    ·rintro end_ w' ⟨u,rfl,⟨dA,Z',F',rfl,hx,jJ,hz2,hf2,zS,hW⟩⟩
     refine⟨_,rfl,?_⟩
     rintro eX au ⟨rfl,rfl⟩
     let S:ai:=fun b o=>Z' b o∧(F b o∨w.heap.size≤b)
     have mM:=i1.CT f1 hx
     have Tc:∀(X:ai),(∀b o,X b o→(F b o∨w.heap.size≤b)∧b<w'.heap.size)→bM w0 F0 s1 w' ι cI X:=by
      intro X hX;have hsz:=i1.ext.size;refine⟨fun b o hb=>⟨?_,(hX b o hb).2⟩,fun id hl b o hb hi=>?_,fun b o hb hz=>?_⟩
      ·rcases (hX b o hb).1 with hf | hf
       ·exact(f1.own b o hf).1
       ·exact .inr (by omega)
      ·rcases (hX b o hb).1 with hf | hf
       ·exact f1.apart id hl b o hf hi
       ·have:=(i1.own id hl b o hi).2;omega
      ·rcases (hX b o hb).1 with hf | hf
       ·exact f1.dd b o hf hz
       ·have:=i1.je b o hz;omega
     have Km:bM w0 F0 s1 w' ι cI S:=Tc S (by
      rintro b o ⟨hz,hf⟩
      refine⟨hf,?_⟩;rcases hz2 b o hz with h1 | h1
      ·have hsz:=hx.size;rcases h1 with h1 | ⟨d,ah,h1⟩
       ·have:=i1.je b o h1;omega
       ·have:=(i1.own d.1 (cj d ah) b o h1).2;omega
      ·exact h1.2)
     have e_:=mM.freeze Km;have KO:bM w0 F0 s1 w' ι (cI.or S) F':=(Tc F' hf2).freeze (fun b o hb hs=>zS b o hb hs.1)
     have cP:bM w0 F0 s1 w' ι (cI.or S) H:=(h1.ext hx).freeze (by
      rintro b o hb ⟨_,hf | hf⟩
      ·exact a1 b o hf hb
      ·have:=(h1.own b o hb).2;omega)
     have Td:ai.apart cI F:=fun b o hz hf=>f1.dd b o hf hz
     have sq:eR w cI s1 ι w' (cI.or S) s1 ι := by
      refine⟨fun id=>.stay _ _,fun _ _ h=>.inl h,cd.jg hx i1.se ?_⟩
      rintro b o (hz | ⟨id,hl,_,_,hf⟩) hs
      ·exact Td b o hz hs
      ·exact f1.apart id hl b o hs hf
     have xA:gV false w cI s1 ι w' (cI.or S) s1 ι H:=
      ⟨fun _ _=>aV.move sq,fun _ _=>cw.move sq,sq.dO,fun _ _ _ h=>⟨h,rfl⟩,fun h=>by simp at h,cd.jg hx (fun b o hb=>(h1.own b o hb).2) (fun b o hb hf=>a1 b o hf hb),cd.jg hx i1.je Td,fun b o hw=>hx.qx hw,fun z b o hw=>hx.kF hw⟩
     have hvs1:a8 w' (cI.or S) s1 ι (vs++lS vs) (us++gp us):=a8.move sq (a8.move g1.et hvc)
     obtain ⟨eJ,i2,_,cV⟩:=xB e.rs y dA s1 ι id (l,au) F' H hu e_ (e9.move xA (fun _ _ h=>h) e.ps k1.mK) (il.mono (by
      intro b o hz;by_cases hc:(F b o∨w.heap.size≤b)
      ·exact .inl (.inr ⟨hz,hc⟩)
      ·rcases hz2 b o hz with h1 | h1
       ·rcases h1 with h1 | h1
        ·exact .inl (.inl h1)
        ·exact .inr h1
       ·exact absurd h1.1 hc) e.rs (fun _ _ h=>h) hW) KO cP (by
      intro b o hb hh;rcases (hf2 b o hb).1 with hf | hf
      ·exact a1 b o hf hh
      ·have:=(h1.own b o hh).2;omega) (fun d ah=>⟨cj d ah,d1 d ah⟩) hvs1
     refine⟨eJ,_,i2,?_⟩;show aV w' _ au eJ (Dd l) (oG dA);simp only at cV;clear hk hu
     match l,cV with
     | [],cV=>simp only [a8] at cV;subst cV;simp only [Dd,aV,oG];exact⟨[],rfl,by simp only [a8]⟩
     | [v0],cV=>simp only [a8] at cV;obtain ⟨kL,xd,rfl,h0,rfl⟩:=cV;exact h0
     | v0 :: v1 :: l,cV=>have xD:=cV;simp only [a8] at cV;obtain ⟨kL,xd,rfl,h0,nq,us1,rfl,h1,h2⟩:=cV;simp only [Dd,aV,oG];exact⟨_,rfl,xD⟩
theorem Te{m:Nat}{n:Int}{k:Nat}(hx:aM m n=some k):0≤n∧k=n.toNat:=by
 unfold aM at hx;by_cases hc:0≤n∧n<(m:Int)
 ·rw [if_pos hc] at hx;exact⟨hc.1,(aZ hx).symm⟩
 ·rw [if_neg hc] at hx;cases hx
theorem Df{bB : Type}{r : bB} : ∀ {vs:List a_} {us:List Value} {K:List a_→Option bB},r7 s vs K=some r→a8 w Z s ι vs us→∃bK,K bK=some r∧a8 w Z s ι bK us
 | [],us,K,hk,hv=>⟨[],hk,hv⟩
 | v :: l,us,K,hk,hv=>by
  simp only [a8] at hv;obtain ⟨u,aX,rfl,h1,h2⟩:=hv;have keep:(r7 s l fun l'=>K (v :: l'))=some r→∃bK,K bK=some r∧a8 w Z s ι bK (u :: aX):=fun hk=>by obtain ⟨l',k1,k2⟩:=Df (K:=fun l'=>K (v :: l')) hk h2;exact⟨v :: l',k1,by simp only [a8];exact⟨u,aX,rfl,h1,k2⟩⟩
  cases v with
  | opt i n=>
   simp only [r7] at hk;obtain ⟨k,hx,hk⟩:=bq hk;obtain ⟨l',k1,k2⟩:=Df (K:=fun l'=>K (.ptr ⟨i,some k,0⟩ :: l')) hk h2;refine⟨_,k1,?_⟩;simp only [a8];refine⟨u,aX,rfl,?_,k2⟩;simp only [aV] at h1 ⊢;obtain ⟨h0,rfl⟩:=Te hx;obtain ⟨ki,⟨h3,_⟩ | ⟨h3,xE,rfl,h4⟩⟩:=h1
   ·omega
   ·exact⟨ki,xE,rfl,h4⟩
  | may b dp cs=>
   simp only [r7] at hk;cases b
   ·cases hk
   obtain ⟨l',k1,k2⟩:=Df (K:=fun l'=>K (.dk dp cs 0 :: l')) hk h2;refine⟨_,k1,?_⟩;simp only [a8];refine⟨u,aX,rfl,?_,k2⟩;simp only [aV] at h1 ⊢;rcases h1 with⟨h1,_⟩ | ⟨_,h1⟩
   ·cases h1
   ·exact h1
  | _=>exact keep hk
theorem adM{f:FuncId}{vs:List a_}{us:List Value}{K:a_→aq→Option bB}(dZ:De P E)(h:Inv w0 F0 Z0 n s a w ι Z)(hv:a8 w Z s ι vs us)(hk:Jy E id s f vs K=some r) :
  ∃(T:a_→aq→Prop),(∀v au,T v au→K v au=some r)∧(∃v au,T v au)∧xu P f us.toArray w fun e w'=>∃u,e=.returned u∧∀v au,T v au→∃ bp Z',Inv w0 F0 Z0 n au a w' bp Z'∧aV w' Z' au bp v u:=by
 unfold Jy at hk;obtain ⟨bK,ew,lV⟩:=Df hk hv;exact adL dZ h lV ew
theorem adN{c:Call}{cc:Operand}(dZ:De P E)(h:Inv w0 F0 Z0 n s a w ι Z)(ah:∀k,o.dst=some k→k<n)(ho:o.op=.call c)(hc:c.callee=.value cc)(hk:c3 E id o s K=some r) :
  ∃au,K au=some r∧o.wp P a w (c8 w0 F0 Z0 n au) Q:=by
 unfold c3 at hk;rw [ho] at hk;simp only [hc] at hk;have hvs:=uu h c.args.toList;have hf:=fe h cc
 cases Dg:b0 s cc with
 | fn KP first lP=>
  rw [Dg] at hk hf;simp only at hk;simp only [aV] at hf;obtain ⟨cG,cs,KQ,ll,hcs⟩:=hf;have qR:a8 w Z s ι (first++c.args.toList.map (b0 s)++lP) (cG++c.args.toList.map a.eval++cs):=(ll.append hvs).append hcs;obtain ⟨T,adO,⟨v,au,b3⟩,xF⟩:=adM dZ h qR hk;refine⟨_,adO v au b3,?_⟩;unfold Oper.wp;have hrun:(execOp a.eval o).run P w=(callFunc KP (cG++c.args.toList.map a.eval++cs).toArray).run P w:=by unfold execOp;rw [ho];simp only [run_bind,resolve,hc,KQ,Deferred.ofValue,run_pure,invoke];congr 2;apply Array.ext';simp
  rw [hrun];rcases xF with⟨⟨fn,zT,KR,jo⟩,xF⟩ | ⟨u,w',uD,gW,zD,hu⟩
  ·have KS:(callFunc KP (cG++c.args.toList.map a.eval++cs).toArray).run P w=.ok (.enter KP (cG++c.args.toList.map a.eval++cs).toArray) w:=by
    simp only [callFunc,run_bind,run_pure,program,Sem.run,zT];rw [if_neg (by rw [jo];simp),if_neg (by rw [KR];simp)];simp only [run_pure]
   rw [KS,Oper.upon_enter];refine xF.mono ?_
   rintro e w' ⟨u,rfl,hu⟩
   obtain ⟨bp,Z',hinv,cV⟩:=hu v au b3;exact⟨bp,Z',hinv.dst cV ah⟩
  ·rw [uD,Oper.upon_value];cases zD;obtain ⟨bp,Z',hinv,cV⟩:=hu v au b3;exact⟨bp,Z',hinv.dst cV ah⟩
 | _=>rw [Dg] at hk;simp at hk
structure j6(P:Program)(E:Env):Prop where
 ty:hB P E
 eq:Sn P E
 fns:De P E
 mix:P.follows .mixedOrders=true
theorem adP(bS:j6 P E)(h:Inv w0 F0 Z0 n s a w ι Z)(ah:∀k,o.dst=some k→k<n)(hk:c3 E id o s K=some r) :
  ∃au,K au=some r∧o.wp P a w (c8 w0 F0 Z0 n au) Q:=by
 have fw:(∃au,K au=some r∧Pure P o a w (c8 w0 F0 Z0 n au))→∃au,K au=some r∧o.wp P a w (c8 w0 F0 Z0 n au) Q:=fun⟨au,h1,h2⟩=>⟨au,h1,h2.wp⟩
 cases ho:o.op with
 | move x=>exact fw (CL h ah (.inl ho) hk)
 | assign x=>exact fw (CL h ah (.inr ho) hk)
 | pick c x y=>exact fw (R7 h ah ho hk)
 | alloc t=>exact acB bS.ty h ah ho hk
 | box t x=>exact acC bS.ty h ah ho hk
 | build t ps=>exact fw (SF bS.ty h ah ho hk)
 | buildSlice t m ps=>exact ac3 bS.ty h ah ho hk
 | load t x=>exact acD bS.ty h ah ho hk
 | store t x y=>exact acF bS.ty h ah ho hk
 | nilCheck x=>exact fw (R9 h ah ho hk)
 | binOp op t x y CQ=>exact fw (Sp bS.ty bS.eq h ah ho hk)
 | unOp op t x=>exact fw (Sm h ah ho hk)
 | convert st gy x=>exact acT bS.ty h ah ho hk
 | makeFunc f first lP=>
  cases f with
  | func f=>exact fw (Sc h ah ho hk)
  | _=>unfold c3 at hk;rw [ho] at hk;simp at hk
 | makeSlice t x y=>exact acP bS.ty h ah ho hk
 | slice t x lo hi fr=>exact fw (Si bS.ty h ah ho hk)
 | fieldAddr t x f=>exact fw (R' bS.ty h ah ho hk)
 | field t x f=>exact fw (Sa bS.ty h ah ho hk)
 | indexAddr t x i=>exact fw (Sd bS.ty h ah ho hk)
 | index t x i=>exact fw (Se bS.ty h ah ho hk)
 | extract x i=>exact fw (Sb h ah ho hk)
 | call c=>
  cases hc:c.callee with
  | builtin b=>
   by_cases hb:b=.append
   ·subst hb;exact adf bS.ty h ah ho hc hk
   ·by_cases hb2:b=.clear
    ·subst hb2;exact adn bS.ty h ah ho hc hk
    ·exact fw (Sz bS.ty h ah ho hc hb hb2 hk)
  | value f=>exact adN bS.fns h ah ho hc hk
  | invoke x m=>unfold c3 at hk;rw [ho] at hk;simp [hc] at hk
 | _=>unfold c3 at hk;rw [ho] at hk;simp at hk
end
end Go.LM
namespace Go.LM
mutual
theorem ae.beq_refl:∀t:ae,ae.beq t t=true
 | .int k=>by simp [ae.beq]
 | .bool=>rfl
 | .str=>rfl
 | .raw=>rfl
 | .sl t=>by simp only [ae.beq];exact ae.beq_refl t
 | .st ak=>by simp only [ae.beq];exact aC.beq_refl ak
theorem aC.beq_refl:∀t:aC,aC.beq t t=true
 | .nil=>rfl
 | .cons t ak=>by simp only [aC.beq,ae.beq_refl t,aC.beq_refl ak,cond_true]
end
theorem adQ(a:ae)(x:a.D):eP a a x=some x:=by unfold eP;rw [dif_pos (ae.beq_refl a)]
section
variable{w ch:World}{Z bR:ai}
def Tf(w:World)(Z:ai)(t:ae)(z:List t.D)(v:Value)(H1 G1:ai)(R:World→ai→List t.D→Value→ai→Prop):Prop:=
 (ae.sl t).ar w Z (.O t.own) z [v] H1∧ai.apart H1 G1∧∀(ch:World) (bR X:ai) (y:List t.D) (u:Value),cd w ch G1→(ae.sl t).ar ch bR (.O t.own) y [u] X→ai.apart X G1→R ch bR y u (X.or G1)
mutual
theorem ae.uE:∀(T:ae) (off:Nat) (t:ae) {x:T.D} {z:List t.D} {us:List Value} {G:ai},T.ar w Z T.own x us G→T.getAt off t x=some z →
  ∃v H1 G1,us[off]?=some v∧ai.sub H1 G∧ai.sub G1 G∧Tf w Z t z v H1 G1 (fun ch bR y u eT=>∀bG,T.setAt off t y x=some bG→T.ar ch bR T.own bG (us.set off u) eT)
 | .int _,_,_,_,_,_,_,_,h=>by simp [ae.getAt] at h
 | .bool,_,_,_,_,_,_,_,h=>by simp [ae.getAt] at h
 | .str,_,_,_,_,_,_,_,h=>by simp [ae.getAt] at h
 | .raw,_,_,_,_,_,_,_,h=>by simp [ae.getAt] at h
 | .sl u,off,t,x,z,us,G,hr,h=>by
  simp only [ae.getAt] at h;cases hb:Nat.beq off 0
  ·rw [hb] at h;cases h
  rw [hb] at h;obtain rfl:=Nat.eq_of_beq_eq_true hb;obtain ⟨e,rfl⟩:=hp h;subst e;have iJ:=hr;simp only [ae.own,ae.ar] at hr;obtain ⟨A,c,rfl,_⟩:=hr;refine⟨_,G,ai.none,rfl,fun _ _ h=>h,fun _ _ h=>h.elim,iJ,fun _ _ _ h=>h.elim,fun ch bR X y kL _ h2 _ bG hs=>?_⟩;simp only [ae.setAt] at hs;obtain ⟨e,rfl⟩:=hp (show eP (.sl u) (.sl u) y=some bG from hs);exact ae.ar.mono (fun _ _ h=>h) _ _ (fun _ _ h=>.inl h) h2
 | .st ak,off,t,x,z,us,G,hr,h=>by
  have ik:ak.flat=false:=by
   cases hf:ak.flat
   ·rfl
   ·exact(ae.xr (.st ak) (by simpa only [ae.flat] using hf) h).elim
  simp only [ae.own,ik,Bool.false_eq_true,if_false,ae.ar,bl.parts] at hr;simp only [ae.getAt] at h;obtain ⟨v,H1,G1,h1,h2,h3,h4,a',br⟩:=aC.uE ak off t hr h;refine⟨v,H1,G1,h1,h2,h3,h4,a',fun ch bR X y kL k1 k2 k3 bG hs=>?_⟩;simp only [ae.setAt] at hs;simp only [ae.own,ik,Bool.false_eq_true,if_false,ae.ar,bl.parts];exact br ch bR X y kL k1 k2 k3 bG hs
theorem aC.uE:∀(ak:aC) (off:Nat) (t:ae) {x:ak.D} {z:List t.D} {us:List Value} {G:ai},ak.ar w Z ak.own x us G→ak.getAt off t x=some z →
  ∃v H1 G1,us[off]?=some v∧ai.sub H1 G∧ai.sub G1 G∧Tf w Z t z v H1 G1 (fun ch bR y u eT=>∀bG,ak.setAt off t y x=some bG→ak.ar ch bR ak.own bG (us.set off u) eT)
 | .nil,_,_,_,_,_,_,_,h=>by simp [aC.getAt] at h
 | .cons T ak,off,t,x,z,us,G,hr,h=>by
  simp only [aC.own,aC.ar,c4.ah,c4.dF] at hr;obtain ⟨nq,jk,nG,nH,rfl,bH,cm,hap,ha,hb⟩:=hr;have hl:=(ae.ar.len T _ bH).1;simp only [aC.getAt] at h;cases b2:Nat.blt off T.size
  ·rw [b2] at h
   have xt:T.size≤off:=by
    rcases Nat.lt_or_ge off T.size with h1 | h1
    ·have:Nat.blt off T.size=true:=Nat.ble_eq_true_of_le h1;rw [this] at b2;cases b2
    ·exact h1
   obtain ⟨v,H1,G1,h1,h2,h3,h4,a',br⟩:=aC.uE ak (off-T.size) t cm h;refine⟨v,H1,nG.or G1,?_,fun b o x=>hb b o (h2 b o x),?_,h4,?_,fun ch bR X y kL k1 k2 k3 bG hs=>?_⟩
   ·rw [List.getElem?_append_right (by omega),hl];exact h1
   ·rintro b o (y | y)
    ·exact ha b o y
    ·exact hb b o (h3 b o y)
   ·rintro b o y (q | q)
    ·exact hap b o q (h2 b o y)
    ·exact a' b o y q
   ·simp only [aC.setAt,b2,cond_false] at hs;obtain ⟨j4,hz,hs⟩:=bq hs;obtain rfl:=aZ hs;simp only [aC.own,aC.ar,c4.ah,c4.dF];refine⟨nq,jk.set (off-T.size) kL,nG,X.or G1,by rw [List.set_append_right _ _ (by omega),hl],qN T (k1.mono fun _ _ h=>.inl h) bH,br ch bR X y kL (k1.mono fun _ _ h=>.inr h) k2 (fun b o p q=>k3 b o p (.inr q)) j4 hz,?_,fun _ _ h=>.inr (.inl h),?_⟩
    ·rintro b o p (q | q)
     ·exact k3 b o q (.inl p)
     ·exact hap b o p (h3 b o q)
    ·rintro b o (q | q)
     ·exact .inl q
     ·exact .inr (.inr q)
  ·rw [b2] at h;have xt:off<T.size:=Nat.le_of_ble_eq_true b2;obtain ⟨v,H1,G1,h1,h2,h3,h4,a',br⟩:=ae.uE T off t bH h;refine⟨v,H1,G1.or nH,?_,fun b o x=>ha b o (h2 b o x),?_,h4,?_,fun ch bR X y kL k1 k2 k3 bG hs=>?_⟩
   ·rw [List.getElem?_append_left (by omega)];exact h1
   ·rintro b o (y | y)
    ·exact ha b o (h3 b o y)
    ·exact hb b o y
   ·rintro b o y (q | q)
    ·exact a' b o y q
    ·exact hap b o (h2 b o y) q
   ·simp only [aC.setAt,b2,cond_true] at hs;obtain ⟨j4,hz,hs⟩:=bq hs;obtain rfl:=aZ hs;simp only [aC.own,aC.ar,c4.ah,c4.dF];refine⟨nq.set off kL,jk,X.or G1,nH,by rw [List.set_append_left _ _ (by omega)],br ch bR X y kL (k1.mono fun _ _ h=>.inl h) k2 (fun b o p q=>k3 b o p (.inl q)) j4 hz,SX ak (k1.mono fun _ _ h=>.inr h) cm,?_,?_,fun _ _ h=>.inr (.inr h)⟩
    ·rintro b o (p | p) q
     ·exact k3 b o p (.inr q)
     ·exact hap b o (h3 b o p) q
    ·rintro b o (q | q)
     ·exact .inl q
     ·exact .inr (.inl q)
end
theorem nk.uE{T:ae}{ys:List T.D}{a:Addr}{c:Nat}{F:ai}{i off:Nat}{t:ae}{z:List t.D}(h:nk w (T.ar w Z T.own) T.size ys a c F)(hi:i<ys.length)(aI:T.getAt off t (I T ys i)=some z) :
  ∃v H1,w.cell? (at_ a.block (a.off+i*T.size+off))=some v∧(ae.sl t).ar w Z (.O t.own) z [v] H1∧ai.sub H1 F∧ai.diff F H1 a.block (a.off+i*T.size+off)∧fZ w T.size a.block (a.off+i*T.size+off) ∧
   ∀(ch:World) (bR X:ai) (y:List t.D) (bG:T.D) (u:Value),cd w ch (fun b o=>ai.diff F H1 b o∧¬(b=a.block∧o=a.off+i*T.size+off))→ch.cell? (at_ a.block (a.off+i*T.size+off))=some u →
    fZ ch T.size a.block (a.off+i*T.size+off)→(ae.sl t).ar ch bR (.O t.own) y [u] X→ai.apart X (ai.diff F H1)→T.setAt off t y (I T ys i)=some bG →
    nk ch (T.ar ch bR T.own) T.size (ys.set i bG) a c (X.or (ai.diff F H1)):=by
 rw [c0 hi] at aI ⊢;obtain ⟨G,g1,g2,g3⟩:=h.row;obtain ⟨nG,jj,nH,vs,bH,Ks,hvl,cB,cm,a1,a2,a3,s1,s2,s3⟩:=g1.C1 i hi;obtain ⟨v,H1,G1,hv,k1,k2,k3,bg,bx⟩:=ae.uE T off t Ks aI;have zE:ai.sub H1 G:=fun b o x=>s2 b o (k1 b o x)
 have hle:ys.length*T.size≤c*T.size:=Nat.mul_le_mul_right _ h.cap;have gT:(i+1)*T.size≤ys.length*T.size:=Nat.mul_le_mul_right _ hi;rw [Nat.add_one_mul] at gT
 have fK:off<T.size:=by
  rcases Nat.lt_or_ge off T.size with h1 | h1
  ·exact h1
  ·rw [List.getElem?_eq_none (by omega)] at hv;cases hv
 have uw:∀ {A:ai},ai.sub A G→ai.apart A H1→ai.sub A (ai.diff F H1):=fun hA av b o x=>⟨g3 b o (hA b o x),fun y=>av b o x y⟩
 have ux:ai.sub nG (ai.diff F H1):=uw s1 fun b o x y=>a1 b o x (k1 b o y)
 have uy:ai.sub nH (ai.diff F H1):=uw s3 fun b o x y=>a3 b o (k1 b o y) x
 have d1:ai.sub G1 (ai.diff F H1):=uw (fun b o x=>s2 b o (k2 b o x)) fun b o x y=>bg b o y x
 have pM:∀j,j<c*T.size→ai.diff F H1 a.block (a.off+j):=fun j hj=>⟨h.inF j hj,fun y=>g2 j hj (zE _ _ y)⟩
 have hspot:i*T.size+off<c*T.size:=by omega
 have bP:∀ {A:ai},ai.sub A G→∀b o,A b o→¬(b=a.block∧o=a.off+i*T.size+off):=by
  rintro A hA b o x ⟨rfl,rfl⟩
  have:=g2 (i*T.size+off) hspot;rw [← Nat.add_assoc] at this;exact this (hA _ _ x)
 refine⟨v,H1,cB off v hv,k3,fun b o x=>g3 b o (zE b o x),by have:=pM _ hspot;rwa [← Nat.add_assoc] at this,by have:=h.wr _ hspot;rwa [← Nat.add_assoc] at this,fun ch bR X y bG u hs hu hwr hr hap zF=>?_⟩;have adR:cd w ch nG:=fun b o x=>hs b o ⟨ux b o x,bP s1 b o x⟩
 have jq:cd w ch nH:=fun b o x=>hs b o ⟨uy b o x,bP s3 b o x⟩
 have adS:cd w ch G1:=fun b o x=>hs b o ⟨d1 b o x,bP (fun b o x=>s2 b o (k2 b o x)) b o x⟩
 have hcell:∀j,j<c*T.size→j≠i*T.size+off→ch.cell? (at_ a.block (a.off+j))=w.cell? (at_ a.block (a.off+j)):=fun j hj hne=>(hs _ _ ⟨pM j hj,fun h=>hne (by omega)⟩).1
 have hw2:∀j,j<c*T.size→fZ ch T.size a.block (a.off+j):=by
  intro j hj;by_cases hne:j=i*T.size+off
  ·subst hne;rwa [Nat.add_assoc] at hwr
  ·exact hs.kF ⟨pM j hj,fun h=>hne (by omega)⟩ (h.wr j hj)
 have fD:=bx ch bR X y u adS hr (fun b o p q=>hap b o p (d1 b o q)) bG zF;refine⟨h.spot,by simpa using h.cap,hw2,fun j hj=>.inr (pM j hj),nG.or ((X.or G1).or nH),?_,?_,?_⟩
 ·refine Row.C2 i hi (bH.imp (fun y us dx hG hr=>qN T (adR.mono fun b o p=>hG b o p) hr) fun j hj=>hcell j ?_ ?_) fD (by simpa using hvl) ?_ (cm.imp (fun y us dx hG hr=>qN T (jq.mono fun b o p=>hG b o p) hr) fun j hj=>?_) ?_ a2 ?_
  ·simp only [List.length_take] at hj;have:min i ys.length*T.size≤ys.length*T.size:=Nat.mul_le_mul_right _ (Nat.min_le_right _ _);omega
  ·simp only [List.length_take] at hj;have:min i ys.length*T.size≤i*T.size:=Nat.mul_le_mul_right _ (Nat.min_le_left _ _);omega
  ·intro k q hk;by_cases Tg:k=off
   ·subst Tg;rw [List.getElem?_set_self (by omega)] at hk;rw [← aZ hk];exact hu
   ·rw [List.getElem?_set_ne (by omega)] at hk
    have nm:k<vs.length:=by
     rcases Nat.lt_or_ge k vs.length with h1 | h1
     ·exact h1
     ·rw [List.getElem?_eq_none h1] at hk;cases hk
    have:=hcell (i*T.size+k) (by omega) (by omega);rw [← Nat.add_assoc] at this;rw [this];exact cB k q hk
  ·simp only [List.length_drop] at hj;have e1:(ys.length-(i+1))*T.size=ys.length*T.size-(i*T.size+T.size):=by rw [Nat.sub_mul,Nat.add_one_mul]
   rw [e1] at hj;have:=hcell ((i+1)*T.size+j) (by rw [Nat.add_one_mul];omega) (by rw [Nat.add_one_mul];omega);rwa [← Nat.add_assoc] at this
  ·rintro b o p (q | q)
   ·exact hap b o q (ux b o p)
   ·exact a1 b o p (k2 b o q)
  ·rintro b o (p | p) q
   ·exact hap b o p (uy b o q)
   ·exact a3 b o (k2 b o p) q
 ·rintro j hj (p | (p | p) | p)
  ·exact g2 j hj (s1 _ _ p)
  ·exact hap _ _ p (pM j hj)
  ·exact g2 j hj (s2 _ _ (k2 _ _ p))
  ·exact g2 j hj (s3 _ _ p)
 ·rintro b o (p | (p | p) | p)
  ·exact .inr (ux b o p)
  ·exact .inl p
  ·exact .inr (d1 b o p)
  ·exact .inr (uy b o p)
end
section
variable{P:Program}{Q:Exit→Act→World→Prop}
variable{w0:World}{F0 Z0:ai}{n:cO}{s au:aq}{a cg:Act}{w w':World}{ι bp:Nat→bJ}{Z Z':ai}
variable{E:Env}{bB : Type}{r : bB}
theorem KT(a:Act){d:Nat}(v:Value)(ah:d<a.tmps.size):(a.put (some d) v).eval (.tmp d)=v:=by show(a.tmps.setIfInBounds d v).getD d undef=v;rw [JN _ _ _ _ ah,if_pos rfl]
theorem zU(a:Act){d k:Nat}(v:Value)(ah:d<a.tmps.size)(hk:d≠k):(a.put (some d) v).eval (.tmp k)=a.eval (.tmp k):=by show(a.tmps.setIfInBounds d v).getD k undef=a.tmps.getD k undef;rw [JN _ _ _ _ ah,if_neg hk]
theorem Th(a:Act)(d:Nat)(v:Value):(a.put (some d) v).tmps.size=a.tmps.size:=by show(a.tmps.setIfInBounds d v).size=_;simp
theorem Ti{u t:ae}{dp:List (Nat×Nat)}{p:Place}{xs:List u.D}{v:Value}{mN:List t.D}{s0:aq}(h:Inv w0 F0 Z0 n s a w ι Z)(hc:cw w Z s ι (.bY u dp (some p) xs) v)
  (hl:ua t t.own s dp (some p)=some (mN,s0)) :
  ∃(i:Nat) (T:ae) (ver:Nat) (ys:List T.D) (cX dV:Nat) (H1:ai),p.fD=some i∧s.o p.id=.row T T.own ver ys∧s0=s.bV p.id (.ck (.row T T.own ver ys))∧i<ys.length∧(ι p.id).base=some (at_ cX dV) ∧
   Inv w0 F0 Z0 n s0 a w ι Z∧fL s ι Z s0 Z∧bM w0 F0 s0 w ι Z H1∧bM w0 F0 s0 w ι Z (ai.diff (ι p.id).F H1)∧(ae.sl t).ar w Z (.O t.own) mN [v] H1∧ai.sub H1 (ι p.id).F ∧
   ai.diff (ι p.id).F H1 cX (dV+i*T.size+p.off)∧fZ w T.size cX (dV+i*T.size+p.off) ∧
   ∀(ch:World) (bR X:ai) (y:List t.D) (bG:T.D) (q:Value),cd w ch (fun b o=>ai.diff (ι p.id).F H1 b o∧¬(b=cX∧o=dV+i*T.size+p.off))→ch.cell? (at_ cX (dV+i*T.size+p.off))=some q →
    fZ ch T.size cX (dV+i*T.size+p.off)→(ae.sl t).ar ch bR (.O t.own) y [q] X→ai.apart X (ai.diff (ι p.id).F H1)→T.setAt p.off t y (I T ys i)=some bG →
    nk ch (T.ar ch bR T.own) T.size (ys.set i bG) (at_ cX dV) (ι p.id).cap (X.or (ai.diff (ι p.id).F H1)):=by
 simp only [ua] at hl
 cases ff:p.fD with
 | none=>rw [ff] at hl;simp at hl
 | some i=>
  rw [ff] at hl
  cases ho:s.o p.id with
  | row T em ver ys=>
   rw [ho] at hl;simp only at hl;cases hb:(alive s dp&&bl.beq em T.own&&bl.beq t.own t.own)
   ·rw [hb] at hl;simp at hl
   rw [hb] at hl;simp only [cond_true] at hl;simp only [Bool.and_eq_true] at hb;obtain rfl:=bl.eq_of_beq _ _ hb.1.2;obtain ⟨x,hx,hl⟩:=bq hl;simp only [Option.some.injEq,Prod.mk.injEq] at hl;obtain ⟨rfl,rfl⟩:=hl;obtain ⟨_,_,_,lq⟩:=hc;obtain ⟨_,lq⟩:=lq _ rfl;obtain ⟨iI,dN,⟨_,gf⟩,hcell,hin⟩:=lq hb.1.1;simp only [ho,cE.core] at gf;obtain ⟨dS,hii,lr,a0,eL,nA⟩:=gf;rw [ff] at hii;obtain rfl:=aZ hii;have cj:(s.o p.id).live:=by rw [ho];trivial
   have aI:fL s ι Z (s.bV p.id (.ck (.row T T.own ver ys))) Z:=by have:=zG (s:=s) (ι := ι) (Z:=Z) cj;rw [ho] at this;exact this
   have fs:bM w0 F0 (s.bV p.id (.ck (.row T T.own ver ys))) w ι Z (ι p.id).F:=by have:=h.zH cj;rw [ho] at this;exact this
   have da:=h.f_ p.id;rw [ho] at da;rcases da with⟨hx0,_⟩ | ⟨a1,hb1,hr⟩
   ·rw [hx0] at lr;simp at lr
   rw [eL] at hb1;obtain rfl:=aZ hb1;obtain ⟨ab,ao,sp⟩:=a0;have hsp:=hr.spot;simp only at hsp;subst hsp;obtain ⟨eX,H1,eb,eS,oB,adT,adU,pH⟩:=hr.uE lr hx;rw [← nA] at eb;have Kw:eX=v:=by rw [hcell] at eb;exact(aZ eb).symm
   subst Kw;exact⟨i,T,ver,ys,ab,ao,H1,rfl,rfl,rfl,lr,eL,h.mG aI,aI,fs.sub oB,fs.sub fun _ _ h=>h.1,eS,oB,adT,adU,pH⟩
  | _=>rw [ho] at hl;simp at hl
theorem adV{v:a_}{K:Place→Option bB}(hk:JC s v K=some r):∃j1,K j1=some r∧∀ {w':World} {Z':ai} {au:aq} {bp:Nat→bJ} {x:Value},aV w' Z' au bp v x→∃A,x=.pointer (some A)∧jF au bp j1 A:=by
 unfold JC at hk;cases v <;> simp only at hk <;> try (cases hk;done)
 ·exact⟨_,hk,fun hv=>by simp only [aV] at hv;exact hv.2⟩
 ·obtain ⟨k,h1,hk⟩:=bq hk;obtain ⟨h2,rfl⟩:=Te h1;refine⟨_,hk,fun hv=>?_⟩;simp only [aV] at hv;rcases hv.2 with⟨h3,_⟩ | ⟨_,h3⟩
  ·omega
  ·exact h3
theorem adW{dN:Oper}{T:ae}{k1 d0 i ver cX dV:Nat}{p j1:Place}{ys:List T.D}{hv:Value}{s1:aq}(mO:dN.op=.nilCheck (.tmp k1))(iE:k1≠d0)(jr:d0<n.n)(uF:j1.id=p.id)(Dh:j1.fD=some i)(sx:Inv w0 F0 Z0 n s1 a w' ι Z)
  (KU:∀ {w':World} {Z':ai} {au:aq} {bp:Nat→bJ} {x:Value},aV w' Z' au bp (s1.t k1) x→∃A,x=.pointer (some A)∧jF au bp j1 A)
  (pS:s1.o p.id=.ck (.row T T.own ver ys)) (eL:(ι p.id).base=some (at_ cX dV)):(execOp (a.put (some d0) hv).eval dN).run P w'=.ok (.value (.pointer (some (at_ cX (dV+i*T.size+j1.off))))) w':=by
 obtain ⟨aq',adX,hsp,nL⟩:=KU (sx.tmps k1);rw [uF,pS] at nL;simp only [cE.core] at nL;obtain ⟨dS,hii,_,a0,gx,KV⟩:=nL;rw [hii] at Dh;obtain rfl:=aZ Dh;rw [eL] at gx;obtain rfl:=aZ gx;subst KV;have:(a.put (some d0) hv).eval (.tmp k1)=.pointer (some (at_ cX (dV+dS*T.size+j1.off))):=by rw [zU _ _ (by rw [sx.size];exact jr) (Ne.symm iE)];exact adX
 unfold execOp;rw [mO];simp only [this];rfl
theorem Tj{dN eQ e6:Oper}{ak:aC}{t T u:ae}{d0 d1 d2 nn np ou k i ver cX dV:Nat}{p:Place}{po:Nat}{ys:List T.D}{y:List t.D}{hv:Value}{G pT:ai}{s1 Di:aq}{A:Option Addr}{xG adY:Nat}{K:aq→Option bB}(bS:j6 P E)
  (kj:eQ.op=.fieldAddr nn (.tmp d1) ou) (qS:e6.op=.store np (.tmp d2) (.tmp d0)) (gv:dN.dst=some d1) (iM:eQ.dst=some d2) (pN:e6.dst=none)
  (iF:d0≠d1) (iG:d0≠d2) (jr:d0<n.n) (mP:d1<n.n) (mQ:d2<n.n) (uG:E.ty nn=some (.st ak)) (uH:E.ty np=some (.sl t)) (fK:ak.off ou=some (k,u)) (hz:u.size≠0)
  (js:po+k=p.off) (ff:p.fD=some i) (lr:i<ys.length) (sx:Inv w0 F0 Z0 n s1 a w' ι Z)
  (KW:(execOp (a.put (some d0) hv).eval dN).run P w'=.ok (.value (.pointer (some (at_ cX (dV+i*T.size+po))))) w')
  (pS:s1.o p.id=.ck (.row T T.own ver ys)) (eL:(ι p.id).base=some (at_ cX dV)) (pU:hv=.slice A adY xG) (cV:(ae.sl t).ar w' Z (.O t.own) y [hv] G)
  (pV:bM w0 F0 s1 w' ι Z G) (l8:bM w0 F0 s1 w' ι Z pT) (xH:ai.apart G pT) (xI:pT cX (dV+i*T.size+p.off)) (Dj:fZ w' T.size cX (dV+i*T.size+p.off))
  (xJ:∀(ch:World) (bR X:ai) (y:List t.D) (bG:T.D) (q:Value),cd w' ch (fun b o=>pT b o∧¬(b=cX∧o=dV+i*T.size+p.off))→ch.cell? (at_ cX (dV+i*T.size+p.off))=some q→fZ ch T.size cX (dV+i*T.size+p.off) →
   (ae.sl t).ar ch bR (.O t.own) y [q] X→ai.apart X pT→T.setAt p.off t y (I T ys i)=some bG→nk ch (T.ar ch bR T.own) T.size (ys.set i bG) (at_ cX dV) (ι p.id).cap (X.or pT))
  (hbk:wX t y (((s1.set d0 .ay).set d1 .ay).set d2 .ay) (some p)=some Di) (hk:K Di=some r) :
  dN.wp P (a.put (some d0) hv) w' (fun a w=>eQ.wp P a w (fun a w=>e6.wp P a w (fun a w=>∃au,K au=some r∧c8 w0 F0 Z0 n au a w) Q) Q) Q:=by
 have hcl:hv.cells = #[hv]:=by rw [pU];rfl
 have oJ:ek hv=true:=by rw [pU];rfl
 have hsz:=sx.size;have adZ:Inv w0 F0 Z0 n (s1.set d0 .ay) (a.put (some d0) hv) w' ι Z:=sx.set (by simp only [aV]) jr;have Dk:(a.put (some d0) hv).tmps.size=n.n:=by rw [Th];exact hsz
 unfold Oper.wp;rw [KW,Oper.upon_value,gv];obtain ⟨a2,zV⟩:∃a2,a2=(a.put (some d0) hv).put (some d1) (.pointer (some (at_ cX (dV+i*T.size+po)))):=⟨_,rfl⟩
 rw [← zV];have Tk:a2.tmps.size=n.n:=by rw [zV,Th];exact Dk
 have qT:a2.eval (.tmp d1)=.pointer (some (at_ cX (dV+i*T.size+po))):=by rw [zV];exact KT _ _ (by rw [Dk];exact mP)
 have ad0:a2.eval (.tmp d0)=hv:=by rw [zV,zU _ _ (by rw [Dk];exact mP) (Ne.symm iF)];exact KT _ _ (by rw [hsz];exact jr)
 obtain ⟨pos,gg⟩:∃pos,pos=dV+i*T.size+p.off:=⟨_,rfl⟩
 rw [← gg] at xI Dj xJ;have ad1:(execOp a2.eval eQ).run P w'=.ok (.value (.pointer (some (at_ cX pos)))) w':=by obtain ⟨cG,hu,ll⟩:=J8 (bS.ty.ty nn _ uG);obtain ⟨ara,h1,h2,h3⟩:=aC.CM ll fK;rw [Array.getElem?_toList] at h1;unfold execOp;rw [kj];refine gd ?_;simp only [Instr.fieldAt,run_bind,run_underlying hu,h1,Instr.sureAddr,qT,run_pure,R_ h3 hz,h2,Nat.zero_add];rw [gg,← js,Nat.add_assoc]
 rw [ad1,Oper.upon_value,iM];obtain ⟨a3,Dl⟩:∃a3,a3=a2.put (some d2) (.pointer (some (at_ cX pos))):=⟨_,rfl⟩
 rw [← Dl];have ad2:a3.eval (.tmp d2)=.pointer (some (at_ cX pos)):=by rw [Dl];exact KT _ _ (by rw [Tk];exact mQ)
 have ad3:a3.eval (.tmp d0)=hv:=by rw [Dl,zU _ _ (by rw [Tk];exact mQ) (Ne.symm iG)];exact ad0
 have Dm:Inv w0 F0 Z0 n (((s1.set d0 .ay).set d1 .ay).set d2 .ay) a3 w' ι Z:=by rw [Dl,zV];exact(adZ.set (by simp only [aV]) mP).set (by simp only [aV]) mQ
 have Tl:(execOp a3.eval e6).run P w'=.ok .skip (setCells w' cX pos [hv]):=by
  unfold execOp;rw [qS]
  have:=J5 (P:=P) (w:=w') (bS.ty.ty np _ uH) (b:=cX) (o:=pos) (v:=hv) (by rw [hcl];rfl) (by rw [hcl];intro u hu;simp at hu;rw [hu];exact oJ) (fun j hj=>by
   rw [hcl] at hj;have:j=0:=by simp at hj;omega
   subst this;exact Dj.1)
  rw [hcl] at this;simp only [Instr.storeAt,Instr.sureAddr,ad2,ad3,run_bind,run_pure,this]
 have KX:bM w0 F0 (((s1.set d0 .ay).set d1 .ay).set d2 .ay) w' ι Z pT:=⟨l8.own,l8.apart,l8.dd⟩;have pV:bM w0 F0 (((s1.set d0 .ay).set d1 .ay).set d2 .ay) w' ι Z G:=⟨pV.own,pV.apart,pV.dd⟩;obtain ⟨pW,hw3⟩:∃pW,pW=setCells w' cX pos [hv]:=⟨_,rfl⟩
 rw [← hw3] at Tl
 have hx3:Ext w' pW (ai.run cX pos 1):=by
  rw [hw3]
  exact oi cX [hv] w' pos fun j hj=>by
   have:j=0:=by simp at hj;omega
   subst this;exact⟨rfl,by omega,by omega⟩
 have Tm:ai.sub (ai.run cX pos 1) pT:=by
  rintro b o ⟨rfl,k2,k3⟩
  rw [show o=pos by omega];exact xI
 have KY:Inv w0 F0 Z0 n (((s1.set d0 .ay).set d1 .ay).set d2 .ay) a3 pW ι Z:=Dm.CT (KX.sub Tm) hx3
 have ad4:pW.cell? (at_ cX pos)=some hv:=by
  rw [hw3,w7 cX [hv] w' pos (fun j hj=>by
   have:j=0:=by simp at hj;omega
   subst this;exact Dj.1.1),if_pos ⟨rfl,by omega,by simp⟩]
  simp
 have ad5:cd w' pW G:=cd.jg hx3 (fun b o aI=>(pV.own b o aI).2) fun b o aI hr=>xH b o aI (Tm b o hr)
 have ad6:(ae.sl t).ar pW Z (.O t.own) y [hv] G:=qN (.sl t) ad5 cV
 have zW:cd w' pW (fun b o=>pT b o∧¬(b=cX∧o=pos)):=by
  refine cd.jg hx3 (fun b o hb=>(KX.own b o hb.1).2) ?_
  rintro b o ⟨_,hne⟩ ⟨rfl,k2,k3⟩
  exact hne ⟨rfl,by omega⟩
 have KZ:(((s1.set d0 .ay).set d1 .ay).set d2 .ay).o p.id=.ck (.row T T.own ver ys):=pS;simp only [wX,ff] at hbk;rw [KZ] at hbk;simp only at hbk;obtain ⟨z,ad7,hbk⟩:=bq hbk;obtain rfl:=aZ hbk
 obtain ⟨Tn,To,_⟩:=zM KY (id:=p.id) (o:=.row T T.own (ver+1) (ys.set i z)) (i:=⟨(ι p.id).base,(ι p.id).cap,G.or pT⟩) (by rw [KZ];exact fun h=>h) (fun o'=>by simp) (by rw [KZ];exact .sb _ _ _ _ _ _ _ _ _ (by omega) (by simp) rfl rfl)
  (fun hm=>.inr ⟨at_ cX dV,eL,xJ pW Z G y z hv zW ad4 (hx3.kF Dj) ad6 xH ad7⟩) ((pV.ext hx3).or (KX.ext hx3))
 refine Oper.wp_mono (fun a w hs=>⟨_,hk,?_⟩) (wp_skip Tl To (fun k hk=>by rw [pN] at hk;cases hk));rw [pN] at hs;exact hs
def xK(s:aq)(ι : Nat→bJ)(X:ai):ai:=fun b o=>X b o∨∃id,(s.o id).live∧(ι id).F b o
theorem Inv.here(h:Inv w0 F0 Z0 n s a w ι Z)(X:ai):Inv w (xK s ι X) Z n s a w ι Z:=
 ⟨Ext.refl _ _,fun _ _ hz=>.inl hz,fun _ _ h=>h,h.je,h.f_,fun id hl b o hf=>⟨.inl (.inr ⟨id,hl,hf⟩),(h.own id hl b o hf).2⟩,h.apart,h.dd,h.tmps,h.size,h.ghost,h.seen,h.defers⟩
theorem Dn(h:Inv w0 F0 Z0 n s a w ι Z){X:ai}(hX:bM w0 F0 s w ι Z X){b o:Nat}(hf:xK s ι X b o∨w.heap.size≤b):F0 b o∨w0.heap.size≤b:=by
 have hsz:=h.ext.size;rcases hf with(hf | ⟨id,hl,hf⟩) | hf
 ·exact(hX.own b o hf).1
 ·exact(h.own id hl b o hf).1
 ·exact .inr (by omega)
theorem Inv.ad8(h:Inv w0 F0 Z0 n s a w ι Z){X:ai}(hX:bM w0 F0 s w ι Z X)(h':Inv w (xK s ι X) Z n au cg w' bp Z'):Inv w0 F0 Z0 n au cg w' bp Z':=by
 refine⟨h.ext.trans' h'.ext fun i o hf=>Dn h hX (.inl hf),fun b o hz=>?_,fun b o hz=>h'.sa b o (h.sa b o hz),h'.je,h'.f_,fun id hl b o hf=>⟨Dn h hX (h'.own id hl b o hf).1,(h'.own id hl b o hf).2⟩,h'.apart,h'.dd,h'.tmps,h'.size,h'.ghost,h'.seen,h'.defers⟩;rcases h'.dO b o hz with h1 | h1
 ·exact h.dO b o h1
 ·exact .inr (Dn h hX h1)
theorem ad9{o dN eQ e6:Oper}{c:Call}{ak:aC}{t u ul:ae}{d0 d1 d2 nn np ou k i id:Nat}{p:Place}{po:Nat}{dp:List (Nat×Nat)}{K0:List ul.D}{vb:a_}{cb:bd}{M:aq→Bool}{K:aq→Option bB}(bS:j6 P E)(h:Inv w0 F0 Z0 n s a w ι Z)
  (ho:o.op=.call c) (hc:c.callee=.builtin .append) (l3:c.args.toList.map (b0 s)=[.aW (.bY ul dp (some p) K0),vb]) (gU:wZ E c.argTypes.toList=some t) (uv:oneCell t vb=some cb) (uI:o.dst=some d0)
  (kj:eQ.op=.fieldAddr nn (.tmp d1) ou) (qS:e6.op=.store np (.tmp d2) (.tmp d0)) (gv:dN.dst=some d1) (iM:eQ.dst=some d2) (pN:e6.dst=none)
  (iF:d0≠d1) (iG:d0≠d2) (jr:d0<n.n) (mP:d1<n.n) (mQ:d2<n.n) (uG:E.ty nn=some (.st ak)) (uH:E.ty np=some (.sl t)) (fK:ak.off ou=some (k,u)) (hz:u.size≠0)
  (js:po+k=p.off) (zX:p.fD=some i)
  (KW:∀ {T:ae} {ver cX dV:Nat} {ys:List T.D} {s1:aq} {dH:Nat→bJ} {cI:ai} {oK:World} {hv:Value},Inv w0 F0 Z0 n s1 a oK dH cI→s1.t=s.t→s1.o p.id=.ck (.row T T.own ver ys)→s.o p.id=.row T T.own ver ys→(dH p.id).base=some (at_ cX dV) →
   (execOp (a.put (some d0) hv).eval dN).run P oK=.ok (.value (.pointer (some (at_ cX (dV+i*T.size+po))))) oK)
  (hk:JG id t p dp s cb d0 d1 d2 M K=some r) :
  o.wp P a w (fun a w=>(∃ov,M ov=true∧c8 w0 F0 Z0 n ov a w)∧dN.wp P a w (fun a w=>eQ.wp P a w (fun a w=>e6.wp P a w (fun a w=>∃au,K au=some r∧c8 w0 F0 Z0 n au a w) Q) Q) Q) Q:=by
 have hvs:=uu h c.args.toList;have Tp:(c.args.map a.eval).toList=c.args.toList.map a.eval:=by simp
 rw [l3] at hvs;simp only [a8] at hvs;obtain ⟨SU,_,he,nE,adg,_,rfl,Ko,rfl⟩:=hvs;simp only [aV] at nE;obtain ⟨hU,ib,rest,e,mF,hu,cK,km⟩:=SS bS.ty gU;have hb1:=Kn uv Ko;unfold JG at hk
 cases qL:added s t cb with
 | none=>rw [qL] at hk;cases hk
 | some q=>
 obtain ⟨kI,ys,s1⟩:=q;rw [qL] at hk;simp only at hk;cases mC:bl.beq kI t.own
 ·rw [mC] at hk;cases hk
 rw [mC] at hk;simp only [cond_true] at hk;obtain rfl:=bl.eq_of_beq _ _ mC;obtain ⟨⟨mN,s2⟩,iL,hk⟩:=bq hk;obtain ⟨s3,ny,hk⟩:=bq hk;obtain ⟨hroom,hk⟩:=sj hk;cases qU:M (s3.set d0 .ay)
 ·rw [qU] at hk;cases hk
 rw [qU] at hk;simp only [cond_true] at hk;obtain ⟨Di,hbk,K1⟩:=bq hk;obtain ⟨cf,rfl⟩:=qI ny;simp only at cf hbk hroom;obtain ⟨vs,hD,hlen,qM,hels,h1,hs1,oD⟩:=SK (P:=P) qL h hb1;have hc1:cw w Z s1 ι (.bY ul dp (some p) K0) SU:=cw.move hs1.et nE;obtain ⟨dS,T,ver,zY,cX,dV,H1,ff,ec,oE,lr,eL,i0,Dp,uJ,l8,K2,Tq,xI,K3,xJ⟩:=Ti h1 hc1 iL;rw [ff] at zX;obtain rfl:=aZ zX;have Dq:=oD.uz Dp;have Tr:(s1.o p.id).live:=by rw [ec];trivial
 have l4:ai.apart H1 hD:=fun b o x y=>oD.apart p.id Tr b o y (Tq b o x)
 have Ts:=uJ.or Dq;have ad_:bM w (xK s2 ι (H1.or hD)) s2 w ι Z H1:=⟨fun b o x=>⟨.inl (.inl (.inl x)),(uJ.own b o x).2⟩,uJ.apart,uJ.dd⟩;have ad':bM w (xK s2 ι (H1.or hD)) s2 w ι Z hD:=⟨fun b o x=>⟨.inl (.inl (.inr x)),(Dq.own b o x).2⟩,Dq.apart,Dq.dd⟩
 obtain ⟨eX,w',mR,hrun,hinv,hcell⟩:=SM (P:=P) (id:=id) (ty:=o.type) (ats:=c.argTypes) (args:=c.args.map a.eval) (by rw [← Array.getElem?_toList,mF];rfl) (by rw [← Array.getElem?_toList,mF];rfl)
  (by rw [← Array.getElem?_toList,Tp,he];rfl) (by rw [← Array.getElem?_toList,Tp,he];rfl) hu cK km (Nat.le_of_ble_eq_true hroom) (i0.here _) cf K2 hels ad_ ad' l4 hlen qM
 have kK:taken (s2.bV id (.row t t.own 0 (mN++ys))) t (.ah id none)=some (t.own,mN++ys,(s2.bV id (.row t t.own 0 (mN++ys))).bV id .dead):=by simp only [taken];rw [show(s2.bV id (.row t t.own 0 (mN++ys))).o id=.row t t.own 0 (mN++ys) from cN _ _ _];simp only [lf];rw [adQ];rfl
 obtain ⟨G,Tt,i4,arb,xL,arc⟩:=SL kK hinv hcell
 have K4:(s2.bV id (.row t t.own 0 (mN++ys))).bV id .dead=s2.bV id .dead:=by
  show { s2 with o:=bZ (bZ s2.o id _) id cE.dead } = { s2 with o:=bZ s2.o id cE.dead };congr 1
  funext j
  by_cases hj:j=id
  ·subst hj;rw [cN,cN]
  ·rw [r5 hj,r5 hj,r5 hj]
 rw [K4] at i4 xL;have Tu:p.id≠id:=by intro e0;rw [oE] at cf;rw [show(s1.bV p.id (.ck (.row T T.own ver zY))).o id=.ck (.row T T.own ver zY) from by rw [e0];exact cN _ _ _] at cf;cases cf
 have Tv : bZ ι id mR p.id = ι p.id:=r5 Tu;have i5:=i0.ad8 Ts i4
 have hcl:∀j,((s2.bV id .dead).o j).live→j≠id∧(s2.o j).live:=by
  intro j hj;by_cases l9:j=id
  ·subst l9;rw [show(s2.bV j .dead).o j=.dead from cN _ _ _] at hj;exact hj.elim
  ·rw [show(s2.bV id .dead).o j=s2.o j from r5 l9] at hj;exact⟨l9,hj⟩
 have K5:=hinv.ext
 have hap:∀b o,ai.diff (ι p.id).F H1 b o→xK s2 ι (H1.or hD) b o→False:=by
  rintro b o ah ((hf | hf) | ⟨j,hj,hf⟩)
  ·exact ah.2 hf
  ·exact oD.apart p.id Tr b o hf ah.1
  ·exact l8.apart j hj b o ah hf
 have pV:bM w0 F0 (s2.bV id .dead) w' (bZ ι id mR) Z G:=⟨fun b o x=>⟨Dn i0 Ts (xL.own b o x).1,(xL.own b o x).2⟩,xL.apart,xL.dd⟩;have aea:bM w0 F0 (s2.bV id .dead) w' (bZ ι id mR) Z (ai.diff (ι p.id).F H1):=by refine⟨(l8.ext K5).own,fun j hj b o x y=>?_,l8.dd⟩;obtain ⟨K6,l_⟩:=hcl j hj;rw [r5 K6] at y;exact l8.apart j l_ b o x y
 have xH:ai.apart G (ai.diff (ι p.id).F H1):=by
  intro b o aI ah;rcases (xL.own b o aI).1 with hf | hf
  ·exact hap b o ah hf
  ·have:=(l8.own b o ah).2;omega
 have zW:cd w w' (ai.diff (ι p.id).F H1):=cd.jg K5 (fun b o hb=>(l8.own b o hb).2) hap;have zZ:=Tt;simp only [ae.ar] at zZ;obtain ⟨A,xG,pU,_⟩:=zZ;have pU:eX=.slice A (mN++ys).length xG:=by simpa using pU
 have aeb:(execOp a.eval o).run P w=.ok (.value eX) w':=by unfold execOp;rw [ho];simp only [run_bind,resolve,hc,run_pure,invoke];unfold builtin;exact gd hrun
 have ht:(s2.bV id .dead).t=s.t:=by show s2.t=s.t;rw [oE];exact hs1.t
 unfold Oper.wp;rw [aeb,Oper.upon_value,uI];have aec:s2.o p.id=.ck (.row T T.own ver zY):=by rw [oE];exact cN _ _ _
 have Tw:(s2.bV id .dead).o p.id=.ck (.row T T.own ver zY):=by rw [show(s2.bV id .dead).o p.id=s2.o p.id from r5 Tu];exact aec
 have Tx:(bZ ι id mR p.id).base=some (at_ cX dV):=by rw [Tv];exact eL
 have Dr:s.o p.id=.row T T.own ver zY:=by
  rcases hs1.o p.id with h2 | ⟨_,h2⟩
  ·rw [← h2];exact ec
  ·rw [h2] at ec;cases ec
 refine⟨⟨_,qU,bZ ι id mR,Z,i5.set (by simp only [aV]) jr⟩,?_⟩
 exact Tj bS kj qS gv iM pN iF iG jr mP mQ uG uH fK hz js ff lr i5 (KW i5 ht Tw Dr Tx) Tw Tx pU Tt pV aea xH xI (K5.kF K3)
  (by rw [Tv];exact fun ch bR X y bG q hs=>xJ ch bR X y bG q ((zW.mono fun _ _ h=>h.1).trans hs)) hbk K1
set_option maxHeartbeats 1000000 in
theorem aed{o:Oper}{l:List Oper}{K:aq→Option bB}(bS:j6 P E)(hn:E.n=n)(h:Inv w0 F0 Z0 n s a w ι Z)(hk:JD E s o l K=some r) :
  ∃dN eQ e6 l',l=dN :: eQ :: e6 :: l'∧o.guard=none∧dN.guard=none∧eQ.guard=none∧e6.guard=none ∧
   o.wp P a w (fun a w=>dN.wp P a w (fun a w=>eQ.wp P a w (fun a w=>e6.wp P a w (fun a w=>∃au,K au=some r∧c8 w0 F0 Z0 n au a w) Q) Q) Q) Q:=by
 unfold JD at hk;split at hk
 case h_2=>cases hk
 rename_i dN eQ e6 l';refine⟨dN,eQ,e6,l',rfl,?_⟩;split at hk
 case h_2=>cases hk
 rename_i c k1 nn e1 ou np e2 e0 ho mO kj qS;split at hk
 case h_2=>cases hk
 rename_i cc d0 d1 d2 hc uI gv iM;cases hb:w4 E o dN eQ e6 k1 e1 e2 e0 d0 d1 d2
 ·rw [hb] at hk;cases hk
 rw [hb] at hk;simp only [cond_true] at hk;unfold w4 at hb;simp only [Bool.and_eq_true,Bool.not_eq_true',Option.isNone_iff_eq_none] at hb;obtain ⟨Ds,cU,eF,iE,iF,iG,g0,g1,g2,g3,pN,jr,mP,mQ⟩:=hb;obtain rfl:=Nat.eq_of_beq_eq_true Ds;obtain rfl:=Nat.eq_of_beq_eq_true cU;obtain rfl:=Nat.eq_of_beq_eq_true eF;have iE:k1≠d0:=Nat.ne_of_beq_eq_false iE;have iF:d0≠d1:=Nat.ne_of_beq_eq_false iF;have iG:d0≠d2:=Nat.ne_of_beq_eq_false iG;have jr:d0<n.n:=by rw [← hn];exact Nat.le_of_ble_eq_true jr
 have mP:d1<n.n:=by rw [← hn];exact Nat.le_of_ble_eq_true mP
 have mQ:d2<n.n:=by rw [← hn];exact Nat.le_of_ble_eq_true mQ
 refine⟨g0,g1,g2,g3,?_⟩;split at hk
 case h_2=>cases hk
 rename_i g ak t Dg uG uH;split at hk
 case h_2=>cases hk
 rename_i e k u p Ty fK lq;obtain ⟨j1,hk,KU⟩:=adV hk;cases gf:(!(Nat.beq u.size 0)&&(Nat.beq j1.id p.id&&Nat.beq (j1.off+k) p.off))
 ·rw [gf] at hk;cases hk
 rw [gf] at hk;simp only [cond_true] at hk;simp only [Bool.and_eq_true,Bool.not_eq_true'] at gf;obtain ⟨hz,uF,js⟩:=gf;have hz:u.size≠0:=Nat.ne_of_beq_eq_false hz;have uF:j1.id=p.id:=Nat.eq_of_beq_eq_true uF;have js:j1.off+k=p.off:=Nat.eq_of_beq_eq_true js;split at hk
 case h_2=>cases hk
 rename_i aee aef Dh zX;cases qV:Nat.beq aee aef
 ·rw [qV] at hk;cases hk
 rw [qV] at hk;simp only [cond_true] at hk;have hvs:=uu h c.args.toList;have hf:=fe h cc;rw [Dg] at hf;simp only [aV] at hf;obtain ⟨cG,cs,KQ,ll,hcs⟩:=hf;simp only [a8] at ll hcs;subst ll hcs
 cases K7:c.args.toList.map (b0 s) with
 | nil=>rw [K7] at lq;cases lq
 | cons v0 bK=>
  rw [K7] at lq hk hvs
  cases v0 with
  | aW Sh=>
   cases Sh with
   | bY dF dp cJ xs=>
    simp only [w2] at lq;subst lq;simp only [a8] at hvs;obtain ⟨kL,aX,hus,jl,Tz⟩:=hvs;simp only [aV] at jl;rw [K7] at Ty;obtain ⟨ps,rs,f⟩:=e
    cases hm:w3 (pB (a_.aW (bd.bY dF dp (some p) xs) :: bK)) s t ps (a_.aW (bd.bY dF dp (some p) xs) :: bK++lS (a_.aW (bd.bY dF dp (some p) xs) :: bK)) with
    | none=>rw [hm] at hk;cases hk
    | some X=>
     obtain ⟨x,s1,bw⟩:=X;rw [hm] at hk;simp only at hk;cases dB:(alive s1 bw&&ot (a_.aW (bd.bY dF dp (some p) xs) :: bK))
     ·rw [dB] at hk;cases hk
     rw [dB] at hk;simp only [cond_true] at hk;simp only [Bool.and_eq_true] at dB;obtain ⟨dB,KM⟩:=dB;obtain ⟨bb,ez,hk⟩:=bq hk;obtain ⟨y,aT,hk⟩:=bq hk;obtain ⟨Di,hbk,K1⟩:=bq hk;have KN:=bS.fns g _ _ Ty
     cases ps with
     | nil=>simp [w3] at hm
     | cons sp ps=>
      cases sp with
      | val T m=>
       cases T with
       | sl cq=>
        simp only [List.cons_append,w3] at hm;cases Dt:(bl.beq m (.O cq.own)&&(ae.beq t cq&&JB ps))
        ·rw [Dt] at hm;cases hm
        rw [Dt] at hm;simp only [cond_true] at hm;simp only [Bool.and_eq_true] at Dt;obtain ⟨sq,xg,ard⟩:=Dt;obtain rfl:=bl.eq_of_beq _ _ sq;obtain rfl:=ae.eq_of_beq _ _ xg;obtain ⟨⟨mN,s0⟩,iL,hm⟩:=bq hm;obtain ⟨q,hq,hm⟩:=bq hm;obtain ⟨cU,are,ns⟩:=q;simp only [Option.some.injEq,Prod.mk.injEq] at hm;obtain ⟨rfl,rfl,rfl⟩:=hm;obtain ⟨i,T,ver,ys,cX,dV,H1,ff,ec,hs0,lr,eL,i0,Dp,uJ,l8,K2,Tq,xI,K3,xJ⟩:=Ti h jl iL;have Dr:s0.o p.id=.ck (.row T T.own ver ys):=by rw [hs0];exact cN _ _ _
        have aeg:a8 w Z s ι (lS (a_.aW (bd.bY dF dp (some p) xs) :: bK)) (gp (kL :: aX)):=KJ KM (by simp only [a8];exact⟨kL,aX,rfl,by simpa only [aV] using jl,Tz⟩);have arf:∃A m' c',kL=.slice A m' c':=jl.2.1
        obtain ⟨mM,e_,cI,i1,xM,TA,_,TB,_,_,_,aeh,src⟩:=qQ ps _ _ s0 Z [] _ hq i0 (a8.move Dp.et (Tz.append aeg)) (by simp);simp only at i1 xM TA TB aeh src;have aei:=uJ.uz xM;have K8:=l8.uz xM;have cj:=Dc dB;have uK:bM w0 F0 s1 w ι cI (H1.or mM):=aei.or TB;have K9:∀ {X:ai},bM w0 F0 s0 w ι Z X→∀b o,X b o→mM b o→False:=by intro X hX b o hx hj;obtain ⟨id,hl,hf⟩:=src b o (.inl hj);exact hX.apart id hl b o hx hf
        have hA:gH w (cI.or (dt ι bw)) (pB (a_.aW (bd.bY dF dp (some p) xs) :: bK)) (.val (.sl t) (.O t.own) :: ps) (mN,cU) (c.args.toList.map a.eval++gp (c.args.toList.map a.eval)) (H1.or mM):=by rw [hus];exact⟨[kL],aX++gp (kL :: aX),H1,mM,rfl,ae.ar.mono (fun b o hz=>.inl (xM.dO b o hz)) _ _ (fun _ _ h=>h) K2,TA,fun b o x y=>K9 uJ b o x y,fun _ _ h=>.inl h,fun _ _ h=>.inr h⟩
        obtain ⟨rfl,rfl⟩:∃e:rs=[.val (.sl t) (.O t.own)],y=(e ▸ bb:(c7.outs [.val (.sl t) (.O t.own)] (bF.eg (.val (.sl t) (.O t.own) :: ps))).D).1:=by
         cases rs with
         | nil=>simp [zr] at aT
         | cons C6 rs=>
          cases C6 with
          | val jk aej=>
           cases rs with
           | cons=>simp [zr] at aT
           | nil=>
            simp only [zr] at aT;cases mC:bl.beq aej (.O t.own)
            ·rw [mC] at aT;cases aT
            rw [mC] at aT;obtain rfl:=bl.eq_of_beq _ _ mC;obtain ⟨e,rfl⟩:=Cz aT;subst e;exact⟨rfl,rfl⟩
          | _=>simp [zr] at aT
        have hcall:=KN.calls w (cI.or (dt ι bw)) (H1.or mM) (mN,cU) (c.args.toList.map a.eval) bb
         (by
          rintro b o (hz | ⟨d,ah,hf⟩)
          ·exact i1.je b o hz
          ·exact(i1.own d.1 (cj d ah) b o hf).2)
         (fun b o hf=>(uK.own b o hf).2)
         (by
          rintro b o hf (hz | hz)
          ·exact uK.dd b o hf hz
          ·exact uK.dt cj b o hf hz) hA ez
        suffices key:∀(eX:Value) (w':World),Ends w (cI.or (dt ι bw)) (H1.or mM) ⟨.val (.sl t) (.O t.own) :: ps,[.val (.sl t) (.O t.own)],f⟩ (c.args.toList.map a.eval) bb eX w' →
          dN.wp P (a.put o.dst eX) w' (fun a w=>eQ.wp P a w (fun a w=>e6.wp P a w (fun a w=>∃au,K au=some r∧c8 w0 F0 Z0 n au a w) Q) Q) Q by
         unfold Oper.wp;have hrun:(execOp a.eval o).run P w=(callFunc g (c.args.toList.map a.eval).toArray).run P w:=by unfold execOp;rw [ho];simp only [run_bind,resolve,hc,KQ,Deferred.ofValue,run_pure,invoke];congr 2;apply Array.ext';simp
         rw [hrun];rcases hcall with⟨⟨fn,zT,KR,jo⟩,hcall⟩ | ⟨arh,w',uD,gW,zD,hu⟩
         ·have KS:(callFunc g (c.args.toList.map a.eval).toArray).run P w=.ok (.enter g (c.args.toList.map a.eval).toArray) w:=by
           simp only [callFunc,run_bind,run_pure,program,Sem.run,zT];rw [if_neg (by rw [jo];simp),if_neg (by rw [KR];simp)];simp only [run_pure]
          rw [KS,Oper.upon_enter];refine hcall.mono ?_
          rintro ari w' ⟨v9,rfl,hu⟩
          exact key v9 w' hu
         ·rw [uD,Oper.upon_value];cases zD;exact key _ w' hu
        rintro eX w' ⟨⟨dA,Z',F',rfl,hx,jJ,hz2,hf2,zS,hW⟩⟩
        simp only [il] at hW;obtain ⟨vs1,ej,G,aek,rfl,cV,⟨rfl,_⟩,_,hGF,_⟩:=hW;have zZ:=cV;simp only [ae.ar] at zZ;obtain ⟨A,xG,rfl,_⟩:=zZ;obtain ⟨hv,pU⟩:∃hv,hv=Value.slice A bb.1.length xG:=⟨_,rfl⟩
        rw [← pU] at cV;rw [show oG [dQ (.sl t) [Value.slice A bb.1.length xG]]=hv from pU.symm];have sx:Inv w0 F0 Z0 n s1 a w' ι cI:=i1.CT uK hx;rw [uI];have qW:s1.t=s.t:=xM.t.trans Dp.t
        have pS:s1.o p.id=.ck (.row T T.own ver ys):=by
         rcases xM.o p.id with h1 | ⟨h1,_⟩
         ·rw [h1,Dr]
         ·rw [Dr] at h1;exact h1.elim
        rw [ff] at zX;obtain rfl:=aZ zX;obtain rfl:=Nat.eq_of_beq_eq_true qV;have fk:ai.sub G F':=hGF
        have xH:ai.apart G (ai.diff (ι p.id).F H1):=by
         intro b o aI ah;rcases (hf2 b o (fk b o aI)).1 with(hf | hf) | hf
         ·exact ah.2 hf
         ·exact K9 l8 b o ah hf
         ·have:=(K8.own b o ah).2;omega
        have pV:bM w0 F0 s1 w' ι cI G:=by
         have arj:=i1.ext.size;refine⟨fun b o aI=>⟨?_,(hf2 b o (fk b o aI)).2⟩,fun id hl b o aI hi=>?_,fun b o aI hz=>?_⟩
         ·rcases (hf2 b o (fk b o aI)).1 with hf | hf
          ·exact(uK.own b o hf).1
          ·exact .inr (by omega)
         ·rcases (hf2 b o (fk b o aI)).1 with hf | hf
          ·exact uK.apart id hl b o hf hi
          ·have:=(i1.own id hl b o hi).2;omega
         ·rcases (hf2 b o (fk b o aI)).1 with hf | hf
          ·exact uK.dd b o hf hz
          ·have:=i1.je b o hz;omega
        have zW:cd w w' (ai.diff (ι p.id).F H1):=cd.jg hx (fun b o hb=>(K8.own b o hb).2) (by
         rintro b o ah (hf | hf)
         ·exact ah.2 hf
         ·exact K9 l8 b o ah hf)
        exact Tj bS kj qS gv iM pN iF iG jr mP mQ uG uH fK hz js ff lr sx (adW mO iE jr uF Dh sx (by rw [qW];exact KU) pS eL) pS eL pU (qN (.sl t) (cd.refl _ _) cV) pV (K8.ext hx) xH xI (hx.kF K3)
         (fun ch bR X y bG q hs=>xJ ch bR X y bG q ((zW.mono fun _ _ h=>h.1).trans hs)) hbk K1
       | _=>simp [w3] at hm
      | _=>simp [w3] at hm
   | _=>simp [w2] at lq
  | _=>simp [w2] at lq
theorem ael{dN:Oper}{T:ae}{w5 k1 k2 d0 i m ver cX dV:Nat}{p:Place}{sub:Option (Nat×Nat)}{ys:List T.D}{q:Int}{hv:Value}{s1:aq}(b3:hB P E)(gU:E.ty w5=some (.sl T))(mO:dN.op=.indexAddr w5 (.tmp k1) (.tmp k2))(iE:k1≠d0)(K_:k2≠d0)(jr:d0<n.n)
  (hx:s1.t k1=.aW (.ah p.id sub)) (hq:kH (s1.t k2)=some q) (hm:aM (lQ sub ys) q=some m) (hi:er sub+m=i) (h:Inv w0 F0 Z0 n s1 a w ι Z)
  (pS:s1.o p.id=.ck (.row T T.own ver ys)) (eL:(ι p.id).base=some (at_ cX dV)):(execOp (a.put (some d0) hv).eval dN).run P w=.ok (.value (.pointer (some (at_ cX (dV+i*T.size+0))))) w:=by
 obtain ⟨e,hu,jH⟩:=l1 (b3.ty w5 _ gU);have h1:=h.tmps k1;have h2:=h.tmps k2;rw [hx] at h1;simp only [aV] at h1;obtain ⟨_,A,len,c,jh,hh⟩:=h1;obtain ⟨g1,g2,g3,g4,g5⟩:=hh T T.own ver ys (by rw [pS];rfl);obtain ⟨dn,xe⟩:=si hq h2
 have hl:lQ sub ys=len:=by
  cases sub with
  | none=>simp [lQ,g1]
  | some p=>obtain ⟨lo,l⟩:=p;simp [lQ,g1]
 rw [hl] at hm;obtain ⟨h2,h3,rfl,h4⟩:=zw hm;rcases g5 with g5 | ⟨a0,gx,rfl⟩
 ·omega
 rw [eL] at gx;obtain rfl:=aZ gx;unfold execOp;rw [mO];refine gd ?_;rw [zU _ _ (by rw [h.size];exact jr) (Ne.symm iE),zU _ _ (by rw [h.size];exact jr) (Ne.symm K_)];have e1:a.eval (.tmp k1)=a.tmps.getD k1 undef:=rfl;have e2:a.eval (.tmp k2)=a.tmps.getD k2 undef:=rfl;rw [e1,e2,jh,xe];have:=Ka (P:=P) (w:=w) (A:=at_ cX (dV+er sub*T.size)) (b:=cX) (o:=dV+er sub*T.size) (c:=c) (k:=dn) hu jH h2 h3;rw [← hi,Nat.add_zero,Nat.add_mul,← Nat.add_assoc];exact this
theorem aem{o dN eQ e6:Oper}{id:Nat}{M:aq→Bool}{K:aq→Option bB}(bS:j6 P E)(hn:E.n=n)(h:Inv w0 F0 Z0 n s a w ι Z)(hk:JH E id s o dN eQ e6 M K=some r) :
  o.guard=none∧dN.guard=none∧eQ.guard=none∧e6.guard=none ∧
   o.wp P a w (fun a w=>(∃ov,M ov=true∧c8 w0 F0 Z0 n ov a w)∧dN.wp P a w (fun a w=>eQ.wp P a w (fun a w=>e6.wp P a w (fun a w=>∃au,K au=some r∧c8 w0 F0 Z0 n au a w) Q) Q) Q) Q:=by
 unfold JH at hk;split at hk
 case h_2=>cases hk
 rename_i c w5 k1 k2 nn e1 ou np e2 e0 ho mO kj qS;split at hk
 case h_2=>cases hk
 rename_i d0 d1 d2 hc uI gv iM;cases hb:(w4 E o dN eQ e6 k1 e1 e2 e0 d0 d1 d2 && !(Nat.beq k2 d0))
 ·rw [hb] at hk;cases hk
 rw [hb] at hk;simp only [cond_true] at hk;unfold w4 at hb;simp only [Bool.and_eq_true,Bool.not_eq_true',Option.isNone_iff_eq_none] at hb;obtain ⟨⟨Ds,cU,eF,iE,iF,iG,g0,g1,g2,g3,pN,jr,mP,mQ⟩,K_⟩:=hb;obtain rfl:=Nat.eq_of_beq_eq_true Ds;obtain rfl:=Nat.eq_of_beq_eq_true cU;obtain rfl:=Nat.eq_of_beq_eq_true eF;have jr:d0<n.n:=by rw [← hn];exact Nat.le_of_ble_eq_true jr
 have mP:d1<n.n:=by rw [← hn];exact Nat.le_of_ble_eq_true mP
 have mQ:d2<n.n:=by rw [← hn];exact Nat.le_of_ble_eq_true mQ
 refine⟨g0,g1,g2,g3,?_⟩;split at hk
 case h_2=>cases hk
 rename_i nq ak t hU ul dp p K0 vb aen uG uH gU l3;split at hk
 case h_2=>cases hk
 rename_i k u cb i sub q v em ver xs j fK uv hx1 oA ec ff;cases gf:(ae.beq hU t&&(ae.beq nq v&&(!(Nat.beq u.size 0)&&(Nat.beq i p.id&&Nat.beq k p.off))))
 ·rw [gf] at hk;cases hk
 rw [gf] at hk;simp only [cond_true] at hk;simp only [Bool.and_eq_true,Bool.not_eq_true'] at gf;obtain ⟨ht,xC,hz,uF,js⟩:=gf;obtain rfl:=ae.eq_of_beq _ _ ht;obtain rfl:=ae.eq_of_beq _ _ xC;obtain rfl:=Nat.eq_of_beq_eq_true uF;obtain ⟨m,hm,hk⟩:=bq hk;cases qV:Nat.beq (er sub+m) j
 ·rw [qV] at hk;cases hk
 rw [qV] at hk;simp only [cond_true] at hk;have qV:=Nat.eq_of_beq_eq_true qV;refine ad9 (po:=0) bS h ho hc l3 gU uv uI kj qS gv iM pN (Nat.ne_of_beq_eq_false iF) (Nat.ne_of_beq_eq_false iG) jr mP mQ uG uH fK (Nat.ne_of_beq_eq_false hz) (by rw [Nat.zero_add];exact Nat.eq_of_beq_eq_true js) ff ?_ hk;intro T nz cX dV ys s1 dH cI oK hv h1 qW pS TC hb1;rw [ec] at TC;obtain ⟨rfl,_,_,h4⟩:=cE.row.inj TC;have h4:=eq_of_heq h4;subst h4;exact ael bS.ty aen mO (Nat.ne_of_beq_eq_false iE) (Nat.ne_of_beq_eq_false K_) jr (by rw [qW];exact hx1) (by rw [qW];exact oA) hm qV h1 pS hb1
end
end Go.LM
