/- Calls are what the interpreter says. Conditions: each theorem's own hypotheses. -/
import Derived.Test.YtklmgcjamifmaaaGreatDoorELmb
set_option linter.unusedVariables false
set_option linter.unusedSimpArgs false
namespace Go.LM
def capsV:List Value→List Value
 | []=>[]
 | .func _ a b :: l=>a.toList++b.toList++capsV l
 | _ :: l=>capsV l
def ArgRep(w:World)(Z:Reg)(key:Nat):(ps:List PSpec)→(PSpec.ins ps).D→List Value→Reg→Prop
 | [],_,us,_=>us=[]
 | .fn nf nc :: ps,x,us,F=>∃a b us',us=.func (.func key) a b :: us'∧(a.size=nf∧b.size=nc)∧ArgRep w Z key ps x us' F
 | .val t m :: ps,x,us,F=>∃vs us' G H,us=wrapV t vs :: us'∧t.Rep w Z m x.1 vs G∧ArgRep w Z key ps x.2 us' H∧Reg.apart G H∧Reg.sub G F∧Reg.sub H F
 | .frz t :: ps,x,us,F=>∃vs us' G H,us=wrapV t vs :: us'∧t.Rep w Z .R x.1 vs G∧ArgRep w Z key ps x.2 us' H∧Reg.apart G H∧Reg.sub G F∧Reg.sub H F
 | .vm t m :: ps,x,us,F=>∃vs us' G H,us=wrapV t vs :: us'∧t.Rep w Z m x.1 vs G∧ArgRep w Z key ps x.2 us' H∧Reg.apart G H∧Reg.sub G F∧Reg.sub H F
 | .ref t :: ps,x,us,F=>∃b o vs us',us=.pointer (some (at_ b o)) :: us'∧CellsAt w b o vs∧t.Rep w Z .R x.1 vs Reg.none∧(∀j,j<t.size→Z b (o+j))∧ArgRep w Z key ps x.2 us' F
 | .mut t m _ :: ps,x,us,F=>∃b o vs us' G H,us=.pointer (some (at_ b o)) :: us'∧CellsAt w b o vs∧(∀j,j<t.size→Writable w b (o+j))∧t.Rep w Z m x.1 vs G∧ArgRep w Z key ps x.2 us' H ∧
   Reg.apart (G.or (Reg.run b o t.size)) H∧Reg.apart G (Reg.run b o t.size)∧Reg.sub (G.or (Reg.run b o t.size)) F∧Reg.sub H F
def OutRep(w:World)(Z:Reg):(ps:List PSpec)→List Value→(PSpec.muts ps).D→Reg→Prop
 | [],_,_,_=>True
 | .mut t _ m' :: ps,us,x,F=>∃b o vs us' G H,us=.pointer (some (at_ b o)) :: us'∧CellsAt w b o vs∧t.Rep w Z m' x.1 vs G∧OutRep w Z ps us' x.2 H ∧
   Reg.apart (G.or (Reg.run b o t.size)) H∧Reg.apart G (Reg.run b o t.size)∧Reg.sub (G.or (Reg.run b o t.size)) F∧Reg.sub H F
 | .vm t m :: ps,us,x,F=>∃vs us' G H,us=wrapV t vs :: us'∧t.Rep w Z m x.1 vs G∧OutRep w Z ps us' x.2 H∧Reg.apart G H∧Reg.sub G F∧Reg.sub H F
 | .val _ _ :: ps,us,x,F=>∃u us',us=u :: us'∧OutRep w Z ps us' x F
 | .frz _ :: ps,us,x,F=>∃u us',us=u :: us'∧OutRep w Z ps us' x F
 | .ref _ :: ps,us,x,F=>∃u us',us=u :: us'∧OutRep w Z ps us' x F
 | .fn _ _ :: ps,us,x,F=>∃u us',us=u :: us'∧OutRep w Z ps us' x F
def OptRep(w:World)(us:List Value)(a off size:Nat)(x:Int)(v:Value):Prop :=
 (x<0∧v=.pointer none)∨(0≤x∧∃b o b1 o1 n c,us[a]?=some (.pointer (some (at_ b o)))∧w.cell? (at_ b (o+off))=some (.slice (some (at_ b1 o1)) n c)∧x.toNat<n∧v=.pointer (some (at_ b1 (o1+x.toNat*size))))
def ResRep(w:World)(Z:Reg)(ps:List PSpec)(us:List Value):(rs:List RSpec)→(RSpec.outs rs (PSpec.muts ps)).D→List Value→Reg→Prop
 | [],x,rvs,F=>rvs=[]∧OutRep w Z ps us x F
 | .val t m :: rs,x,rvs,F=>∃vs rvs' G H,rvs=wrapV t vs :: rvs'∧t.Rep w Z m x.1 vs G∧ResRep w Z ps us rs x.2 rvs' H∧Reg.apart G H∧Reg.sub G F∧Reg.sub H F
 | .opt a off t :: rs,x,rvs,F=>∃v rvs',rvs=v :: rvs'∧OptRep w us a off t.size x.1 v∧ResRep w Z ps us rs x.2 rvs' F
 | .any t :: rs,x,rvs,F=>∃v rvs',rvs=v :: rvs'∧(v.cells.toList.length=t.size∧∀u∈v.cells.toList,oneC u=true)∧ResRep w Z ps us rs x rvs' F
 | .optr t :: rs,x,rvs,F=>∃v rvs',rvs=v :: rvs'∧((x.1=[]∧v=.pointer none)∨∃y b o vs,x.1=[y]∧v=.pointer (some (at_ b o))∧CellsAt w b o vs∧t.Rep w Z .R y vs Reg.none∧∀j,j<t.size→Z b (o+j))∧ResRep w Z ps us rs x.2 rvs' F
 | .new t m :: rs,x,rvs,F=>∃b o vs rvs' G H,rvs=.pointer (some (at_ b o)) :: rvs'∧CellsAt w b o vs∧(∀j,j<t.size→Writable w b (o+j))∧t.Rep w Z m x.1 vs G∧ResRep w Z ps us rs x.2 rvs' H ∧
   Reg.apart (G.or (Reg.run b o t.size)) H∧Reg.apart G (Reg.run b o t.size)∧Reg.sub (G.or (Reg.run b o t.size)) F∧Reg.sub H F
def retV:List Value→Value
 | [v]=>v
 | l=>.tuple l.toArray
structure Ends(w:World)(Z F:Reg)(e:Entry)(us:List Value)(r:(RSpec.outs e.rs (PSpec.muts e.ps)).D)(v:Value)(w':World):Prop where
 out:∃rvs Z' F',v=retV rvs∧Ext w w' F∧Reg.sub Z Z'∧(∀b o,Z' b o→Z b o∨((F b o∨w.heap.size≤b)∧b<w'.heap.size))∧(∀b o,F' b o→(F b o∨w.heap.size≤b)∧b<w'.heap.size) ∧
  Reg.apart F' Z'∧ResRep w' Z' e.ps (us++capsV us) e.rs r rvs F'
structure Sound(P:Program)(f:FuncId)(key:Nat)(e:Entry):Prop where
 fn:∃fn,P.funcs[f]?=some fn∧fn.body.isNone=false∧(fn.name == "runtime.NumGoroutine")=false
 calls:∀(w:World) (Z F:Reg) (x:(PSpec.ins e.ps).D) (us:List Value) (r:(RSpec.outs e.rs (PSpec.muts e.ps)).D),
  (∀b o,Z b o→b<w.heap.size)→(∀b o,F b o→b<w.heap.size)→Reg.apart F Z→ArgRep w Z key e.ps x (us++capsV us) F→e.f x=some r →
  Calls P f us.toArray w fun end_ w'=>∃v,end_=.returned v∧Ends w Z F e us r v w'
def CallsX(P:Program)(f:FuncId)(us:Array Value)(w:World)(R:Ending→World→Prop):Prop :=
 ((∃fn,P.funcs[f]?=some fn∧fn.body.isNone=false∧(fn.name == "runtime.NumGoroutine")=false)∧Calls P f us w R)∨∃v w',(callFunc f us).run P w=.ok (.value v) w'∧R (.returned v) w'
structure SoundX(P:Program)(f:FuncId)(key:Nat)(e:Entry):Prop where
 calls:∀(w:World) (Z F:Reg) (x:(PSpec.ins e.ps).D) (us:List Value) (r:(RSpec.outs e.rs (PSpec.muts e.ps)).D),
  (∀b o,Z b o→b<w.heap.size)→(∀b o,F b o→b<w.heap.size)→Reg.apart F Z→ArgRep w Z key e.ps x (us++capsV us) F→e.f x=some r →
  CallsX P f us.toArray w fun end_ w'=>∃v,end_=.returned v∧Ends w Z F e us r v w'
theorem Sound.x{P:Program}{f:FuncId}{key:Nat}{e:Entry}(h:Sound P f key e):SoundX P f key e :=
 ⟨fun w Z F x us r h1 h2 h3 h4 h5=>.inl ⟨h.fn,h.calls w Z F x us r h1 h2 h3 h4 h5⟩⟩
instance {P:Program} {f:FuncId} {key:Nat} {e:Entry} : Coe (Sound P f key e) (SoundX P f key e):=⟨Sound.x⟩
section
variable{P:Program}{Q:Exit→Act→World→Prop}
variable{w0:World}{F0 Z0:Reg}{n:Frm}{s s':St}{a a':Act}{w w':World}{ι ι':Nat→OI}{Z Z':Reg}
theorem ArgRep.mono{key:Nat}(hZ:Reg.sub Z Z'):∀(ps:List PSpec) {x:(PSpec.ins ps).D} {us:List Value} {F F':Reg},Reg.sub F F'→ArgRep w Z key ps x us F→ArgRep w Z' key ps x us F'
 | [],_,_,_,_,_,h=>h
 | .fn _ _ :: ps,_,_,_,_,hF,h=>by
  obtain ⟨a,b,us',h1,h0,h2⟩:=h
  exact⟨a,b,us',h1,h0,ArgRep.mono hZ ps hF h2⟩
 | .val t m :: ps,_,_,_,_,hF,h=>by
  obtain ⟨vs,us',G,H,h1,h2,h3,h4,h5,h6⟩:=h
  exact⟨vs,us',G,H,h1,Ty.Rep.mono hZ _ _ (fun _ _ h=>h) h2,ArgRep.mono hZ ps (fun _ _ h=>h) h3,h4,fun b o h=>hF b o (h5 b o h),fun b o h=>hF b o (h6 b o h)⟩
 | .frz t :: ps,_,_,_,_,hF,h=>by
  obtain ⟨vs,us',G,H,h1,h2,h3,h4,h5,h6⟩:=h
  exact⟨vs,us',G,H,h1,Ty.Rep.mono hZ _ _ (fun _ _ h=>h) h2,ArgRep.mono hZ ps (fun _ _ h=>h) h3,h4,fun b o h=>hF b o (h5 b o h),fun b o h=>hF b o (h6 b o h)⟩
 | .vm t m :: ps,_,_,_,_,hF,h=>by
  obtain ⟨vs,us',G,H,h1,h2,h3,h4,h5,h6⟩:=h
  exact⟨vs,us',G,H,h1,Ty.Rep.mono hZ _ _ (fun _ _ h=>h) h2,ArgRep.mono hZ ps (fun _ _ h=>h) h3,h4,fun b o h=>hF b o (h5 b o h),fun b o h=>hF b o (h6 b o h)⟩
 | .ref t :: ps,_,_,_,_,hF,h=>by
  obtain ⟨b,o,vs,us',h1,h2,h3,h4,h5⟩:=h
  exact⟨b,o,vs,us',h1,h2,Ty.Rep.mono hZ _ _ (fun _ _ h=>h) h3,fun j hj=>hZ _ _ (h4 j hj),ArgRep.mono hZ ps hF h5⟩
 | .mut t m m' :: ps,_,_,_,_,hF,h=>by
  obtain ⟨b,o,vs,us',G,H,h1,h2,h3,h4,h5,h6,h7,h8,h9⟩:=h
  exact⟨b,o,vs,us',G,H,h1,h2,h3,Ty.Rep.mono hZ _ _ (fun _ _ h=>h) h4,ArgRep.mono hZ ps (fun _ _ h=>h) h5,h6,h7,fun b o h=>hF b o (h8 b o h),fun b o h=>hF b o (h9 b o h)⟩
structure Gives(s:St)(ι : Nat→OI)(Z:Reg)(s':St)(Z':Reg):Prop where
 o:∀id,s'.o id=s.o id∨((s.o id).live∧(s'.o id=.dead∨s'.o id=.lent (s.o id)))
 t:s'.t=s.t
 g:s'.g=s.g
 zsub:Reg.sub Z Z'
 znew:∀b o,Z' b o→Z b o∨∃id,(s.o id).live∧¬(s'.o id).live∧(ι id).F b o
theorem Shrinks.gives(h:Shrinks s ι Z s' Z'):Gives s ι Z s' Z' :=
 ⟨fun id=>(h.o id).imp (fun h=>h) fun h=>⟨h.1,.inl h.2⟩,h.t,h.g,h.zsub,fun b o hz=>(h.znew b o hz).imp (fun h=>h) fun⟨id,h1,h2,h3⟩=>⟨id,h1,by rw [h2];exact id_false,h3⟩⟩
where id_false:¬LObj.live .dead:=fun h=>h
theorem Gives.refl:Gives s ι Z s Z:=Shrinks.gives .refl
theorem Gives.live(h:Gives s ι Z s' Z'){id:Nat}(hl:(s'.o id).live):(s.o id).live∧s'.o id=s.o id:=by
 rcases h.o id with h1 | ⟨_,h1 | h1⟩
 ·exact⟨h1 ▸ hl,h1⟩
 ·rw [h1] at hl;exact hl.elim
 ·rw [h1] at hl;exact hl.elim
theorem Gives.trans{s2:St}{Z2:Reg}(h:Gives s ι Z s' Z')(k:Gives s' ι Z' s2 Z2):Gives s ι Z s2 Z2:=by
 refine⟨fun id=>?_,k.t.trans h.t,k.g.trans h.g,fun b o hz=>k.zsub b o (h.zsub b o hz),fun b o hz=>?_⟩
 ·rcases k.o id with h1 | ⟨h0,h1⟩
  ·rw [h1];exact h.o id
  ·obtain ⟨h2,h3⟩:=h.live h0
   rw [h3] at h1
   exact .inr ⟨h2,h1⟩
 ·rcases k.znew b o hz with h1 | ⟨id,h1,h2,h3⟩
  ·rcases h.znew b o h1 with h1 | ⟨id,h1,h2,h3⟩
   ·exact .inl h1
   ·exact .inr ⟨id,h1,fun hl=>h2 (k.live hl).1,h3⟩
  ·exact .inr ⟨id,(h.live h1).1,h2,h3⟩
theorem Gives.moves(h:Gives s ι Z s' Z'):Moves w Z s ι w Z' s' ι := by
 refine⟨fun id=>?_,h.zsub,Same.refl _ _⟩
 rcases h.o id with h1 | ⟨h0,h1 | h1⟩
 ·rw [h1];exact .stay _ _
 ·rw [h1];exact .dead _ _ _
 ·rw [h1];exact .lend _ _ h0
theorem Free.give{F:Reg}(hf:Free w0 F0 s w ι Z F)(h:Gives s ι Z s' Z'):Free w0 F0 s' w ι Z' F:=by
 refine⟨hf.own,fun id hl=>hf.apart id (h.live hl).1,fun b o h1 h2=>?_⟩
 rcases h.znew b o h2 with h3 | ⟨id,h3,_,h4⟩
 ·exact hf.apartZ b o h1 h3
 ·exact hf.apart id h3 b o h1 h4
theorem gives_lend{id:Nat}(hl:(s.o id).live):Gives s ι Z (s.putO id (.lent (s.o id))) Z:=by
 refine⟨fun j=>?_,rfl,rfl,fun _ _ h=>h,fun _ _ h=>.inl h⟩
 by_cases hj:id=j
 ·subst hj;exact .inr ⟨hl,.inr (upd_same _ _ _)⟩
 ·exact .inl (upd_ne hj)
theorem Inv.gives(h:Inv w0 F0 Z0 n s a w ι Z)(hg:Gives s ι Z s' Z'):Inv w0 F0 Z0 n s' a w ι Z':=by
 have hm:Moves w Z s ι w Z' s' ι := hg.moves
 refine h.next hm (Ext.refl _ Reg.none) (fun _ _ h=>h.elim) ?_ ?_ ?_ (fun k=>by rw [hg.t];exact(h.tmps k).move hm) h.size h.defers hg.g
 ·intro b o hz
  rcases hg.znew b o hz with h1 | ⟨id,h1,_,h3⟩
  ·exact .inl h1
  ·exact .inr (h.own id h1 b o h3)
 ·intro id hl hne;exact absurd ⟨(hg.live hl).2,rfl⟩ hne
 ·intro id hl b o h1 h2
  obtain ⟨hl2,_⟩:=hg.live hl
  rcases hg.znew b o h2 with h3 | ⟨j,h3,h4,h5⟩
  ·exact h.apartZ id hl2 b o h1 h3
  ·have hne:id≠j:=fun e=>h4 (e ▸ hl)
   exact h.apart id j hl2 h3 hne b o h1 h5
theorem Inv.lent_free(h:Inv w0 F0 Z0 n s a w ι Z){id:Nat}(hl:(s.o id).live):Free w0 F0 (s.putO id (.lent (s.o id))) w ι Z (ι id).F:=by
 refine⟨h.own id hl,fun j hj=>?_,h.apartZ id hl⟩
 have hj':(upd s.o id (LObj.lent (s.o id)) j).live:=hj
 by_cases hne:id=j
 ·subst hne;rw [upd_same] at hj';exact hj'.elim
 ·rw [upd_ne hne] at hj'
  exact h.apart id j hl hj' hne
def KeepVar(g:Bool)(w:World)(Z:Reg)(s:St)(ι : Nat→OI)(t:Ty)(p:Place)(u:Value)(H:Reg):Prop :=
 ∃ver old b o vs,(g=true→¬(s.o p.id).live)∧(∀ob,s.o p.id=.lent ob→ob=.var ver old∧(ι p.id).base=some (at_ b o))∧p.ei=none∧u=.pointer (some (at_ b (o+p.off)))∧p.off+t.size≤old.length∧CellsRep w Z s ι old vs ∧
  (∀j,j<old.length→Writable w b (o+j))∧(∀j,j<old.length→(j<p.off∨p.off+t.size≤j)→H b (o+j)) ∧
  (∀(j:Nat) (v:Value),vs[j]?=some v→(j<p.off∨p.off+t.size≤j)→w.cell? (at_ b (o+j))=some v)
def KeepRow(g:Bool)(w:World)(Z:Reg)(s:St)(ι : Nat→OI)(t:Ty)(m:Md)(p:Place)(u:Value)(H:Reg):Prop :=
 ∃ver xs i b o c G1 G2,(g=true→¬(s.o p.id).live)∧(∀ob,s.o p.id=.lent ob→ob=.row t m ver xs∧(ι p.id).base=some (at_ b o)∧(ι p.id).cap=c)∧p.ei=some i∧i<xs.length∧u=.pointer (some (at_ b (o+i*t.size)))∧xs.length≤c ∧
  (∀j,j<c*t.size→WrR w t.size b (o+j))∧(∀j,j<c*t.size→(j<i*t.size∨(i+1)*t.size≤j)→H b (o+j)) ∧
  Row w (t.Rep w Z m) t.size (xs.take i) b o G1∧Row w (t.Rep w Z m) t.size (xs.drop (i+1)) b (o +(i+1)*t.size) G2∧Reg.apart G1 G2∧Reg.sub G1 H∧Reg.sub G2 H ∧
  (∀j,j<c*t.size→¬G1 b (o+j)∧¬G2 b (o+j))
def KeepOrg(g:Bool)(s:St)(ι : Nat→OI)(t:Ty)(e:Md)(og:Option Place)(v:Value)(H:Reg)(w:World):Prop :=
 ∃(p:Place) (i:Nat) (T:Ty) (ver:Nat) (ys:List T.D) (b o c:Nat),og=some p∧p.ei=some i∧(g=true→¬(s.o p.id).live)∧(∀ob,s.o p.id=.lent ob→ob=.row T T.own ver ys∧(ι p.id).base=some (at_ b o)∧(ι p.id).cap=c)∧i<ys.length∧e=t.own ∧
  ∀(w2:World) (Z2 X:Reg) (y:List t.D) (x':T.D),Same w w2 H→(Ty.sl t).Rep w2 Z2 (.O t.own) y [v] X→Reg.apart X H→T.setAt p.off t y (gd T ys i)=some x'→OwnRow w2 (T.Rep w2 Z2 T.own) T.size (ys.set i x') (at_ b o) c (X.or H)
mutual
def KeepVm(g:Bool)(w:World)(Z:Reg)(s:St)(ι : Nat→OI):(t:Ty)→Md→List HC→List Value→Reg→Prop
 | .sl t,.O e,cs,vs,H=>∃c v,cs=[c]∧vs=[v]∧match c with
  | .nil _=>v=.slice none 0 0
  | .hd id none=>∃ver xs A k c,(g=true→¬(s.o id).live)∧(∀ob,s.o id=.lent ob→ob=.row t e ver xs∧(ι id).cap=c∧HdRep (ι id) t.size none xs.length A xs.length k)∧v=.slice A xs.length k ∧
    ((xs=[]∧c=0)∨∃b o,(∀ob,s.o id=.lent ob→(ι id).base=some (at_ b o))∧xs.length≤c∧k≤c∧(k=0∨A=some (at_ b o))∧(∀j,j<c*t.size→WrR w t.size b (o+j))∧(∀j,k*t.size≤j→j<c*t.size→H b (o+j)))
  | .lst _ _ og _=>KeepOrg g s ι t e og v H w
  | _=>False
 | .sl _,_,_,_,_=>False
 | .st ts,m,cs,vs,H=>KeepVms g w Z s ι ts m.parts cs vs H
 | _,_,cs,vs,_=>cs.length=1∧vs.length=1
def KeepVms(g:Bool)(w:World)(Z:Reg)(s:St)(ι : Nat→OI):(ts:Tys)→Mds→List HC→List Value→Reg→Prop
 | .nil,_,cs,vs,_=>cs=[]∧vs=[]
 | .cons t ts,m,cs,vs,H=>∃c1 c2 v1 v2 H1 H2,cs=c1++c2∧vs=v1++v2∧KeepVm g w Z s ι t m.hd c1 v1 H1∧KeepVms g w Z s ι ts m.tl c2 v2 H2∧Reg.apart H1 H2∧Reg.sub H1 H∧Reg.sub H2 H
end
def Keeps(g:Bool)(w:World)(Z:Reg)(s:St)(ι : Nat→OI):(ps:List PSpec)→List TV→List Value→Reg→Prop
 | [],_,_,_=>True
 | .mut t m m' :: ps,vs,us,H=>∃p vs' u us' H1 H2,vs=.ptr p :: vs'∧us=u :: us'∧(KeepVar g w Z s ι t p u H1∨(m'=m∧m=t.own∧KeepRow g w Z s ι t m p u H1))∧Keeps g w Z s ι ps vs' us' H2∧Reg.apart H1 H2∧Reg.sub H1 H∧Reg.sub H2 H
 | .vm t m :: ps,vs,us,H=>∃v vs' u us' cs H1 H2,vs=v :: vs'∧us=u :: us'∧cellsT t v=some cs∧m=t.own∧KeepVm g w Z s ι t m cs u.cells.toList H1∧Keeps g w Z s ι ps vs' us' H2∧Reg.apart H1 H2∧Reg.sub H1 H∧Reg.sub H2 H
 | _ :: ps,vs,us,H=>∃v vs' u us',vs=v :: vs'∧us=u :: us'∧Keeps g w Z s ι ps vs' us' H
end
end Go.LM
namespace Go.LM
section
variable{P:Program}{Q:Exit→Act→World→Prop}
variable{g:Bool}{w0:World}{F0 Z0:Reg}{n:Frm}{s s':St}{a a':Act}{w w':World}{ι ι':Nat→OI}{Z Z':Reg}
structure Held(g:Bool)(w:World)(Z:Reg)(s:St)(ι : Nat→OI)(w':World)(Z':Reg)(s':St)(ι':Nat→OI)(H:Reg):Prop where
 tv:∀x v,TVRep w Z s ι x v→TVRep w' Z' s' ι' x v
 cell:∀c v,CellRep w Z s ι c v→CellRep w' Z' s' ι' c v
 zsub:Reg.sub Z Z'
 lent:∀id o',(g=true→¬(s.o id).live)→s'.o id=.lent o'→s.o id=.lent o' ∧ ι' id = ι id
 nl:g=true→∀id,¬(s.o id).live→¬(s'.o id).live
 same:Same w w' H
 zsame:Same w w' Z
 wr:∀b o,Writable w b o→Writable w' b o
 wr2:∀z b o,WrR w z b o→WrR w' z b o
theorem Held.mono{H H':Reg}(h:Held g w Z s ι w' Z' s' ι' H)(hs:Reg.sub H' H):Held g w Z s ι w' Z' s' ι' H':=⟨h.tv,h.cell,h.zsub,h.lent,h.nl,h.same.mono hs,h.zsame,h.wr,h.wr2⟩
theorem KeepVar.move{t:Ty}{p:Place}{u:Value}{H H':Reg}(h:Held g w Z s ι w' Z' s' ι' H)(hH:Reg.sub H H')(hk:KeepVar g w Z s ι t p u H):KeepVar g w' Z' s' ι' t p u H':=by
 obtain ⟨ver,old,b,o,vs,h0,h1,h2,h4,h5,h6,h7,h8,h9⟩:=hk
 have hl:=h6.len
 refine⟨ver,old,b,o,vs,fun hg=>h.nl hg _ (h0 hg),fun ob hob=>?_,h2,h4,h5,CellsRep.mono h.cell h6,fun j hj=>h.wr _ _ (h7 j hj),fun j hj hh=>hH _ _ (h8 j hj hh),fun j v hv hh=>?_⟩
 ·obtain ⟨l1,l2⟩:=h.lent _ _ h0 hob
  rw [l2];exact h1 ob l1
 have hj:j<old.length:=by
  rcases Nat.lt_or_ge j vs.length with h | h
  ·omega
  ·rw [List.getElem?_eq_none h] at hv;simp at hv
 rw [(h.same _ _ (h8 j hj hh)).1]
 exact h9 j v hv hh
theorem KeepRow.move{t:Ty}{m:Md}{p:Place}{u:Value}{H H':Reg}(h:Held g w Z s ι w' Z' s' ι' H)(hH:Reg.sub H H')(hk:KeepRow g w Z s ι t m p u H):KeepRow g w' Z' s' ι' t m p u H':=by
 obtain ⟨ver,xs,i,b,o,c,G1,G2,h0,h1,h2,h3,h5,h6,h7,h8,h9,h10,h11,h12,h13,h14⟩:=hk
 have hrep:∀(G:Reg),Reg.sub G H→∀y us G',Reg.sub G' G→t.Rep w Z m y us G'→t.Rep w' Z' m y us G':=fun G hG y us G' hG' hr =>
  Ty.Rep.mono h.zsub _ _ (fun _ _ h=>h) (Ty.Rep.same h.zsame _ _ (h.same.mono fun b o hg=>hG b o (hG' b o hg)) hr)
 have hcap:(i+1)*t.size≤c*t.size:=Nat.mul_le_mul_right _ (by omega)
 have hcell:∀j,j<c*t.size→(j<i*t.size∨(i+1)*t.size≤j)→w'.cell? (at_ b (o+j))=w.cell? (at_ b (o+j)):=fun j hj hh=>(h.same _ _ (h8 j hj hh)).1
 refine⟨ver,xs,i,b,o,c,G1,G2,fun hg=>h.nl hg _ (h0 hg),fun ob hob=>?_,h2,h3,h5,h6,fun j hj=>h.wr2 _ _ _ (h7 j hj),fun j hj hh=>hH _ _ (h8 j hj hh),?_,?_,h11,fun b o hg=>hH b o (h12 b o hg),fun b o hg=>hH b o (h13 b o hg),h14⟩
 ·obtain ⟨l1,l2⟩:=h.lent _ _ h0 hob
  rw [l2];exact h1 ob l1
 ·refine h9.imp (hrep G1 h12) fun j hj=>hcell j ?_ (.inl ?_)
  all_goals
   have:(xs.take i).length=i:=by simp;omega
   rw [this] at hj
   rw [Nat.add_one_mul] at hcap
   omega
 ·refine h10.imp (hrep G2 h13) fun j hj=>?_
  have hle:xs.length*t.size≤c*t.size:=Nat.mul_le_mul_right _ h6
  have e1:(xs.drop (i+1)).length=xs.length-(i+1):=by simp
  rw [e1,Nat.sub_mul] at hj
  have:=hcell ((i+1)*t.size+j) (by omega) (.inr (by omega))
  rwa [← Nat.add_assoc] at this
mutual
theorem KeepVm.move{H H':Reg}(h:Held g w Z s ι w' Z' s' ι' H)(hH:Reg.sub H H'):∀(t:Ty) (m:Md) {cs:List HC} {vs:List Value},KeepVm g w Z s ι t m cs vs H→KeepVm g w' Z' s' ι' t m cs vs H'
 | .int _,_,_,_,hk=>by simp only [KeepVm] at hk ⊢;exact hk
 | .bool,_,_,_,hk=>by simp only [KeepVm] at hk ⊢;exact hk
 | .str,_,_,_,hk=>by simp only [KeepVm] at hk ⊢;exact hk
 | .raw,_,_,_,hk=>by simp only [KeepVm] at hk ⊢;exact hk
 | .sl t,.R,_,_,hk=>by simp only [KeepVm] at hk
 | .sl t,.S _,_,_,hk=>by simp only [KeepVm] at hk
 | .sl t,.O e,_,_,hk=>by
  simp only [KeepVm] at hk ⊢
  obtain ⟨c,v,h1,h2,hk⟩:=hk
  refine⟨c,v,h1,h2,?_⟩
  cases c with
  | nil=>exact hk
  | hd id sub =>
   cases sub with
   | some=>exact hk
   | none =>
    obtain ⟨ver,xs,A,k,c,k0,k1,k2,k4⟩:=hk
    refine⟨ver,xs,A,k,c,fun hg=>h.nl hg _ (k0 hg),fun ob hob=>?_,k2,?_⟩
    ·obtain ⟨l1,l2⟩:=h.lent _ _ k0 hob
     rw [l2];exact k1 ob l1
    rcases k4 with k4 | ⟨b,o,q1,q2,q3,q4,q5,q6⟩
    ·exact .inl k4
    ·right
     refine⟨b,o,fun ob hob=>?_,q2,q3,q4,fun j hj=>h.wr2 _ _ _ (q5 j hj),fun j h1 h2=>hH _ _ (q6 j h1 h2)⟩
     obtain ⟨l1,l2⟩:=h.lent _ _ k0 hob
     rw [l2];exact q1 ob l1
  | lst u dp og xs =>
   obtain ⟨p,i,T,ver,ys,b,o,c,hp,hi,k0,k1,k2,k3,k4⟩:=hk
   refine⟨p,i,T,ver,ys,b,o,c,hp,hi,fun hg=>h.nl hg _ (k0 hg),fun ob hob=>?_,k2,k3,fun w2 Z2 X y x' q1 q2 q3 q4=>?_⟩
   ·obtain ⟨l1,l2⟩:=h.lent _ _ k0 hob
    rw [l2];exact k1 ob l1
   ·have:=k4 w2 Z2 X y x' (h.same.trans (q1.mono hH)) q2 (fun b o x y=>q3 b o x (hH b o y)) q4
    obtain ⟨G,g1,g2,g3⟩:=this.row
    exact⟨this.spot,this.cap,this.wr,fun j hj=>(this.inF j hj).imp (fun h=>h) (hH _ _),G,g1,g2,fun b o x=>(g3 b o x).imp (fun h=>h) (hH b o)⟩
  | _=>exact hk
 | .st ts,m,_,_,hk=>by simp only [KeepVm] at hk ⊢;exact KeepVms.move h hH ts m.parts hk
theorem KeepVms.move{H H':Reg}(h:Held g w Z s ι w' Z' s' ι' H)(hH:Reg.sub H H'):∀(ts:Tys) (m:Mds) {cs:List HC} {vs:List Value},KeepVms g w Z s ι ts m cs vs H→KeepVms g w' Z' s' ι' ts m cs vs H'
 | .nil,_,_,_,hk=>by simp only [KeepVms] at hk ⊢;exact hk
 | .cons t ts,m,_,_,hk=>by
  simp only [KeepVms] at hk ⊢
  obtain ⟨c1,c2,v1,v2,H1,H2,h1,h2,h3,h4,h5,h6,h7⟩:=hk
  exact⟨c1,c2,v1,v2,H1,H2,h1,h2,KeepVm.move (h.mono h6) (fun _ _ h=>h) t m.hd h3,KeepVms.move (h.mono h7) (fun _ _ h=>h) ts m.tl h4,h5,fun b o x=>hH b o (h6 b o x),fun b o x=>hH b o (h7 b o x)⟩
end
theorem Keeps.move{H H':Reg}(h:Held g w Z s ι w' Z' s' ι' H)(hH:Reg.sub H H'):∀(ps:List PSpec) {vs:List TV} {us:List Value},Keeps g w Z s ι ps vs us H→Keeps g w' Z' s' ι' ps vs us H'
 | [],_,_,_=>trivial
 | .mut t m m' :: ps,_,_,⟨p,vs',u,us',H1,H2,h1,h2,h3,h4,h5,h6,h7⟩=>⟨p,vs',u,us',H1,H2,h1,h2,h3.imp (KeepVar.move (h.mono h6) (fun _ _ h=>h)) (fun hk=>⟨hk.1,hk.2.1,KeepRow.move (h.mono h6) (fun _ _ h=>h) hk.2.2⟩),Keeps.move (h.mono h7) (fun _ _ h=>h) ps h4,h5,fun b o x=>hH b o (h6 b o x),fun b o x=>hH b o (h7 b o x)⟩
 | .vm t m :: ps,_,_,⟨v,vs',u,us',cs,H1,H2,h1,h2,h3,hmo,h4,h5,h6,h7,h8⟩=>⟨v,vs',u,us',cs,H1,H2,h1,h2,h3,hmo,KeepVm.move (h.mono h7) (fun _ _ h=>h) t m h4,Keeps.move (h.mono h8) (fun _ _ h=>h) ps h5,h6,fun b o x=>hH b o (h7 b o x),fun b o x=>hH b o (h8 b o x)⟩
 | .val _ _ :: ps,_,_,⟨v,vs',u,us',h1,h2,h3⟩=>⟨v,vs',u,us',h1,h2,Keeps.move h hH ps h3⟩
 | .frz _ :: ps,_,_,⟨v,vs',u,us',h1,h2,h3⟩=>⟨v,vs',u,us',h1,h2,Keeps.move h hH ps h3⟩
 | .ref _ :: ps,_,_,⟨v,vs',u,us',h1,h2,h3⟩=>⟨v,vs',u,us',h1,h2,Keeps.move h hH ps h3⟩
 | .fn _ _ :: ps,_,_,⟨v,vs',u,us',h1,h2,h3⟩=>⟨v,vs',u,us',h1,h2,Keeps.move h hH ps h3⟩
theorem Gives.held(h:Gives s ι Z s' Z')(H:Reg):Held true w Z s ι w Z' s' ι H:=by
 refine⟨fun _ _=>TVRep.move h.moves,fun _ _=>CellRep.move h.moves,h.zsub,fun id o' hn ho=>⟨?_,rfl⟩,fun _ id hn hl=>hn (h.live hl).1,Same.refl _ _,Same.refl _ _,fun _ _ h=>h,fun _ _ _ h=>h⟩
 rcases h.o id with h1 | ⟨h0,_⟩
 ·rw [← h1,ho]
 ·exact absurd h0 (hn rfl)
def LendRes(w0:World)(F0 Z0:Reg)(n:Frm)(s:St)(a:Act)(w:World)(ι : Nat→OI)(Z:Reg)(R:List Value→Reg→Prop)(Kp:St→List HC→List Value→Reg→Prop)(cs:List HC)(vs:List Value)(cs':List HC)(s':St):Prop :=
 ∃c1 us vs' F H,cs=c1++cs'∧vs=us++vs'∧Inv w0 F0 Z0 n s' a w ι Z∧Gives s ι Z s' Z∧CellsRep w Z s' ι cs' vs'∧Free w0 F0 s' w ι Z F∧Free w0 F0 s' w ι Z H∧Reg.apart F H ∧
  R us F∧Kp s' c1 us H∧∀b o,F b o∨H b o→∃id,(s.o id).live∧(ι id).F b o
theorem lendRes_bare{R:List Value→Reg→Prop}{Kp:St→List HC→List Value→Reg→Prop}{c:HC}{v:Value}{cs':List HC}{vs':List Value}(h:Inv w0 F0 Z0 n s a w ι Z)(hc:CellsRep w Z s ι cs' vs')
  (hR:R [v] Reg.none) (hK:Kp s [c] [v] Reg.none):LendRes w0 F0 Z0 n s a w ι Z R Kp (c :: cs') (v :: vs') cs' s :=
 ⟨[c],[v],vs',Reg.none,Reg.none,rfl,rfl,h,.refl,hc,.none,.none,fun _ _ h=>h.elim,hR,hK,fun _ _ h=>h.elim (fun h=>h.elim) fun h=>h.elim⟩
mutual
theorem Ty.lend_sound:∀(t:Ty) (m:Md) (cs:List HC) (s:St) (r:t.D×List HC×St) (vs:List Value),t.lend m cs s=some r→Inv w0 F0 Z0 n s a w ι Z→CellsRep w Z s ι cs vs →
  LendRes w0 F0 Z0 n s a w ι Z (fun us F=>t.Rep w Z m r.1 us F) (fun s c us H=>KeepVm true w Z s ι t m c us H) cs vs r.2.1 r.2.2
 | .int k,m,cs,s,r,vs,hi,h,hc=>by
  match cs,vs,hc with
  | [],_,_=>simp [Ty.lend] at hi
  | _ :: _,[],hc=>exact hc.elim
  | c :: cs,v :: vs,hc =>
   cases c <;> simp only [Ty.lend] at hi <;> try (simp at hi;done)
   rename_i k' x
   cases hb:Nat.beq (kindNo k) (kindNo k')
   ·rw [hb] at hi;simp at hi
   rw [hb] at hi
   obtain rfl:=osj hi
   have:=kind_eq hb
   subst this
   have hv:v=.int k x:=hc.1
   exact lendRes_bare h hc.2 (by simp only [Ty.Rep];rw [hv]) (by simp only [KeepVm];exact⟨rfl,rfl⟩)
 | .bool,m,cs,s,r,vs,hi,h,hc=>by
  match cs,vs,hc with
  | [],_,_=>simp [Ty.lend] at hi
  | _ :: _,[],hc=>exact hc.elim
  | c :: cs,v :: vs,hc =>
   cases c <;> simp only [Ty.lend] at hi <;> try (simp at hi;done)
   obtain rfl:=osj hi
   have hv:=hc.1
   simp only [CellRep] at hv
   exact lendRes_bare h hc.2 (by simp only [Ty.Rep];rw [hv]) (by simp only [KeepVm];exact⟨rfl,rfl⟩)
 | .str,m,cs,s,r,vs,hi,h,hc=>by
  match cs,vs,hc with
  | [],_,_=>simp [Ty.lend] at hi
  | _ :: _,[],hc=>exact hc.elim
  | c :: cs,v :: vs,hc =>
   cases c <;> simp only [Ty.lend] at hi <;> try (simp at hi;done)
   obtain rfl:=osj hi
   have hv:=hc.1
   obtain ⟨bb,hv,hx⟩:=hv
   exact lendRes_bare h hc.2 (by simp only [Ty.Rep];exact⟨bb,by rw [hv],hx⟩) (by simp only [KeepVm];exact⟨rfl,rfl⟩)
 | .raw,m,cs,s,r,vs,hi,h,hc=>by cases cs <;> cases m <;> simp [Ty.lend] at hi
 | .sl t,m,cs,s,r,vs,hi,h,hc=>by
  match cs,vs,hc with
  | [],_,_=>cases m <;> simp [Ty.lend] at hi
  | _ :: _,[],hc=>exact hc.elim
  | c :: cs,v :: vs,hc =>
   cases m with
   | R=>simp [Ty.lend] at hi
   | S=>simp [Ty.lend] at hi
   | O e =>
    cases c with
    | nil u =>
     simp only [Ty.lend] at hi
     obtain ⟨x,hx,hi⟩:=obi hi
     obtain ⟨e1,rfl⟩:=castD_sl hx
     subst e1
     obtain rfl:=osj hi
     have hv:v=.slice none 0 0:=hc.1
     refine lendRes_bare h hc.2 ?_ ?_
     ·simp only [Ty.Rep];exact⟨none,0,by rw [hv];rfl,.inl (by simp)⟩
     ·simp only [KeepVm];exact⟨_,_,rfl,rfl,hv⟩
    | hd id sub =>
     cases sub with
     | some=>simp [Ty.lend] at hi
     | none =>
      simp only [Ty.lend] at hi
      cases ho:s.o id with
      | row u em ver xs =>
       rw [ho] at hi
       simp only at hi
       cases hb:Md.beq em e
       ·rw [hb] at hi;simp at hi
       rw [hb] at hi
       simp only [cond_true] at hi
       have:=Md.eq_of_beq _ _ hb
       subst this
       obtain ⟨x,hx,hi⟩:=obi hi
       obtain ⟨e1,rfl⟩:=castD_sl hx
       subst e1
       obtain rfl:=osj hi
       have hlive:(s.o id).live:=by rw [ho];trivial
       have hg:Gives s ι Z (s.putO id (.lent (.row u em ver xs))) Z:=by have:=gives_lend (s:=s) (ι := ι) (Z:=Z) hlive;rw [ho] at this;exact this
       have hfree:Free w0 F0 (s.putO id (.lent (.row u em ver xs))) w ι Z (ι id).F:=by have:=h.lent_free hlive;rw [ho] at this;exact this
       have hobj:=h.objs id
       rw [ho] at hobj
       obtain ⟨_,A,m',k,hv,hh⟩:=hc.1
       have hh:=hh u em ver xs (core_row ho)
       have hown:=header_own hobj hh
       have hm':m'=xs.length:=hh.n_eq
       subst hm'
       have hlent:(s.putO id (.lent (.row u em ver xs))).o id=.lent (.row u em ver xs):=upd_same _ _ _
       simp only [Ty.Rep,subL] at hown
       obtain ⟨A',k',hv',hown⟩:=hown
       simp only [List.cons.injEq,Value.slice.injEq,and_true,true_and] at hv'
       obtain ⟨rfl,rfl⟩:=hv'
       rcases hobj with⟨hx0,hcap0⟩ | ⟨⟨b,o,sp⟩,hbase,hr⟩
       ·refine⟨[.hd id none],[v],vs,Reg.none,Reg.none,rfl,rfl,h.gives hg,hg,hc.2.move hg.moves,.none,.none,fun _ _ h=>h.elim,?_,?_,fun _ _ h=>h.elim (fun h=>h.elim) fun h=>h.elim⟩
        ·simp only [Ty.Rep]
         have hk0:k=0:=by have:=hh.cap;omega
         exact⟨A,k,by rw [hv],.inl ⟨hx0,hk0⟩⟩
        ·simp only [KeepVm]
         exact⟨_,_,rfl,rfl,ver,xs,A,k,_,fun _=>by rw [hlent];exact fun h=>h,fun ob hob=>by rw [hlent] at hob;exact⟨(LObj.lent.inj hob).symm,rfl,hh⟩,hv,.inl ⟨hx0,hcap0⟩⟩
       ·have hsp:=hr.spot
        simp only at hsp
        subst hsp
        have hkc:k*u.size≤(ι id).cap*u.size:=Nat.mul_le_mul_right _ (by have:=hh.cap;simp only [subLo] at this;omega)
        let T:Reg:=Reg.run b (o+k*u.size) ((ι id).cap*u.size-k*u.size)
        refine⟨[.hd id none],[v],vs,Reg.diff (ι id).F T,fun b o=>(ι id).F b o∧T b o,rfl,rfl,h.gives hg,hg,hc.2.move hg.moves,hfree.sub fun _ _ h=>h.1,hfree.sub fun _ _ h=>h.1,fun b o h1 h2=>h1.2 h2.2,?_,?_,?_⟩
        ·simp only [Ty.Rep]
         refine⟨A,k,by rw [hv],?_⟩
         rcases hown with hown | ⟨⟨b',o',sp⟩,hA,hr'⟩
         ·exact .inl hown
         ·rcases hh.at_ with hk0 | ⟨a1,ha1,hA1⟩
          ·exact .inl ⟨List.eq_nil_of_length_eq_zero (by have:=hh.le;omega),hk0⟩
          ·right
           rw [hbase] at ha1
           obtain rfl:=osj ha1
           rw [hA] at hA1
           simp only [subLo,Nat.zero_mul,Nat.add_zero,Option.some.injEq,at_,Addr.mk.injEq] at hA1
           obtain ⟨rfl,rfl,rfl⟩:=hA1
           obtain ⟨G,g1,g2,g3⟩:=hr.row
           refine⟨_,hA,rfl,hr'.cap,hr'.wr,fun j hj=>⟨hr'.inF j hj,?_⟩,G,g1,fun j hj=>g2 j (by omega),fun b o hg=>⟨g3 b o hg,?_⟩⟩
           ·rintro ⟨_,h1,_⟩;simp only at h1;omega
           ·rintro ⟨rfl,h1,h2⟩
            have:=g2 (o-o') (by omega)
            simp only at this
            rw [show o' +(o-o')=o by omega] at this
            exact this hg
        ·simp only [KeepVm]
         refine⟨_,_,rfl,rfl,ver,xs,A,k,(ι id).cap,fun _=>by rw [hlent];exact fun h=>h,fun ob hob=>by rw [hlent] at hob;exact⟨(LObj.lent.inj hob).symm,rfl,hh⟩,hv,.inr ⟨b,o,fun _ _=>hbase,hr.cap,by have:=hh.cap;simp only [subLo] at this;omega,?_,hr.wr,fun j h1 h2=>⟨hr.inF j h2,rfl,by omega,by omega⟩⟩⟩
         rcases hh.at_ with h0 | ⟨a1,ha1,hA1⟩
         ·exact .inl h0
         ·rw [hbase] at ha1
          obtain rfl:=osj ha1
          right;rw [hA1];simp [subLo,at_]
        ·rintro b o (hf | hf)
         ·exact⟨id,hlive,hf.1⟩
         ·exact⟨id,hlive,hf.1⟩
      | _=>rw [ho] at hi;simp at hi
    | lst u dp og xs =>
     simp only [Ty.lend] at hi
     obtain ⟨r0,hlo,hi⟩:=obi hi
     obtain rfl:=osj hi
     cases og with
     | none=>simp [lendOrg] at hlo
     | some p =>
      simp only [lendOrg] at hlo
      cases hei:p.ei with
      | none=>rw [hei] at hlo;simp at hlo
      | some i =>
       rw [hei] at hlo
       cases ho:s.o p.id with
       | row T em ver ys =>
        rw [ho] at hlo
        simp only at hlo
        cases hb:(alive s dp&&Md.beq em T.own&&Md.beq e t.own)
        ·rw [hb] at hlo;simp at hlo
        rw [hb] at hlo
        simp only [cond_true] at hlo
        simp only [Bool.and_eq_true] at hb
        obtain rfl:=Md.eq_of_beq _ _ hb.1.2
        obtain rfl:=Md.eq_of_beq _ _ hb.2
        obtain ⟨x,hx,hlo⟩:=obi hlo
        obtain rfl:=osj hlo
        obtain ⟨_,_,_,horg⟩:=hc.1
        obtain ⟨_,horg⟩:=horg _ rfl
        obtain ⟨b0,o0,⟨_,hpl⟩,hcell,hin⟩:=horg hb.1.1
        simp only [ho,LObj.core] at hpl
        obtain ⟨i',hii,hilt,a0,hbase,ha0⟩:=hpl
        rw [hei] at hii
        obtain rfl:=osj hii
        have hlive:(s.o p.id).live:=by rw [ho];trivial
        have hg:Gives s ι Z (s.putO p.id (.lent (.row T T.own ver ys))) Z:=by have:=gives_lend (s:=s) (ι := ι) (Z:=Z) hlive;rw [ho] at this;exact this
        have hfree:Free w0 F0 (s.putO p.id (.lent (.row T T.own ver ys))) w ι Z (ι p.id).F:=by have:=h.lent_free hlive;rw [ho] at this;exact this
        have hobj:=h.objs p.id
        rw [ho] at hobj
        rcases hobj with⟨hx0,_⟩ | ⟨a1,hb1,hr⟩
        ·rw [hx0] at hilt;simp at hilt
        rw [hbase] at hb1
        obtain rfl:=osj hb1
        obtain ⟨ab,ao,sp⟩:=a0
        have hsp:=hr.spot
        simp only at hsp
        subst hsp
        obtain ⟨v',H1,l1,l2,l3,l4⟩:=hr.lens hilt hx
        rw [← ha0] at l1
        have hvv:v'=v:=by rw [hcell] at l1;exact(osj l1).symm
        subst hvv
        have hlent:(s.putO p.id (.lent (.row T T.own ver ys))).o p.id=.lent (.row T T.own ver ys):=upd_same _ _ _
        refine⟨[.lst u dp (some p) xs],[v'],vs,H1,Reg.diff (ι p.id).F H1,rfl,rfl,h.gives hg,hg,hc.2.move hg.moves,hfree.sub l3,hfree.sub fun _ _ h=>h.1,fun b o h1 h2=>h2.2 h1,l2,?_,?_⟩
        ·simp only [KeepVm]
         exact⟨_,_,rfl,rfl,p,i,T,ver,ys,ab,ao,(ι p.id).cap,rfl,hei,fun _=>by rw [hlent];exact fun h=>h,fun ob hob=>by rw [hlent] at hob;exact⟨(LObj.lent.inj hob).symm,hbase,rfl⟩,hilt,rfl,l4⟩
        ·rintro b o (hf | hf)
         ·exact⟨p.id,hlive,l3 b o hf⟩
         ·exact⟨p.id,hlive,hf.1⟩
       | _=>rw [ho] at hlo;simp at hlo
    | _=>simp [Ty.lend] at hi
 | .st ts,m,cs,s,r,vs,hi,h,hc=>by
  simp only [Ty.lend] at hi
  have:=Tys.lend_sound ts m.parts cs s r vs hi h hc
  simpa only [Ty.Rep,KeepVm] using this
theorem Tys.lend_sound:∀(ts:Tys) (m:Mds) (cs:List HC) (s:St) (r:ts.D×List HC×St) (vs:List Value),ts.lend m cs s=some r→Inv w0 F0 Z0 n s a w ι Z→CellsRep w Z s ι cs vs →
  LendRes w0 F0 Z0 n s a w ι Z (fun us F=>ts.Rep w Z m r.1 us F) (fun s c us H=>KeepVms true w Z s ι ts m c us H) cs vs r.2.1 r.2.2
 | .nil,m,cs,s,r,vs,hi,h,hc=>by
  simp only [Tys.lend] at hi
  obtain rfl:=osj hi
  exact⟨[],[],vs,Reg.none,Reg.none,rfl,rfl,h,.refl,hc,.none,.none,fun _ _ h=>h.elim,by simp only [Tys.Rep],by simp [KeepVms],fun _ _ h=>h.elim (fun h=>h.elim) fun h=>h.elim⟩
 | .cons t ts,m,cs,s,r,vs,hi,h,hc=>by
  simp only [Tys.lend] at hi
  obtain ⟨r1,h1,hi⟩:=obi hi
  obtain ⟨r2,h2,hi⟩:=obi hi
  obtain rfl:=osj hi
  obtain ⟨c1,us1,vs1,F1,H1,e1,e2,i1,g1,q1,f1,f1',a1,p1,k1,l1⟩:=Ty.lend_sound t m.hd cs s r1 vs h1 h hc
  obtain ⟨c2,us2,vs2,F2,H2,d1,d2,i2,g2,q2,f2,f2',a2,p2,k2,l2⟩:=Tys.lend_sound ts m.tl r1.2.1 r1.2.2 r2 vs1 h2 i1 q1
  have hap:∀ {X:Reg},Free w0 F0 r1.2.2 w ι Z X→∀b o,X b o→(F2 b o∨H2 b o)→False:=by
   intro X hX b o hx hh
   obtain ⟨id,hl,hf⟩:=l2 b o hh
   exact hX.apart id hl b o hx hf
  refine⟨c1++c2,us1++us2,vs2,F1.or F2,H1.or H2,by rw [e1,d1,List.append_assoc],by rw [e2,d2,List.append_assoc],i2,g1.trans g2,q2,(f1.give g2).or f2,(f1'.give g2).or f2',?_,?_,?_,?_⟩
  ·rintro b o (hf | hf) (hh | hh)
   ·exact a1 b o hf hh
   ·exact hap f1 b o hf (.inr hh)
   ·exact hap f1' b o hh (.inl hf)
   ·exact a2 b o hf hh
  ·simp only [Tys.Rep]
   exact⟨us1,us2,F1,F2,rfl,p1,p2,fun b o h1 h2=>hap f1 b o h1 (.inl h2),fun _ _ h=>.inl h,fun _ _ h=>.inr h⟩
  ·simp only [KeepVms]
   exact⟨c1,c2,us1,us2,H1,H2,rfl,rfl,KeepVm.move (g2.held H1) (fun _ _ h=>h) t m.hd k1,k2,fun b o h1 h2=>hap f1' b o h1 (.inr h2),fun _ _ h=>.inl h,fun _ _ h=>.inr h⟩
  ·rintro b o ((hf | hf) | (hf | hf))
   ·exact l1 b o (.inl hf)
   ·obtain ⟨id,hl,hff⟩:=l2 b o (.inl hf);exact⟨id,(g1.live hl).1,hff⟩
   ·exact l1 b o (.inr hf)
   ·obtain ⟨id,hl,hff⟩:=l2 b o (.inr hf);exact⟨id,(g1.live hl).1,hff⟩
end
end
end Go.LM
namespace Go.LM
section
variable{P:Program}{Q:Exit→Act→World→Prop}
variable{w0:World}{F0 Z0:Reg}{n:Frm}{s s':St}{a a':Act}{w w':World}{ι ι':Nat→OI}{Z Z':Reg}
theorem fit_wrap{t:Ty}{x:TV}{v:Value}(hf:fitV t x=true)(hv:TVRep w Z s ι x v):v=wrapV t v.cells.toList:=by
 cases t <;> cases x <;> simp only [fitV] at hf <;> try (simp at hf;done)
 all_goals simp only [TVRep] at hv
 all_goals first
  | (rw [cells_one hv.oneC];rfl)
  | (subst hv;rfl)
  | (obtain ⟨vs,rfl,_⟩:=hv;simp [wrapV,Value.cells])
theorem readP_in(h:Inv w0 F0 Z0 n s a w ι Z){k:Nat}{p:Place}{cs:List HC}{A:Addr}(hr:readP s k p=some cs)(hp:PlaceAt s ι p A) :
  ∃b o vs,A=at_ b o∧CellsRep w Z s ι cs vs∧CellsAt w b o vs∧vs.length=k∧(s.o p.id).live∧∀j,j<k→(ι p.id).F b (o+j):=by
 obtain ⟨b,o,vs,rfl,h1,h2,h3⟩:=readP_sound h hr hp
 refine⟨b,o,vs,rfl,h1,h2,h3,?_⟩
 obtain ⟨hs,hp⟩:=hp
 unfold readP at hr
 cases ho:s.o p.id with
 | var ver old =>
  rw [ho] at hr hp
  obtain ⟨he,a0,hb,hA⟩:=hp
  rw [he] at hr
  obtain ⟨hle,rfl⟩:=takeN_some hr
  have hobj:=h.objs p.id
  rw [ho] at hobj
  obtain ⟨a0',vs',hb',hsp,hc,hat,hF⟩:=hobj
  rw [hb] at hb'
  obtain rfl:=osj hb'
  simp only [at_,Addr.mk.injEq,and_true] at hA
  obtain ⟨rfl,rfl⟩:=hA
  refine⟨trivial,fun j hj=>?_⟩
  have:=(hF (p.off+j) (by omega)).2
  rwa [← Nat.add_assoc] at this
 | row t em ver xs =>
  rw [ho] at hr hp
  obtain ⟨i,he,hi,a0,hb,hA⟩:=hp
  rw [he] at hr
  obtain ⟨hle,rfl⟩:=takeN_some hr
  have hobj:=h.objs p.id
  rw [ho] at hobj
  obtain ⟨a0',vs',hb',hsp,hc,hat,hl⟩:=cells1_rep h ho hi
  rcases hobj with⟨rfl,_⟩ | ⟨a1,hb1,hrow⟩
  ·simp at hi
  rw [hb] at hb1
  obtain rfl:=osj hb1
  simp only [at_,Addr.mk.injEq,and_true] at hA
  obtain ⟨rfl,rfl⟩:=hA
  refine⟨trivial,fun j hj=>?_⟩
  have hcl:=hc.len
  have hle2:(i+1)*t.size≤(ι p.id).cap*t.size:=Nat.mul_le_mul_right _ (by have:=hrow.cap;omega)
  rw [Nat.add_one_mul] at hle2
  have:=hrow.inF (i*t.size+p.off+j) (by omega)
  rwa [show a0.off +(i*t.size+p.off+j)=a0.off+i*t.size+p.off+j by omega] at this
 | none=>rw [ho] at hr;simp at hr
 | dead=>rw [ho] at hr;simp at hr
 | lent=>rw [ho] at hr;simp at hr
def MarshRes(w0:World)(F0 Z0:Reg)(n:Frm)(s:St)(a:Act)(w:World)(ι : Nat→OI)(Z:Reg)(key:Nat)(bs:List (Nat×Nat))(ps:List PSpec)(vs:List TV)(us:List Value)(q:(PSpec.ins ps).D×St×List (Nat×Nat)):Prop :=
 ∃F H Z1,Inv w0 F0 Z0 n q.2.1 a w ι Z1∧Gives s ι Z q.2.1 Z1∧ArgRep w (Z1.or (depF ι q.2.2)) key ps q.1 us F∧Keeps true w Z1 q.2.1 ι ps vs us H∧Free w0 F0 q.2.1 w ι Z1 F∧Free w0 F0 q.2.1 w ι Z1 H∧Reg.apart F H ∧
  (∃nb,q.2.2=nb++bs)∧(∀d,d∈q.2.2→okDep q.2.1 d)∧∀b o,F b o∨H b o→∃id,(s.o id).live∧(ι id).F b o
theorem okDep_give(h:Gives s ι Z s' Z'){d:Nat×Nat}(hd:okDep s d):okDep s' d:=(h.moves (w:=default)).turns.dep hd
theorem marsh_cons{key:Nat}{sp:PSpec}{ps:List PSpec}{v:TV}{vs:List TV}{u:Value}{us:List Value}{bs bs1 nb:List (Nat×Nat)}{s1:St}{Z1 F1 H1:Reg}{q:(PSpec.ins ps).D×St×List (Nat×Nat)}{x:(PSpec.ins (sp :: ps)).D}
  (g1:Gives s ι Z s1 Z1) (f1:Free w0 F0 s1 w ι Z1 F1) (h1:Free w0 F0 s1 w ι Z1 H1) (a1:Reg.apart F1 H1) (src:∀b o,F1 b o∨H1 b o→∃id,(s.o id).live∧(ι id).F b o) (hnb:bs1=nb++bs)
  (hr:MarshRes w0 F0 Z0 n s1 a w ι Z1 key bs1 ps vs us q)
  (hA:∀(Z2 F2:Reg),Reg.sub (Z1.or (depF ι bs1)) Z2→ArgRep w Z2 key ps q.1 us F2→Reg.apart F1 F2→ArgRep w Z2 key (sp :: ps) x (u :: us) (F1.or F2))
  (hK:∀(s2:St) (Z2 H2:Reg),Gives s1 ι Z1 s2 Z2→Keeps true w Z2 s2 ι ps vs us H2→Reg.apart H1 H2→Keeps true w Z2 s2 ι (sp :: ps) (v :: vs) (u :: us) (H1.or H2)) :
  MarshRes w0 F0 Z0 n s a w ι Z key bs (sp :: ps) (v :: vs) (u :: us) (x,q.2):=by
 obtain ⟨F2,H2,Z2,i2,g2,r2,k2,f2,h2,a2,⟨nb2,n2⟩,d2,s2⟩:=hr
 have hap:∀ {X:Reg},Free w0 F0 s1 w ι Z1 X→∀b o,X b o→(F2 b o∨H2 b o)→False:=by
  intro X hX b o hx hh
  obtain ⟨id,hl,hf⟩:=s2 b o hh
  exact hX.apart id hl b o hx hf
 refine⟨F1.or F2,H1.or H2,Z2,i2,g1.trans g2,hA _ _ ?_ r2 (fun b o h1 h2=>hap f1 b o h1 (.inl h2)),hK _ _ _ g2 k2 (fun b o x y=>hap h1 b o x (.inr y)),(f1.give g2).or f2,(h1.give g2).or h2,?_,⟨nb2++nb,by show q.2.2=_;rw [n2,hnb,List.append_assoc]⟩,d2,?_⟩
 ·rintro b o (hz | hz)
  ·exact .inl (g2.zsub b o hz)
  ·show Z2 b o∨depF ι q.2.2 b o
   rw [n2];exact .inr (depF_append _ _ _ b o hz)
 ·rintro b o (hf | hf) (hh | hh)
  ·exact a1 b o hf hh
  ·exact hap f1 b o hf (.inr hh)
  ·exact hap h1 b o hh (.inl hf)
  ·exact a2 b o hf hh
 ·rintro b o ((hf | hf) | (hf | hf))
  ·exact src b o (.inl hf)
  ·obtain ⟨id,hl,hff⟩:=s2 b o (.inl hf);exact⟨id,(g1.live hl).1,hff⟩
  ·exact src b o (.inr hf)
  ·obtain ⟨id,hl,hff⟩:=s2 b o (.inr hf);exact⟨id,(g1.live hl).1,hff⟩
theorem keeps_skip{sp:PSpec}{ps:List PSpec}{v:TV}{vs:List TV}{u:Value}{us:List Value}{H H':Reg}(hsp:(∃t m,sp=.val t m)∨(∃t,sp=.ref t)∨(∃a b,sp=.fn a b)∨∃t,sp=.frz t)(hH:Reg.sub H H')
  (h:Keeps true w Z s ι ps vs us H) (hz:Held true w Z s ι w Z s ι H):Keeps true w Z s ι (sp :: ps) (v :: vs) (u :: us) H':=by
 have:=Keeps.move hz hH ps h
 rcases hsp with⟨t,m,rfl⟩ | ⟨t,rfl⟩ | ⟨a,b,rfl⟩ | ⟨t,rfl⟩ <;> exact⟨v,vs,u,us,rfl,rfl,this⟩
theorem tvs_len:∀ {x:List TV} {us:List Value},TVsRep w Z s ι x us→us.length=x.length
 | [],_,h=>by simp only [TVsRep] at h;rw [h];rfl
 | _ :: _,_,h=>by
  simp only [TVsRep] at h
  obtain ⟨u,us',rfl,_,h2⟩:=h
  simp [tvs_len h2]
theorem marsh_sound{key:Nat} : ∀(ps:List PSpec) (vs:List TV) (us:List Value) (s:St) (Z:Reg) (bs:List (Nat×Nat)) (q:(PSpec.ins ps).D×St×List (Nat×Nat)),marsh key s ps vs bs=some q→Inv w0 F0 Z0 n s a w ι Z →
  TVsRep w Z s ι vs us→(∀d,d∈bs→okDep s d)→MarshRes w0 F0 Z0 n s a w ι Z key bs ps vs us q
 | [],vs,us,s,Z,bs,q,hm,h,hv,hb=>by
  cases vs with
  | cons=>simp [marsh] at hm
  | nil =>
   simp only [marsh,Option.some.injEq] at hm
   subst hm
   simp only [TVsRep] at hv
   exact⟨Reg.none,Reg.none,Z,h,.refl,hv,trivial,.none,.none,fun _ _ h=>h.elim,⟨[],rfl⟩,hb,fun _ _ h=>h.elim (fun h=>h.elim) fun h=>h.elim⟩
 | .fn nf nc :: ps,vs,us,s,Z,bs,q,hm,h,hv,hb=>by
  cases vs with
  | nil=>simp [marsh] at hm
  | cons v vs =>
   cases v <;> simp only [marsh] at hm <;> try (simp at hm;done)
   rename_i g fi ca
   cases hg:(Nat.beq g key&&Nat.beq fi.length nf&&Nat.beq ca.length nc)
   ·rw [hg] at hm;cases hm
   rw [hg] at hm
   simp only [Bool.and_eq_true] at hg
   obtain ⟨⟨hg,hg1⟩,hg2⟩:=hg
   have hg:=Nat.eq_of_beq_eq_true hg
   have hg1:=Nat.eq_of_beq_eq_true hg1
   have hg2:=Nat.eq_of_beq_eq_true hg2
   subst hg
   simp only [TVsRep,TVRep] at hv
   obtain ⟨u,us',rfl,⟨x,y,hx,kx,ky⟩,hrest⟩:=hv
   have lx:=tvs_len kx
   have ly:=tvs_len ky
   obtain ⟨F,H,Z1,i1,g1,r1,k1,f1,h1,a1,n1,d1,s1⟩:=marsh_sound ps vs us' s Z bs q hm h hrest hb
   exact⟨F,H,Z1,i1,g1,⟨_,_,us',by rw [hx],⟨by simp;omega,by simp;omega⟩,r1⟩,⟨_,_,_,_,rfl,rfl,k1⟩,f1,h1,a1,n1,d1,s1⟩
 | .val t m :: ps,vs,us,s,Z,bs,q,hm,h,hv,hb=>by
  cases vs with
  | nil=>simp [marsh] at hm
  | cons v vs =>
   simp only [marsh] at hm
   cases hf:fitV t v
   ·rw [hf] at hm;simp at hm
   rw [hf] at hm
   simp only [cond_true] at hm
   cases hcs:cellsT t v with
   | none=>rw [hcs] at hm;simp at hm
   | some cs =>
    rw [hcs] at hm
    simp only at hm
    obtain ⟨r,hr,hm⟩:=obi hm
    cases hrr:r.2.1 with
    | cons=>rw [hrr] at hm;simp at hm
    | nil =>
     rw [hrr] at hm
     simp only at hm
     obtain ⟨p,hp,hm⟩:=obi hm
     obtain rfl:=osj hm
     simp only [TVsRep] at hv
     obtain ⟨u,us',rfl,hu,hrest⟩:=hv
     obtain ⟨us1,vs1,F1,Z1,e1,i1,s1,c1,f1,r1,⟨nb,n1⟩,_,d1,g1⟩:=Ty.imp_sound t true m cs s bs r _ Z hr h (cellsT_rep hcs hu) hb
     rw [hrr] at c1
     have hvs1:vs1=[]:=by cases vs1 with | nil=>rfl | cons=>exact c1.elim
     subst hvs1
     rw [List.append_nil] at e1
     have hw:=fit_wrap hf hu
     rw [e1] at hw
     have hmr:=marsh_sound ps vs us' r.2.2.1 Z1 r.2.2.2 p hp i1 (TVsRep.move s1.moves hrest) d1
     refine marsh_cons s1.gives f1 .none (fun _ _ _ h=>h) (fun b o hf=>hf.elim (g1 b o) fun h=>h.elim) n1 hmr ?_ ?_
     ·intro Z2 F2 hZ hA hap
      exact⟨us1,us',F1,F2,by rw [← hw],Ty.Rep.mono hZ _ _ (fun _ _ h=>h) r1,hA,hap,fun _ _ h=>.inl h,fun _ _ h=>.inr h⟩
     ·intro s2 Z2 H2 hg hk hHa
      exact keeps_skip (.inl ⟨_,_,rfl⟩) (fun _ _ h=>.inr h) hk (Gives.refl.held H2)
 | .frz t :: ps,vs,us,s,Z,bs,q,hm,h,hv,hb=>by
  cases vs with
  | nil=>simp [marsh] at hm
  | cons v vs =>
   simp only [marsh] at hm
   cases hf:fitV t v
   ·rw [hf] at hm;simp at hm
   rw [hf] at hm
   simp only [cond_true] at hm
   cases hcs:cellsT t v with
   | none=>rw [hcs] at hm;simp at hm
   | some cs =>
    rw [hcs] at hm
    simp only at hm
    obtain ⟨r,hr,hm⟩:=obi hm
    cases hrr:r.2.1 with
    | cons=>rw [hrr] at hm;simp at hm
    | nil =>
     rw [hrr] at hm
     simp only at hm
     obtain ⟨p,hp,hm⟩:=obi hm
     obtain rfl:=osj hm
     simp only [TVsRep] at hv
     obtain ⟨u,us',rfl,hu,hrest⟩:=hv
     obtain ⟨us1,vs1,F1,Z1,e1,i1,s1,c1,f1,r1,⟨nb,n1⟩,_,d1,g1⟩:=Ty.imp_sound t false .R cs s bs r _ Z hr h (cellsT_rep hcs hu) hb
     rw [hrr] at c1
     have hvs1:vs1=[]:=by cases vs1 with | nil=>rfl | cons=>exact c1.elim
     subst hvs1
     rw [List.append_nil] at e1
     have hw:=fit_wrap hf hu
     rw [e1] at hw
     have hmr:=marsh_sound ps vs us' r.2.2.1 Z1 r.2.2.2 p hp i1 (TVsRep.move s1.moves hrest) d1
     refine marsh_cons s1.gives f1 .none (fun _ _ _ h=>h) (fun b o hf=>hf.elim (g1 b o) fun h=>h.elim) n1 hmr ?_ ?_
     ·intro Z2 F2 hZ hA hap
      exact⟨us1,us',F1,F2,by rw [← hw],Ty.Rep.mono hZ _ _ (fun _ _ h=>h) r1,hA,hap,fun _ _ h=>.inl h,fun _ _ h=>.inr h⟩
     ·intro s2 Z2 H2 hg hk hHa
      exact keeps_skip (.inr (.inr (.inr ⟨_,rfl⟩))) (fun _ _ h=>.inr h) hk (Gives.refl.held H2)
 | .vm t m :: ps,vs,us,s,Z,bs,q,hm,h,hv,hb=>by
  cases vs with
  | nil=>simp [marsh] at hm
  | cons v vs =>
   simp only [marsh] at hm
   cases hf:(fitV t v&&Md.beq m t.own)
   ·rw [hf] at hm;simp at hm
   rw [hf] at hm
   simp only [cond_true] at hm
   simp only [Bool.and_eq_true] at hf
   obtain ⟨hf,hmo⟩:=hf
   have hmo:=Md.eq_of_beq _ _ hmo
   cases hcs:cellsT t v with
   | none=>rw [hcs] at hm;simp at hm
   | some cs =>
    rw [hcs] at hm
    simp only at hm
    obtain ⟨r,hr,hm⟩:=obi hm
    cases hrr:r.2.1 with
    | cons=>rw [hrr] at hm;simp at hm
    | nil =>
     rw [hrr] at hm
     simp only at hm
     obtain ⟨p,hp,hm⟩:=obi hm
     obtain rfl:=osj hm
     simp only [TVsRep] at hv
     obtain ⟨u,us',rfl,hu,hrest⟩:=hv
     obtain ⟨c1,us1,vs1,F1,H1,e0,e1,i1,g1,q1,f1,f1',a1,r1,k1,l1⟩:=Ty.lend_sound t m cs s r _ hr h (cellsT_rep hcs hu)
     rw [hrr] at q1 e0
     have hvs1:vs1=[]:=by cases vs1 with | nil=>rfl | cons=>exact q1.elim
     subst hvs1
     rw [List.append_nil] at e1 e0
     subst e0
     have hw:=fit_wrap hf hu
     have hmr:=marsh_sound ps vs us' r.2.2 Z bs p hp i1 (TVsRep.move g1.moves hrest) (fun d hd=>okDep_give g1 (hb d hd))
     refine marsh_cons (nb:=[]) g1 f1 f1' a1 l1 rfl hmr ?_ ?_
     ·intro Z2 F2 hZ hA hap
      exact⟨us1,us',F1,F2,by rw [← e1,← hw],Ty.Rep.mono (fun b o hz=>hZ b o (.inl hz)) _ _ (fun _ _ h=>h) r1,hA,hap,fun _ _ h=>.inl h,fun _ _ h=>.inr h⟩
     ·intro s2 Z2 H2 hg hk hHa
      refine⟨v,vs,u,us',cs,H1,H2,rfl,rfl,hcs,hmo,?_,hk,hHa,fun _ _ h=>.inl h,fun _ _ h=>.inr h⟩
      rw [e1]
      exact KeepVm.move (hg.held H1) (fun _ _ h=>h) t m k1
 | .ref t :: ps,vs,us,s,Z,bs,q,hm,h,hv,hb=>by
  cases vs with
  | nil=>simp [marsh] at hm
  | cons v vs =>
   simp only [TVsRep] at hv
   obtain ⟨u,us',rfl,hu,hrest⟩:=hv
   have go:∀(cs:List HC) (bs':List (Nat×Nat)) (b o:Nat) (ws:List Value),CellsRep w Z s ι cs ws→CellsAt w b o ws→ws.length=t.size→u=.pointer (some (at_ b o))→(∃nb,bs'=nb++bs)→(∀d,d∈bs'→okDep s d) →
     (∀j,j<t.size→Z.or (depF ι bs') b (o+j)) →
     ((t.imp true .R cs s bs').bind fun r=>match r.2.1 with | []=>(marsh key r.2.2.1 ps vs r.2.2.2).bind fun q=>some ((r.1,q.1),q.2) | _=>none)=some q→MarshRes w0 F0 Z0 n s a w ι Z key bs (.ref t :: ps) (v :: vs) (u :: us') q:=by
    intro cs bs' b o ws hcr hat hwl hue ⟨nb0,hnb0⟩ hbs' hin hm
    obtain ⟨r,hr,hm⟩:=obi hm
    cases hrr:r.2.1 with
    | cons=>rw [hrr] at hm;simp at hm
    | nil =>
     rw [hrr] at hm
     simp only at hm
     obtain ⟨p,hp,hm⟩:=obi hm
     obtain rfl:=osj hm
     obtain ⟨us1,vs1,F1,Z1,e1,i1,s1,c1,f1,r1,⟨nb,n1⟩,_,d1,g1⟩:=Ty.imp_sound t true .R cs s bs' r _ Z hr h hcr hbs'
     rw [hrr] at c1
     have hvs1:vs1=[]:=by cases vs1 with | nil=>rfl | cons=>exact c1.elim
     subst hvs1
     rw [List.append_nil] at e1
     subst e1
     have hmr:=marsh_sound ps vs us' r.2.2.1 Z1 r.2.2.2 p hp i1 (TVsRep.move s1.moves hrest) d1
     refine marsh_cons (nb:=nb++nb0) s1.gives .none .none (fun _ _ h=>h.elim) (fun b o hf=>hf.elim (fun h=>h.elim) fun h=>h.elim) (by rw [n1,hnb0,List.append_assoc]) hmr ?_ ?_
     ·intro Z2 F2 hZ hA hap
      refine⟨b,o,ws,us',by rw [hue],hat,Ty.Rep.mono hZ _ _ (fun _ _ h=>h) (rep_R_none r1),fun j hj=>hZ _ _ ?_,ArgRep.mono (fun _ _ h=>h) ps (fun _ _ h=>.inr h) hA⟩
      rcases hin j hj with hz | hz
      ·exact .inl (s1.zsub _ _ hz)
      ·rw [n1];exact .inr (depF_append _ _ _ _ _ hz)
     ·intro s2 Z2 H2 hg hk hHa
      exact keeps_skip (.inr (.inl ⟨_,rfl⟩)) (fun _ _ h=>.inr h) hk (Gives.refl.held H2)
   cases v <;> simp only [marsh] at hm <;> try (simp at hm;done)
   ·rename_i p
    cases hr:readP s t.size p with
    | none=>rw [hr] at hm;simp at hm
    | some cs =>
     rw [hr] at hm
     simp only [TVRep] at hu
     obtain ⟨hk,A,hu,hp⟩:=hu
     obtain ⟨b,o,ws,rfl,h1,h2,h3,h4,h5⟩:=readP_in h hr hp
     refine go cs ((p.id,verOf s p.id) :: bs) b o ws h1 h2 h3 hu ⟨[_],rfl⟩ ?_ (fun j hj=>.inr ⟨_,List.mem_cons_self,h5 j hj⟩) hm
     intro d hd
     rcases List.mem_cons.1 hd with rfl | hd
     ·exact⟨hk,.inr (Nat.le_refl _)⟩
     ·exact hb d hd
   ·rename_i dp cs off
    cases ht:takeN off t.size cs with
    | none=>rw [ht] at hm;simp at hm
    | some ds =>
     rw [ht] at hm
     simp only at hm
     cases hal:alive s dp
     ·rw [hal] at hm;simp at hm
     rw [hal] at hm
     simp only [cond_true] at hm
     obtain ⟨hle,rfl⟩:=takeN_some ht
     simp only [TVRep] at hu
     obtain ⟨hd,b,o,ws,hu,hx⟩:=hu
     obtain ⟨h1,h2,h3⟩:=hx hal
     have hl:=h1.len
     refine go _ (dp++bs) b (o+off) ((ws.drop off).take t.size) ((h1.drop off).take _) (h2.part off _) (by simp;omega) hu ⟨dp,rfl⟩ ?_ ?_ hm
     ·intro d hdm
      rcases List.mem_append.1 hdm with h | h
      ·exact hd d h
      ·exact hb d h
     ·intro j hj
      have:=h3 (off+j) (by omega)
      rw [← Nat.add_assoc] at this
      rcases this with hz | ⟨d,hd,hf⟩
      ·exact .inl hz
      ·exact .inr ⟨d,List.mem_append.2 (.inl hd),hf⟩
 | .mut t m m' :: ps,vs,us,s,Z,bs,q,hm,h,hv,hb=>by
  cases vs with
  | nil=>simp [marsh] at hm
  | cons v vs =>
   simp only [TVsRep] at hv
   obtain ⟨u,us',rfl,hu,hrest⟩:=hv
   cases v <;> simp only [marsh] at hm <;> try (simp at hm;done)
   rename_i p
   simp only [TVRep] at hu
   obtain ⟨hk,A,hu,hp⟩:=hu
   obtain ⟨hsA,hp⟩:=hp
   cases ho:s.o p.id with
   | none=>rw [ho] at hm;simp at hm
   | dead=>rw [ho] at hm;simp at hm
   | lent=>rw [ho] at hm;simp at hm
   | var ver old =>
    rw [ho] at hm hp
    obtain ⟨he,a0,hbase,hA⟩:=hp
    rw [he] at hm
    simp only at hm
    cases ht:takeN p.off t.size old with
    | none=>rw [ht] at hm;simp at hm
    | some cs =>
     rw [ht] at hm
     simp only at hm
     obtain ⟨hle,rfl⟩:=takeN_some ht
     obtain ⟨r,hr,hm⟩:=obi hm
     cases hrr:r.2.1 with
     | cons=>rw [hrr] at hm;simp at hm
     | nil =>
      rw [hrr] at hm
      simp only at hm
      obtain ⟨qq,hq,hm⟩:=obi hm
      obtain rfl:=osj hm
      have hlive:(s.o p.id).live:=by rw [ho];trivial
      have hg:Gives s ι Z (s.putO p.id (.lent (.var ver old))) Z:=by have:=gives_lend (s:=s) (ι := ι) (Z:=Z) hlive;rw [ho] at this;exact this
      have hfree:Free w0 F0 (s.putO p.id (.lent (.var ver old))) w ι Z (ι p.id).F:=by have:=h.lent_free hlive;rw [ho] at this;exact this
      have hobj:=h.objs p.id
      rw [ho] at hobj
      obtain ⟨⟨b,o,sp⟩,ws,hb',hsp,hc,hat,hF⟩:=hobj
      simp only at hsp
      subst hsp
      rw [hbase] at hb'
      obtain rfl:=osj hb'
      have hl:=hc.len
      have hlent:(s.putO p.id (.lent (.var ver old))).o p.id=.lent (.var ver old):=upd_same _ _ _
      have hcm:=hc.move hg.moves
      obtain ⟨us1,vs1,F1,Z1,e1,i1,s1,c1,f1,r1,⟨nb,n1⟩,_,d1,g1⟩:=Ty.imp_sound t true m _ _ bs r _ Z hr (h.gives hg) ((hcm.drop p.off).take t.size) (fun d hd=>okDep_give hg (hb d hd))
      rw [hrr] at c1
      have hvs1:vs1=[]:=by cases vs1 with | nil=>rfl | cons=>exact c1.elim
      subst hvs1
      rw [List.append_nil] at e1
      have hmr:=marsh_sound ps vs us' r.2.2.1 Z1 r.2.2.2 qq hq i1 (TVsRep.move s1.moves (TVsRep.move hg.moves hrest)) d1
      have hgg:=hg.trans s1.gives
      have hrun:Reg.sub (Reg.run b (o+p.off) t.size) (ι p.id).F:=by
       rintro b' o' ⟨rfl,h1,h2⟩
       have:=(hF (o'-o) (by omega)).2
       simp only at this
       rwa [show o +(o'-o)=o' by omega] at this
      have hfr1:=hfree.shrink s1
      have hF1R:Reg.apart F1 (ι p.id).F:=by
       intro b o h1 h2
       obtain ⟨id,hl,hf⟩:=g1 b o h1
       exact hfree.apart id hl b o h2 hf
      refine marsh_cons (F1:=F1.or (Reg.run b (o+p.off) t.size)) (H1:=Reg.diff (ι p.id).F (Reg.run b (o+p.off) t.size)) hgg (f1.or (hfr1.sub hrun)) (hfr1.sub fun _ _ h=>h.1) ?_ ?_ n1 hmr ?_ ?_
      ·rintro b o (hf | hf) hh
       ·exact hF1R b o hf hh.1
       ·exact hh.2 hf
      ·rintro b' o' ((hf | hf) | hh)
       ·obtain ⟨id,hl,hff⟩:=g1 b' o' hf;exact⟨id,(hg.live hl).1,hff⟩
       ·exact⟨p.id,hlive,hrun b' o' hf⟩
       ·exact⟨p.id,hlive,hh.1⟩
      ·intro Z2 F2 hZ hA' hap
       refine⟨b,o+p.off,us1,us',F1,F2,by rw [hu,hA],?_,?_,Ty.Rep.mono hZ _ _ (fun _ _ h=>h) r1,hA',hap,fun b o h1 h2=>hF1R b o h1 (hrun b o h2),fun _ _ h=>.inl h,fun _ _ h=>.inr h⟩
       ·rw [← e1];exact hat.part p.off t.size
       ·intro j hj
        have:=(hF (p.off+j) (by omega)).1
        rwa [← Nat.add_assoc] at this
      ·intro s2 Z2 H2 hgs hkk hHa
       refine⟨p,vs,u,us',_,H2,rfl,rfl,.inl ?_,hkk,hHa,fun _ _ h=>.inl h,fun _ _ h=>.inr h⟩
       refine KeepVar.move ((s1.gives.trans hgs).held (Reg.diff (ι p.id).F (Reg.run b (o+p.off) t.size))) (fun _ _ h=>h) ?_
       refine⟨ver,old,b,o,ws,fun _=>by rw [hlent];exact fun h=>h,fun ob hob=>by rw [hlent] at hob;exact⟨(LObj.lent.inj hob).symm,hbase⟩,he,by rw [hu,hA],hle,hcm,fun j hj=>(hF j hj).1,fun j hj hh=>⟨(hF j hj).2,?_⟩,fun j v hv hh=>hat j v hv⟩
       rintro ⟨_,h1,h2⟩
       omega
   | row u' em ver xs =>
    rw [ho] at hm hp
    obtain ⟨i,he,hi,a0,hbase,hA⟩:=hp
    rw [he] at hm
    simp only at hm
    cases hcond:(Nat.beq p.off 0&&Md.beq em m&&Md.beq m' em&&Md.beq m t.own)
    ·rw [hcond] at hm;simp at hm
    rw [hcond] at hm
    simp only [Bool.and_eq_true] at hcond
    obtain ⟨⟨⟨hc1,hc2⟩,hc3⟩,hc4⟩:=hcond
    have hc4:=Md.eq_of_beq _ _ hc4
    have hc1:=Nat.eq_of_beq_eq_true hc1
    have hc2:=Md.eq_of_beq _ _ hc2
    have hc3:=Md.eq_of_beq _ _ hc3
    subst hc2
    subst hc3
    simp only [cond_true] at hm
    obtain ⟨x,hx,hm⟩:=obi hm
    obtain ⟨e1,rfl⟩:=castD_some hx
    subst e1
    obtain ⟨qq,hq,hm⟩:=obi hm
    obtain rfl:=osj hm
    have hlive:(s.o p.id).live:=by rw [ho];trivial
    have hg:Gives s ι Z (s.putO p.id (.lent (.row u' m' ver xs))) Z:=by have:=gives_lend (s:=s) (ι := ι) (Z:=Z) hlive;rw [ho] at this;exact this
    have hfree:Free w0 F0 (s.putO p.id (.lent (.row u' m' ver xs))) w ι Z (ι p.id).F:=by have:=h.lent_free hlive;rw [ho] at this;exact this
    have hobj:=h.objs p.id
    rw [ho] at hobj
    rcases hobj with⟨rfl,_⟩ | ⟨⟨b,o,sp⟩,hb',hrow⟩
    ·simp at hi
    have hsp:=hrow.spot
    simp only at hsp
    subst hsp
    rw [hbase] at hb'
    obtain rfl:=osj hb'
    obtain ⟨G,g1,g2,g3⟩:=hrow.row
    obtain ⟨G1,Gi,G2,ws,k1,k2,k3,k4,k5,k6,k7,k8,k9,k10,k11⟩:=g1.split3 i hi
    have hlent:(s.putO p.id (.lent (.row u' m' ver xs))).o p.id=.lent (.row u' m' ver xs):=upd_same _ _ _
    have hcap:(i+1)*u'.size≤(ι p.id).cap*u'.size:=Nat.mul_le_mul_right _ (by have:=hrow.cap;omega)
    rw [Nat.add_one_mul] at hcap
    have hrun:Reg.sub (Reg.run b (o+i*u'.size) u'.size) (ι p.id).F:=by
     rintro b' o' ⟨rfl,h1,h2⟩
     have:=hrow.inF (o'-o) (by omega)
     simp only at this
     rwa [show o +(o'-o)=o' by omega] at this
    have hGrun:∀ {X:Reg},Reg.sub X G→∀j,j<(ι p.id).cap*u'.size→¬X b (o+j):=fun hX j hj hh=>g2 j hj (hX _ _ hh)
    have hGr:∀ {X:Reg},Reg.sub X G→Reg.apart X (Reg.run b (o+i*u'.size) u'.size):=by
     rintro X hX b' o' hx ⟨rfl,h1,h2⟩
     have:=hGrun hX (o'-o) (by omega)
     rw [show o +(o'-o)=o' by omega] at this
     exact this hx
    have hmr:=marsh_sound ps vs us' _ Z bs qq hq (h.gives hg) (TVsRep.move hg.moves hrest) (fun d hd=>okDep_give hg (hb d hd))
    have hF1:Reg.sub (Gi.or (Reg.run b (o+i*u'.size) u'.size)) (ι p.id).F:=fun b o h=>h.elim (fun h=>g3 b o (k10 b o h)) (hrun b o)
    have hue:u=.pointer (some (at_ b (o+i*u'.size))):=by rw [hu,hA,hc1];rfl
    refine marsh_cons (nb:=[]) (F1:=Gi.or (Reg.run b (o+i*u'.size) u'.size)) (H1:=Reg.diff (ι p.id).F (Gi.or (Reg.run b (o+i*u'.size) u'.size))) hg (hfree.sub hF1) (hfree.sub fun _ _ h=>h.1) (fun b o h1 h2=>h2.2 h1) ?_ rfl hmr ?_ ?_
    ·rintro b' o' (hf | hf)
     ·exact⟨p.id,hlive,hF1 b' o' hf⟩
     ·exact⟨p.id,hlive,hf.1⟩
    ·intro Z2 F2 hZ hA' hap
     refine⟨b,o+i*u'.size,ws,us',Gi,F2,by rw [hue],k4,fun j hj=>?_,?_,hA',hap,hGr k10,fun _ _ h=>.inl h,fun _ _ h=>.inr h⟩
     ·have:=(hrow.wr (i*u'.size+j) (by omega)).1
      rwa [← Nat.add_assoc] at this
     ·rw [gd_eq hi]
      exact Ty.Rep.mono (fun b o hz=>hZ b o (.inl hz)) _ _ (fun _ _ h=>h) k2
    ·intro s2 Z2 H2 hgs hkk hHa
     refine⟨p,vs,u,us',_,H2,rfl,rfl,.inr ⟨rfl,hc4,?_⟩,hkk,hHa,fun _ _ h=>.inl h,fun _ _ h=>.inr h⟩
     refine KeepRow.move (hgs.held (Reg.diff (ι p.id).F (Gi.or (Reg.run b (o+i*u'.size) u'.size)))) (fun _ _ h=>h) ?_
     refine⟨ver,xs,i,b,o,_,G1,G2,fun _=>by rw [hlent];exact fun h=>h,fun ob hob=>by rw [hlent] at hob;exact⟨(LObj.lent.inj hob).symm,hbase,rfl⟩,he,hi,hue,hrow.cap,hrow.wr,fun j hj hh=>⟨hrow.inF j hj,?_⟩,k1,k5,k7,fun b o hg=>⟨g3 b o (k9 b o hg),?_⟩,fun b o hg=>⟨g3 b o (k11 b o hg),?_⟩,fun j hj=>⟨hGrun k9 j hj,hGrun k11 j hj⟩⟩
     ·rintro (hh2 | ⟨_,h1,h2⟩)
      ·exact hGrun k10 j hj hh2
      ·rw [Nat.add_one_mul] at hh;omega
     ·rintro (hh | hh)
      ·exact k6 b o hg hh
      ·exact hGr k9 b o hg hh
     ·rintro (hh | hh)
      ·exact k8 b o hh hg
      ·exact hGr k11 b o hg hh
end
end Go.LM
namespace Go.LM
section
variable{P:Program}{Q:Exit→Act→World→Prop}
variable{g:Bool}{w0:World}{F0 Z0:Reg}{n:Frm}{s s':St}{a a':Act}{w w' w2:World}{ι ι' ι2:Nat→OI}{Z Z' Z2:Reg}
theorem Held.trans{s2:St}{H:Reg}(h:Held g w Z s ι w' Z' s' ι' H)(k:Held g w' Z' s' ι' w2 Z2 s2 ι2 H):Held g w Z s ι w2 Z2 s2 ι2 H:=by
 refine⟨fun x v hx=>k.tv x v (h.tv x v hx),fun c v hc=>k.cell c v (h.cell c v hc),fun b o hz=>k.zsub b o (h.zsub b o hz),fun id o' hn ho=>?_,fun hg id hn=>k.nl hg id (h.nl hg id hn),h.same.trans k.same,h.zsame.trans ?_,fun b o hw=>k.wr b o (h.wr b o hw),fun z b o hw=>k.wr2 z b o (h.wr2 z b o hw)⟩
 ·obtain ⟨h1,h2⟩:=k.lent id o' (fun hg=>h.nl hg id (hn hg)) ho
  obtain ⟨h3,h4⟩:=h.lent id o' hn h1
  exact⟨h3,h2.trans h4⟩
 ·exact k.zsame.mono h.zsub
theorem Inv.readopt(h:Inv w0 F0 Z0 n s a w ι Z){id:Nat}{o:LObj}{i:OI}(hnl:¬(s.o id).live)(ht:Turn (s.o id) (ι id) o i)
  (hrep:Moves w Z s ι w Z (s.putO id o) (upd ι id i)→ObjRep w Z (s.putO id o) (upd ι id i) i o) (hF:Free w0 F0 s w ι Z i.F) :
  Inv w0 F0 Z0 n (s.putO id o) a w (upd ι id i) Z∧Moves w Z s ι w Z (s.putO id o) (upd ι id i):=by
 have hm:Moves w Z s ι w Z (s.putO id o) (upd ι id i):=by
  refine⟨fun j=>?_,fun _ _ h=>h,Same.refl _ _⟩
  show Turn (s.o j) (ι j) (upd s.o id o j) (upd ι id i j)
  by_cases hj:id=j
  ·subst hj;rw [upd_same,upd_same];exact ht
  ·rw [upd_ne hj,upd_ne hj];exact .stay _ _
 refine⟨?_,hm⟩
 refine h.next hm (Ext.refl _ Reg.none) (fun _ _ h=>h.elim) (fun _ _ h=>.inl h) ?_ ?_ (fun k=>(h.tmps k).move hm) h.size h.defers
 ·intro j hl hne
  by_cases hj:id=j
  ·subst hj
   rw [upd_same]
   refine⟨by show ObjRep _ _ _ _ _ (upd s.o id o id);rw [upd_same];exact hrep hm,hF.own,fun j' hl' hne'=>?_⟩
   rw [upd_ne hne']
   have hl2:(s.o j').live:=by
    have:(upd s.o id _ j').live:=hl'
    rwa [upd_ne hne'] at this
   exact hF.apart j' hl2
  ·exact absurd ⟨upd_ne hj,upd_ne hj⟩ hne
 ·intro j hl
  by_cases hj:id=j
  ·subst hj;rw [upd_same];exact hF.apartZ
  ·rw [upd_ne hj]
   have hl2:(s.o j).live:=by
    have:(upd s.o id _ j).live:=hl
    rwa [upd_ne hj] at this
   exact h.apartZ j hl2
def BackRes(w0:World)(F0 Z0:Reg)(n:Frm)(s:St)(a:Act)(w:World)(ι : Nat→OI)(Z:Reg)(s':St)(U:Reg):Prop :=
 ∃ ι',Inv w0 F0 Z0 n s' a w ι' Z∧Held false w Z s ι w Z s' ι' (fun _ _=>True)∧(∀X,Free w0 F0 s w ι Z X→Reg.apart X U→Free w0 F0 s' w ι' Z X)∧∀id,(s.o id).live→s'.o id=s.o id ∧ ι' id = ι id
theorem back_refl(h:Inv w0 F0 Z0 n s a w ι Z)(U:Reg):BackRes w0 F0 Z0 n s a w ι Z s U :=
 ⟨ι,h,⟨fun _ _ h=>h,fun _ _ h=>h,fun _ _ h=>h,fun _ _ _ h=>⟨h,rfl⟩,fun h=>by simp at h,Same.refl _ _,Same.refl _ _,fun _ _ h=>h,fun _ _ _ h=>h⟩,fun _ h _=>h,fun _ _=>⟨rfl,rfl⟩⟩
theorem readopt_back'(h:Inv w0 F0 Z0 n s a w ι Z){id:Nat}{o:LObj}{i:OI}(hnl:¬(s.o id).live)(ho:∀o',o≠.lent o')(ht:Turn (s.o id) (ι id) o i)
  (hrep:Moves w Z s ι w Z (s.putO id o) (upd ι id i)→ObjRep w Z (s.putO id o) (upd ι id i) i o) (hF:Free w0 F0 s w ι Z i.F) :
  Inv w0 F0 Z0 n (s.putO id o) a w (upd ι id i) Z∧Held false w Z s ι w Z (s.putO id o) (upd ι id i) (fun _ _=>True)∧(∀X,Free w0 F0 s w ι Z X→Reg.apart X i.F→Free w0 F0 (s.putO id o) w (upd ι id i) Z X) ∧
  ∀j,(s.o j).live→(s.putO id o).o j=s.o j∧upd ι id i j = ι j:=by
 obtain ⟨h1,hm⟩:=h.readopt hnl ht hrep hF
 refine⟨h1,⟨fun _ _=>TVRep.move hm,fun _ _=>CellRep.move hm,fun _ _ h=>h,fun j o' _ hj=>?_,fun h=>by simp at h,Same.refl _ _,Same.refl _ _,fun _ _ h=>h,fun _ _ _ h=>h⟩,fun X hX ha=>⟨hX.own,fun j hl=>?_,hX.apartZ⟩,fun j hl=>?_⟩
 ·have hj':upd s.o id o j=.lent o':=hj
  by_cases hne:id=j
  ·subst hne;rw [upd_same] at hj';exact absurd hj' (ho o')
  ·rw [upd_ne hne] at hj'
   exact⟨hj',upd_ne hne⟩
 ·by_cases hne:id=j
  ·subst hne;rw [upd_same];exact ha
  ·rw [upd_ne hne]
   have hl2:(s.o j).live:=by
    have:(upd s.o id _ j).live:=hl
    rwa [upd_ne hne] at this
   exact hX.apart j hl2
 ·have hne:id≠j:=fun e=>hnl (e ▸ hl)
  exact⟨upd_ne hne,upd_ne hne⟩
theorem readopt_back(h:Inv w0 F0 Z0 n s a w ι Z){id:Nat}{o:LObj}{i:OI}(hnl:¬(s.o id).live)(ho:∀o',o≠.lent o')(ht:Turn (s.o id) (ι id) o i)
  (hrep:Moves w Z s ι w Z (s.putO id o) (upd ι id i)→ObjRep w Z (s.putO id o) (upd ι id i) i o) (hF:Free w0 F0 s w ι Z i.F):BackRes w0 F0 Z0 n s a w ι Z (s.putO id o) i.F:=⟨_,readopt_back' h hnl ho ht hrep hF⟩
mutual
theorem KeepVm.len:∀(t:Ty) (m:Md) {cs:List HC} {vs:List Value} {H:Reg},KeepVm g w Z s ι t m cs vs H→vs.length=t.size
 | .int _,_,_,_,_,hk=>by simp only [KeepVm] at hk;rw [hk.2];rfl
 | .bool,_,_,_,_,hk=>by simp only [KeepVm] at hk;rw [hk.2];rfl
 | .str,_,_,_,_,hk=>by simp only [KeepVm] at hk;rw [hk.2];rfl
 | .raw,_,_,_,_,hk=>by simp only [KeepVm] at hk;rw [hk.2];rfl
 | .sl t,.R,_,_,_,hk=>by simp only [KeepVm] at hk
 | .sl t,.S _,_,_,_,hk=>by simp only [KeepVm] at hk
 | .sl t,.O e,_,_,_,hk=>by simp only [KeepVm] at hk;obtain ⟨c,v,_,rfl,_⟩:=hk;rfl
 | .st ts,m,_,_,_,hk=>by simp only [KeepVm] at hk;simpa only [Ty.size] using KeepVms.len ts m.parts hk
theorem KeepVms.len:∀(ts:Tys) (m:Mds) {cs:List HC} {vs:List Value} {H:Reg},KeepVms g w Z s ι ts m cs vs H→vs.length=ts.size
 | .nil,_,_,_,_,hk=>by simp only [KeepVms] at hk;rw [hk.2];rfl
 | .cons t ts,m,_,_,_,hk=>by
  simp only [KeepVms] at hk
  obtain ⟨c1,c2,v1,v2,H1,H2,_,rfl,h1,h2,_⟩:=hk
  rw [List.length_append,KeepVm.len t m.hd h1,KeepVms.len ts m.tl h2];rfl
end
mutual
theorem Ty.back_sound:∀(t:Ty) (m:Md) (x:t.D) (c1 rest:List HC) (s:St) (ι : Nat→OI) (r:List HC×St) (us:List Value) (F H:Reg),t.back x (c1++rest) s=some r→Inv w0 F0 Z0 n s a w ι Z →
  KeepVm false w Z s ι t m c1 us H→t.Rep w Z m x us F→Free w0 F0 s w ι Z F→Free w0 F0 s w ι Z H→Reg.apart F H→r.1=rest∧BackRes w0 F0 Z0 n s a w ι Z r.2 (F.or H)
 | .int k,m,x,c1,rest,s,ι,r,us,F,H,hb,h,hk,hr,hF,hH,ha=>by
  simp only [KeepVm] at hk
  obtain ⟨hk,_⟩:=hk
  match c1,hk with
  | [c],_ =>
   simp only [Ty.back,List.cons_append,List.nil_append,Option.some.injEq] at hb
   subst hb;exact⟨rfl,back_refl h _⟩
 | .bool,m,x,c1,rest,s,ι,r,us,F,H,hb,h,hk,hr,hF,hH,ha=>by
  simp only [KeepVm] at hk
  obtain ⟨hk,_⟩:=hk
  match c1,hk with
  | [c],_ =>
   simp only [Ty.back,List.cons_append,List.nil_append,Option.some.injEq] at hb
   subst hb;exact⟨rfl,back_refl h _⟩
 | .str,m,x,c1,rest,s,ι,r,us,F,H,hb,h,hk,hr,hF,hH,ha=>by
  simp only [KeepVm] at hk
  obtain ⟨hk,_⟩:=hk
  match c1,hk with
  | [c],_ =>
   simp only [Ty.back,List.cons_append,List.nil_append,Option.some.injEq] at hb
   subst hb;exact⟨rfl,back_refl h _⟩
 | .raw,m,x,c1,rest,s,ι,r,us,F,H,hb,h,hk,hr,hF,hH,ha=>by
  simp only [KeepVm] at hk
  obtain ⟨hk,_⟩:=hk
  match c1,hk with
  | [c],_ =>
   simp only [Ty.back,List.cons_append,List.nil_append,Option.some.injEq] at hb
   subst hb;exact⟨rfl,back_refl h _⟩
 | .sl t,.R,x,c1,rest,s,ι,r,us,F,H,hb,h,hk,hr,hF,hH,ha=>by
  simp only [KeepVm] at hk
 | .sl t,.S _,x,c1,rest,s,ι,r,us,F,H,hb,h,hk,hr,hF,hH,ha=>by
  simp only [KeepVm] at hk
 | .sl t,.O e,x,c1,rest,s,ι,r,us,F,H,hb,h,hk,hr,hF,hH,ha=>by
  simp only [KeepVm] at hk
  obtain ⟨c,v,rfl,rfl,hk⟩:=hk
  cases c with
  | nil u =>
   simp only [Ty.back,List.cons_append,List.nil_append,Option.some.injEq] at hb
   subst hb;exact⟨rfl,back_refl h _⟩
  | hd id sub =>
   cases sub with
   | some=>exact hk.elim
   | none =>
    simp only at hk
    obtain ⟨ver,xs,A,k,cp,_,hl,hv,hk⟩:=hk
    simp only [Ty.back,List.cons_append,List.nil_append] at hb
    cases ho:s.o id with
    | lent ob =>
     rw [ho] at hb
     obtain ⟨rfl,hcap,hh⟩:=hl ob ho
     simp only at hb
     obtain ⟨y,hy,hb2⟩:=obi hb
     obtain ⟨e1,hyx⟩:=castD_sl hy
     have hyx:x=y:=hyx.symm
     subst hyx
     obtain rfl:=osj hb2
     refine⟨rfl,?_⟩
     simp only [Ty.Rep] at hr
     obtain ⟨A',k',hv',hr⟩:=hr
     rw [hv] at hv'
     simp only [List.cons.injEq,Value.slice.injEq,and_true] at hv'
     obtain ⟨rfl,hlen,rfl⟩:=hv'
     have hback:=readopt_back h (id:=id) (o:=.row t e (ver+1) x) (i:=⟨(ι id).base,(ι id).cap,F.or H⟩) (by rw [ho];exact fun h=>h) (fun o'=>by simp) (by rw [ho];exact .backR _ _ _ _ _ _ _ _ _ (by omega) hlen.symm rfl rfl) ?_ (hF.or hH)
     ·exact hback
     intro hm
     rcases hk with⟨rfl,hc0⟩ | ⟨b,o,hbase,hxc,hkc,hA,hwr,hH2⟩
     ·left
      refine⟨List.eq_nil_of_length_eq_zero (by rw [← hlen];rfl),?_⟩
      show(ι id).cap=0
      rw [hcap,hc0]
     ·right
      refine⟨at_ b o,hbase _ ho,?_⟩
      rcases hr with⟨rfl,rfl⟩ | ⟨⟨b',o',sp⟩,hA',hr⟩
      ·refine⟨rfl,Nat.zero_le _,?_,?_,Reg.none,trivial,fun _ _ h=>h,fun _ _ h=>h.elim⟩
       ·show ∀j,j<(ι id).cap*t.size→_
        rw [hcap];exact hwr
       ·show ∀j,j<(ι id).cap*t.size→_
        rw [hcap];exact fun j hj=>.inr (hH2 j (by omega) hj)
      ·have hx0:=hr.cap
       by_cases hk0:k=0
       ·subst hk0
        have:x=[]:=List.eq_nil_of_length_eq_zero (by omega)
        subst this
        refine⟨rfl,Nat.zero_le _,?_,?_,Reg.none,trivial,fun _ _ h=>h,fun _ _ h=>h.elim⟩
        ·show ∀j,j<(ι id).cap*t.size→_
         rw [hcap];exact hwr
        ·show ∀j,j<(ι id).cap*t.size→_
         rw [hcap];exact fun j hj=>.inr (hH2 j (by omega) hj)
       ·have hA:=hA.resolve_left hk0
        rw [hA'] at hA
        simp only [at_,Option.some.injEq,Addr.mk.injEq] at hA
        obtain ⟨rfl,rfl,rfl⟩:=hA
        obtain ⟨G,g1,g2,g3⟩:=hr.row
        refine⟨rfl,?_,?_,?_,G,g1,?_,fun b o hg=>.inl (g3 b o hg)⟩
        ·show x.length≤(ι id).cap
         rw [hcap,← hlen];exact hxc
        ·show ∀j,j<(ι id).cap*t.size→_
         rw [hcap];exact hwr
        ·show ∀j,j<(ι id).cap*t.size→_
         rw [hcap]
         intro j hj
         by_cases hjk:j<k*t.size
         ·exact .inl (hr.inF j hjk)
         ·exact .inr (hH2 j (by omega) hj)
        ·show ∀j,j<(ι id).cap*t.size→_
         rw [hcap]
         intro j hj hg
         by_cases hjk:j<k*t.size
         ·exact g2 j hjk hg
         ·exact ha _ _ (g3 _ _ hg) (hH2 j (by omega) hj)
    | _=>rw [ho] at hb;simp at hb
  | lst u dp og xs =>
   simp only at hk
   obtain ⟨p,i,T,ver,ys,b,o,cp,rfl,hei,_,hl,hilt,rfl,hclose⟩:=hk
   simp only [Ty.back,List.cons_append,List.nil_append] at hb
   obtain ⟨s1,hbo,hb2⟩:=obi hb
   obtain rfl:=osj hb2
   simp only [backOrg,hei] at hbo
   cases ho:s.o p.id with
   | lent ob =>
    rw [ho] at hbo
    obtain ⟨rfl,hbase,hcap⟩:=hl ob ho
    simp only at hbo
    obtain ⟨z,hz,hbo⟩:=obi hbo
    obtain rfl:=osj hbo
    refine⟨rfl,?_⟩
    exact readopt_back h (id:=p.id) (o:=.row T T.own (ver+1) (ys.set i z)) (i:=⟨(ι p.id).base,(ι p.id).cap,F.or H⟩) (by rw [ho];exact fun h=>h) (fun o'=>by simp) (by rw [ho];exact .backR _ _ _ _ _ _ _ _ _ (by omega) (by simp) rfl rfl)
     (fun hm=>.inr ⟨at_ b o,hbase,by
      have:=hclose w Z F x z (Same.refl _ _) hr ha hz
      rw [← hcap] at this
      exact this⟩) (hF.or hH)
   | _=>rw [ho] at hbo;simp at hbo
  | _=>exact hk.elim
 | .st ts,m,x,c1,rest,s,ι,r,us,F,H,hb,h,hk,hr,hF,hH,ha=>by
  simp only [Ty.back] at hb
  simp only [KeepVm] at hk
  simp only [Ty.Rep] at hr
  exact Tys.back_sound ts m.parts x c1 rest s ι r us F H hb h hk hr hF hH ha
theorem Tys.back_sound:∀(ts:Tys) (m:Mds) (x:ts.D) (c1 rest:List HC) (s:St) (ι : Nat→OI) (r:List HC×St) (us:List Value) (F H:Reg),ts.back x (c1++rest) s=some r→Inv w0 F0 Z0 n s a w ι Z →
  KeepVms false w Z s ι ts m c1 us H→ts.Rep w Z m x us F→Free w0 F0 s w ι Z F→Free w0 F0 s w ι Z H→Reg.apart F H→r.1=rest∧BackRes w0 F0 Z0 n s a w ι Z r.2 (F.or H)
 | .nil,m,x,c1,rest,s,ι,r,us,F,H,hb,h,hk,hr,hF,hH,ha=>by
  simp only [KeepVms] at hk
  obtain ⟨rfl,rfl⟩:=hk
  simp only [Tys.back,List.nil_append,Option.some.injEq] at hb
  subst hb
  exact⟨rfl,back_refl h _⟩
 | .cons t ts,m,x,c1,rest,s,ι,r,us,F,H,hb,h,hk,hr,hF,hH,ha=>by
  simp only [KeepVms] at hk
  obtain ⟨d1,d2,v1,v2,H1,H2,rfl,rfl,k1,k2,hHa,hH1,hH2⟩:=hk
  simp only [Tys.Rep] at hr
  obtain ⟨us1,us2,G1,G2,he,r1,r2,hGa,hG1,hG2⟩:=hr
  have hlen:v1.length=us1.length:=by rw [KeepVm.len t m.hd k1,(Ty.Rep.len t m.hd r1).1]
  obtain ⟨rfl,rfl⟩:=List.append_inj he hlen
  simp only [Tys.back,List.append_assoc] at hb
  obtain ⟨q,hq,hb⟩:=obi hb
  obtain ⟨e1,ι1,i1,held1,fr1,lv1⟩:=Ty.back_sound t m.hd x.1 d1 (d2++rest) s ι q v1 G1 H1 hq h k1 r1 (hF.sub hG1) (hH.sub hH1) (fun b o h1 h2=>ha b o (hG1 b o h1) (hH1 b o h2))
  rw [e1] at hb
  obtain ⟨e2,ι2,i2,held2,fr2,lv2⟩:=Tys.back_sound ts m.tl x.2 d2 rest q.2 ι1 r v2 G2 H2 hb i1 (KeepVms.move (held1.mono fun _ _ _=>trivial) (fun _ _ h=>h) ts m.tl k2) r2
   (fr1 G2 (hF.sub hG2) (by rintro b o h1 (h2 | h2);exact hGa b o h2 h1;exact ha b o (hG2 b o h1) (hH1 b o h2)))
   (fr1 H2 (hH.sub hH2) (by rintro b o h1 (h2 | h2);exact ha b o (hG1 b o h2) (hH2 b o h1);exact hHa b o h2 h1))
   (fun b o h1 h2=>ha b o (hG2 b o h1) (hH2 b o h2))
  refine⟨e2,ι2,i2,held1.trans held2,fun X hX hXa=>fr2 X (fr1 X hX ?_) ?_,fun id hl=>?_⟩
  ·rintro b o h1 (h2 | h2)
   ·exact hXa b o h1 (.inl (hG1 b o h2))
   ·exact hXa b o h1 (.inr (hH1 b o h2))
  ·rintro b o h1 (h2 | h2)
   ·exact hXa b o h1 (.inl (hG2 b o h2))
   ·exact hXa b o h1 (.inr (hH2 b o h2))
  ·obtain ⟨p1,p2⟩:=lv1 id hl
   obtain ⟨p3,p4⟩:=lv2 id (p1 ▸ hl)
   exact⟨p3.trans p1,p4.trans p2⟩
end
end
end Go.LM
namespace Go.LM
section
variable{P:Program}{Q:Exit→Act→World→Prop}
variable{g:Bool}{w0:World}{F0 Z0:Reg}{n:Frm}{s s':St}{a a':Act}{w w' w2:World}{ι ι' ι2:Nat→OI}{Z Z' Z2:Reg}
theorem Grows.held(h:Grows s ι s' ι')(H:Reg):Held false w Z s ι w Z s' ι' H:=by
 have hm:Moves w Z s ι w Z s' ι':=h.moves
 refine⟨fun _ _=>TVRep.move hm,fun _ _=>CellRep.move hm,fun _ _ h=>h,fun id o' _ ho=>?_,fun h=>by simp at h,Same.refl _ _,Same.refl _ _,fun _ _ h=>h,fun _ _ _ h=>h⟩
 by_cases hn:s.o id=.none
 ·exact absurd ho (h.nl id o' hn)
 ·obtain ⟨h1,h2⟩:=h.o id hn
  exact⟨by rw [← h1,ho],h2⟩
theorem depF_live{dp:List (Nat×Nat)}(hl:∀d,d∈dp→(s.o d.1).live)(hk:∀id,(s.o id).live→s'.o id=s.o id ∧ ι' id = ι id):(∀d,d∈dp→(s'.o d.1).live)∧depF ι' dp=depF ι dp:=by
 refine⟨fun d hd=>by rw [(hk d.1 (hl d hd)).1];exact hl d hd,?_⟩
 funext b o
 apply propext
 constructor
 ·rintro ⟨d,hd,hf⟩;exact⟨d,hd,by rw [← (hk d.1 (hl d hd)).2];exact hf⟩
 ·rintro ⟨d,hd,hf⟩;exact⟨d,hd,by rw [(hk d.1 (hl d hd)).2];exact hf⟩
theorem Grows.keeps(h:Grows s ι s' ι'):∀id,(s.o id).live→s'.o id=s.o id ∧ ι' id = ι id:=fun id hl=>h.o id (fun e=>by rw [e] at hl;exact hl)
theorem Free.depF{F:Reg}{dp:List (Nat×Nat)}(hF:Free w0 F0 s w ι Z F)(hl:∀d,d∈dp→(s.o d.1).live):Reg.apart F (LM.depF ι dp):=by
 rintro b o h ⟨d,hd,hf⟩
 exact hF.apart d.1 (hl d hd) b o h hf
theorem BackRes.trans{s1 s2:St}{ι1:Nat→OI}{U1 U2 U:Reg}(h1:Inv w0 F0 Z0 n s1 a w ι1 Z)(hh:Held false w Z s ι w Z s1 ι1 (fun _ _=>True))(hf:∀X,Free w0 F0 s w ι Z X→Reg.apart X U1→Free w0 F0 s1 w ι1 Z X)
  (hl:∀id,(s.o id).live→s1.o id=s.o id ∧ ι1 id = ι id) (k:BackRes w0 F0 Z0 n s1 a w ι1 Z s2 U2) (hU:Reg.sub (U1.or U2) U):BackRes w0 F0 Z0 n s a w ι Z s2 U:=by
 obtain ⟨ι2,i2,held2,fr2,lv2⟩:=k
 refine⟨ι2,i2,hh.trans held2,fun X hX hXa=>fr2 X (hf X hX fun b o x y=>hXa b o x (hU b o (.inl y))) fun b o x y=>hXa b o x (hU b o (.inr y)),fun id hid=>?_⟩
 obtain ⟨p1,p2⟩:=hl id hid
 obtain ⟨p3,p4⟩:=lv2 id (p1 ▸ hid)
 exact⟨p3.trans p1,p4.trans p2⟩
theorem OutRep.mono(hZ:Reg.sub Z Z'):∀(ps:List PSpec) {us:List Value} {x:(PSpec.muts ps).D} {F F':Reg},Reg.sub F F'→OutRep w Z ps us x F→OutRep w Z' ps us x F'
 | [],_,_,_,_,_,_=>trivial
 | .mut t m m' :: ps,_,_,_,_,hF,⟨b,o,vs,us',G,H,h1,h2,h3,h4,h5,h6,h7,h8⟩=>⟨b,o,vs,us',G,H,h1,h2,Ty.Rep.mono hZ _ _ (fun _ _ h=>h) h3,OutRep.mono hZ ps (fun _ _ h=>h) h4,h5,h6,fun b o h=>hF b o (h7 b o h),fun b o h=>hF b o (h8 b o h)⟩
 | .vm t m :: ps,_,_,_,_,hF,⟨vs,us',G,H,h1,h2,h3,h4,h5,h6⟩=>⟨vs,us',G,H,h1,Ty.Rep.mono hZ _ _ (fun _ _ h=>h) h2,OutRep.mono hZ ps (fun _ _ h=>h) h3,h4,fun b o h=>hF b o (h5 b o h),fun b o h=>hF b o (h6 b o h)⟩
 | .val _ _ :: ps,_,_,_,_,hF,⟨u,us',h1,h2⟩=>⟨u,us',h1,OutRep.mono hZ ps hF h2⟩
 | .frz _ :: ps,_,_,_,_,hF,⟨u,us',h1,h2⟩=>⟨u,us',h1,OutRep.mono hZ ps hF h2⟩
 | .ref _ :: ps,_,_,_,_,hF,⟨u,us',h1,h2⟩=>⟨u,us',h1,OutRep.mono hZ ps hF h2⟩
 | .fn _ _ :: ps,_,_,_,_,hF,⟨u,us',h1,h2⟩=>⟨u,us',h1,OutRep.mono hZ ps hF h2⟩
theorem unmut_sound{dp:List (Nat×Nat)} : ∀(ps:List PSpec) (vs:List TV) (us:List Value) (x:(PSpec.muts ps).D) (s:St) (ι : Nat→OI) (j:Nat) (q:St×Nat) (F H:Reg),unmut dp ps vs x s j=some q→Inv w0 F0 Z0 n s a w ι Z →
  Keeps false w Z s ι ps vs us H→OutRep w (Z.or (depF ι dp)) ps us x F→Free w0 F0 s w ι Z F→Free w0 F0 s w ι Z H→Reg.apart F H→(∀d,d∈dp→(s.o d.1).live∧okDep s d)→BackRes w0 F0 Z0 n s a w ι Z q.1 (F.or H)
 | [],vs,us,x,s,ι,j,q,F,H,hu,h,hk,hr,hF,hH,ha,hd=>by
  simp only [unmut,Option.some.injEq] at hu
  subst hu
  exact back_refl h _
 | .val t m :: ps,vs,us,x,s,ι,j,q,F,H,hu,h,hk,hr,hF,hH,ha,hd=>by
  obtain ⟨v,vs',u,us',rfl,rfl,hk⟩:=hk
  obtain ⟨u2,us2,he,hr⟩:=hr
  simp only [List.cons.injEq] at he
  obtain ⟨rfl,rfl⟩:=he
  exact unmut_sound ps vs' us' x s ι j q F H (by simpa only [unmut] using hu) h hk hr hF hH ha hd
 | .frz t :: ps,vs,us,x,s,ι,j,q,F,H,hu,h,hk,hr,hF,hH,ha,hd=>by
  obtain ⟨v,vs',u,us',rfl,rfl,hk⟩:=hk
  obtain ⟨u2,us2,he,hr⟩:=hr
  simp only [List.cons.injEq] at he
  obtain ⟨rfl,rfl⟩:=he
  exact unmut_sound ps vs' us' x s ι j q F H (by simpa only [unmut] using hu) h hk hr hF hH ha hd
 | .ref t :: ps,vs,us,x,s,ι,j,q,F,H,hu,h,hk,hr,hF,hH,ha,hd=>by
  obtain ⟨v,vs',u,us',rfl,rfl,hk⟩:=hk
  obtain ⟨u2,us2,he,hr⟩:=hr
  simp only [List.cons.injEq] at he
  obtain ⟨rfl,rfl⟩:=he
  exact unmut_sound ps vs' us' x s ι j q F H (by simpa only [unmut] using hu) h hk hr hF hH ha hd
 | .fn _ _ :: ps,vs,us,x,s,ι,j,q,F,H,hu,h,hk,hr,hF,hH,ha,hd=>by
  obtain ⟨v,vs',u,us',rfl,rfl,hk⟩:=hk
  obtain ⟨u2,us2,he,hr⟩:=hr
  simp only [List.cons.injEq] at he
  obtain ⟨rfl,rfl⟩:=he
  exact unmut_sound ps vs' us' x s ι j q F H (by simpa only [unmut] using hu) h hk hr hF hH ha hd
 | .vm t m :: ps,vs,us,x,s,ι,j,q,F,H,hu,h,hk,hr,hF,hH,ha,hd=>by
  obtain ⟨v,vs',u,us',cs,H1,H2,rfl,rfl,hcs,rfl,k1,k2,hHa,hH1,hH2⟩:=hk
  obtain ⟨ws,us2,G1,G2,he,r1,r2,hGa,hG1,hG2⟩:=hr
  simp only [List.cons.injEq] at he
  obtain ⟨rfl,rfl⟩:=he
  simp only [unmut,hcs] at hu
  obtain ⟨r,hb,hu⟩:=obi hu
  have hl:=Ty.Rep.len t _ r1
  rw [wrapV_cells hl.1 hl.2] at k1
  have r1':t.Rep w Z t.own x.1 ws G1:=rep_own t r1
  obtain ⟨e1,ι1,i1,held1,fr1,lv1⟩:=Ty.back_sound t t.own x.1 cs [] s ι r ws G1 H1 (by rw [List.append_nil];exact hb) h k1 r1' (hF.sub hG1) (hH.sub hH1) (fun b o x y=>ha b o (hG1 b o x) (hH1 b o y))
  have hdl:=depF_live (dp:=dp) (fun d hm=>(hd d hm).1) lv1
  have hrec:=unmut_sound ps vs' us' x.2 r.2 ι1 j q G2 H2 hu i1 (Keeps.move (held1.mono fun _ _ _=>trivial) (fun _ _ h=>h) ps k2) (by rw [hdl.2];exact r2)
   (fr1 G2 (hF.sub hG2) (by rintro b o x (y | y);exact hGa b o y x;exact ha b o (hG2 b o x) (hH1 b o y)))
   (fr1 H2 (hH.sub hH2) (by rintro b o x (y | y);exact ha b o (hG1 b o y) (hH2 b o x);exact hHa b o y x))
   (fun b o x y=>ha b o (hG2 b o x) (hH2 b o y)) (fun d hm=>⟨hdl.1 d hm,by have:=(hd d hm).2;unfold okDep known verOf at *;rw [(lv1 d.1 (hd d hm).1).1];exact this⟩)
  refine BackRes.trans i1 held1 fr1 lv1 hrec ?_
  rintro b o ((y | y) | (y | y))
  ·exact .inl (hG1 b o y)
  ·exact .inr (hH1 b o y)
  ·exact .inl (hG2 b o y)
  ·exact .inr (hH2 b o y)
 | .mut t m m' :: ps,vs,us,x,s,ι,j,q,F,H,hu,h,hk,hr,hF,hH,ha,hd=>by
  obtain ⟨p,vs',u,us',H1,H2,rfl,rfl,k1,k2,hHa,hH1,hH2⟩:=hk
  obtain ⟨b,o,ws,us2,G,H',he,hat,r1,r2,hGa,hGr,hG1,hG2⟩:=hr
  simp only [List.cons.injEq] at he
  obtain ⟨rfl,rfl⟩:=he
  have hGF:Reg.sub G F:=fun b o x=>hG1 b o (.inl x)
  have hRF:Reg.sub (Reg.run b o t.size) F:=fun b o x=>hG1 b o (.inr x)
  have hwl:=Ty.Rep.len t _ r1
  simp only [unmut] at hu
  cases ho:s.o p.id with
  | lent ob =>
   rw [ho] at hu
   cases hei:p.ei with
   | none =>
    rw [hei] at hu
    cases ob with
    | var ver old =>
     simp only at hu
     obtain ⟨r,hx,hu⟩:=obi hu
     rcases k1 with k1 | ⟨_,_,_,_,_,_,_,_,_,_,_,_,hk2,_⟩
     case inr=>rw [hei] at hk2;simp at hk2
     obtain ⟨ver',old',b',o',olds,_,hl,_,hue,hle,hco,hwr,hHc,hcell⟩:=k1
     obtain ⟨hob,hbase⟩:=hl _ ho
     simp only [LObj.var.injEq] at hob
     obtain ⟨rfl,rfl⟩:=hob
     simp only [Value.pointer.injEq,Option.some.injEq,at_,Addr.mk.injEq,and_true] at hue
     obtain ⟨rfl,rfl⟩:=hue
     obtain ⟨ι1,i1,gr1,c1,fr1⟩:=Ty.expl_sound t m' dp x.1 s ι j r ws G hx h r1 (hF.sub hGF) ((hF.sub hGF).depF fun d hm=>(hd d hm).1) (fun d hm=>(hd d hm).2)
     obtain ⟨hs1,hι1⟩:=gr1.o p.id (by rw [ho];simp)
     have hcl:=c1.len
     have hol:=hco.len
     have hwl1:=hwl.1
     have hlv:=gr1.keeps
     have hfreeU:Free w0 F0 r.2.1 w ι1 Z ((Reg.run b (o'+p.off) t.size).or H1):=(fr1 _ (hF.sub hRF) (fun b o x y=>hGr b o y x)).or (fr1 _ (hH.sub hH1) (fun b o x y=>ha b o (hGF b o y) (hH1 b o x)))
     have hback:=readopt_back i1 (id:=p.id) (o:=.var (ver+1) (old.take p.off++r.1++old.drop (p.off+t.size))) (i:=⟨(ι1 p.id).base,(ι1 p.id).cap,(Reg.run b (o'+p.off) t.size).or H1⟩)
      (by rw [hs1,ho];exact fun h=>h) (fun o'=>by simp) (by rw [hs1,ho];exact .backV _ _ _ _ _ _ (by omega) rfl) (fun hm=>by
       refine⟨at_ b o',splice olds p.off ws,by rw [hι1];exact hbase,rfl,?_,?_,?_⟩
       ·have hco1:CellsRep w Z r.2.1 ι1 old olds:=hco.move gr1.moves
        have:=(CellsRep.splice hco1 c1 p.off).move hm
        rwa [show p.off+r.1.length=p.off+t.size by omega] at this
       ·intro i v hv
        unfold splice at hv
        show w.cell? (at_ b (o'+i))=some v
        by_cases h1:i<p.off
        ·rw [List.append_assoc,List.getElem?_append_left (by simp;omega),List.getElem?_take,if_pos h1] at hv
         exact hcell i v hv (.inl h1)
        ·by_cases h2:i<p.off+t.size
         ·rw [List.getElem?_append_left (by simp;omega),List.getElem?_append_right (by simp;omega)] at hv
          simp only [List.length_take] at hv
          have:=hat _ v hv
          rwa [show o'+p.off +(i-min p.off olds.length)=o'+i by omega] at this
         ·rw [List.getElem?_append_right (by simp;omega)] at hv
          simp only [List.length_append,List.length_take,List.getElem?_drop] at hv
          rw [show p.off+ws.length +(i-(min p.off olds.length+ws.length))=i by omega] at hv
          exact hcell i v hv (.inr (by omega))
       ·intro i hi
        have hi':i<old.length:=by simp only [List.length_append,List.length_take,List.length_drop] at hi;omega
        refine⟨hwr i hi',?_⟩
        show(Reg.run b (o'+p.off) t.size).or H1 b (o'+i)
        by_cases hh:i<p.off∨p.off+t.size≤i
        ·exact .inr (hHc i hi' hh)
        ·exact .inl ⟨rfl,by omega,by omega⟩) hfreeU
     obtain ⟨ι2,i2,held2,fr2,lv2⟩:=hback
     have hlv2:∀id,(s.o id).live→(r.2.1.putO p.id (.var (ver+1) (old.take p.off++r.1++old.drop (p.off+t.size)))).o id=s.o id ∧ ι2 id = ι id:=fun id hid=>by
      obtain ⟨p1,p2⟩:=hlv id hid
      obtain ⟨p3,p4⟩:=lv2 id (p1 ▸ hid)
      exact⟨p3.trans p1,p4.trans p2⟩
     have hheld:Held false w Z s ι w Z (r.2.1.putO p.id (.var (ver+1) (old.take p.off++r.1++old.drop (p.off+t.size)))) ι2 (fun _ _=>True):=(gr1.held _).trans held2
     have hfr:∀X,Free w0 F0 s w ι Z X→Reg.apart X ((G.or (Reg.run b (o'+p.off) t.size)).or H1)→Free w0 F0 (r.2.1.putO p.id (.var (ver+1) (old.take p.off++r.1++old.drop (p.off+t.size)))) w ι2 Z X:=fun X hX hXa=>by
      refine fr2 X (fr1 X hX fun b o x y=>hXa b o x (.inl (.inl y))) ?_
      rintro b o x (y | y)
      ·exact hXa b o x (.inl (.inr y))
      ·exact hXa b o x (.inr y)
     have hdl:=depF_live (dp:=dp) (fun d hm=>(hd d hm).1) hlv2
     have hrec:=unmut_sound ps vs' us' x.2 _ ι2 r.2.2 q H' H2 hu i2 (Keeps.move (hheld.mono fun _ _ _=>trivial) (fun _ _ h=>h) ps k2) (by rw [hdl.2];exact r2)
      (hfr H' (hF.sub hG2) (by rintro b o x (y | y);exact hGa b o y x;exact ha b o (hG2 b o x) (hH1 b o y)))
      (hfr H2 (hH.sub hH2) (by rintro b o x (y | y);exact ha b o (hG1 b o y) (hH2 b o x);exact hHa b o y x))
      (fun b o x y=>ha b o (hG2 b o x) (hH2 b o y)) (fun d hm=>⟨hdl.1 d hm,by have:=(hd d hm).2;unfold okDep known verOf at *;rw [(hlv2 d.1 (hd d hm).1).1];exact this⟩)
     refine BackRes.trans i2 hheld hfr hlv2 hrec ?_
     rintro b o ((y | y) | (y | y))
     ·exact .inl (hG1 b o y)
     ·exact .inr (hH1 b o y)
     ·exact .inl (hG2 b o y)
     ·exact .inr (hH2 b o y)
    | _=>simp at hu
   | some i =>
    rw [hei] at hu
    cases ob with
    | row u' em ver xs =>
     simp only at hu
     obtain ⟨y,hy,hu⟩:=obi hu
     obtain ⟨e1,hyx⟩:=castD_some hy
     subst e1
     have hyx:x.1=y:=hyx.symm
     subst hyx
     rcases k1 with⟨_,_,_,_,_,_,_,hk2,_⟩ | ⟨hmm,hmo,k1⟩
     ·rw [hei] at hk2;simp at hk2
     obtain ⟨ver',xs',i',b',o',c,G1,G2,_,hl,hei',hi,hue,hxc,hwr,hHc,hR1,hR2,hG12,hGH1,hGH2,hGn⟩:=k1
     obtain ⟨hob,hbase,hcap⟩:=hl _ ho
     simp only [LObj.row.injEq,heq_eq_eq,true_and] at hob
     obtain ⟨rfl,rfl,rfl⟩:=hob
     rw [hei] at hei'
     obtain rfl:=osj hei'
     simp only [Value.pointer.injEq,Option.some.injEq,at_,Addr.mk.injEq,and_true] at hue
     obtain ⟨rfl,rfl⟩:=hue
     subst hmm
     have r1':t.Rep w Z m' x.1 ws G:=by rw [hmo] at r1 ⊢;exact rep_own t r1
     have hcs:(i+1)*t.size≤c*t.size:=Nat.mul_le_mul_right _ (by omega)
     rw [Nat.add_one_mul] at hcs
     have hfreeU:Free w0 F0 s w ι Z ((G.or (Reg.run b (o'+i*t.size) t.size)).or H1):=(hF.sub hG1).or (hH.sub hH1)
     have hback:=readopt_back h (id:=p.id) (o:=.row t m' (ver+1) (xs.set i x.1)) (i:=⟨(ι p.id).base,(ι p.id).cap,(G.or (Reg.run b (o'+i*t.size) t.size)).or H1⟩)
      (by rw [ho];exact fun h=>h) (fun o'=>by simp) (by rw [ho];exact .backR _ _ _ _ _ _ _ _ _ (by omega) (by simp) rfl rfl) (fun hm=>by
       right
       refine⟨at_ b o',hbase,rfl,?_,?_,?_,?_⟩
       ·show(xs.set i x.1).length≤(ι p.id).cap
        rw [List.length_set,hcap];exact hxc
       ·show ∀j,j<(ι p.id).cap*t.size→_
        rw [hcap];exact hwr
       ·show ∀j,j<(ι p.id).cap*t.size→_
        rw [hcap]
        intro j hj
        show((G.or (Reg.run b (o'+i*t.size) t.size)).or H1) b (o'+j)
        by_cases hh:j<i*t.size∨(i+1)*t.size≤j
        ·exact .inr (hHc j hj hh)
        ·rw [Nat.add_one_mul] at hh
         exact .inl (.inr ⟨rfl,by omega,by omega⟩)
       ·refine⟨G1.or (G.or G2),Row.join3 i hi hR1 r1' hwl.1 hat hR2 (fun b o x y=>ha b o (hGF b o y) (hH1 b o (hGH1 b o x))) hG12 (fun b o x y=>ha b o (hGF b o x) (hH1 b o (hGH2 b o y))),?_,?_⟩
        ·show ∀j,j<(ι p.id).cap*t.size→_
         rw [hcap]
         rintro j hj (hg | hg | hg)
         ·exact(hGn j hj).1 hg
         ·by_cases hh:j<i*t.size∨(i+1)*t.size≤j
          ·exact ha _ _ (hGF _ _ hg) (hH1 _ _ (hHc j hj hh))
          ·rw [Nat.add_one_mul] at hh
           exact hGr _ _ hg ⟨rfl,by show o'+i*t.size≤o'+j;omega,by show o'+j<_;omega⟩
         ·exact(hGn j hj).2 hg
        ·rintro b o (hg | hg | hg)
         ·exact .inr (hGH1 b o hg)
         ·exact .inl (.inl hg)
         ·exact .inr (hGH2 b o hg)) hfreeU
     obtain ⟨ι2,i2,held2,fr2,lv2⟩:=hback
     have hdl:=depF_live (dp:=dp) (fun d hm=>(hd d hm).1) lv2
     have hrec:=unmut_sound ps vs' us' x.2 _ ι2 j q H' H2 hu i2 (Keeps.move (held2.mono fun _ _ _=>trivial) (fun _ _ h=>h) ps k2) (by rw [hdl.2];exact r2)
      (fr2 H' (hF.sub hG2) (by rintro b o x (y | y);exact hGa b o y x;exact ha b o (hG2 b o x) (hH1 b o y)))
      (fr2 H2 (hH.sub hH2) (by rintro b o x (y | y);exact ha b o (hG1 b o y) (hH2 b o x);exact hHa b o y x))
      (fun b o x y=>ha b o (hG2 b o x) (hH2 b o y)) (fun d hm=>⟨hdl.1 d hm,by have:=(hd d hm).2;unfold okDep known verOf at *;rw [(lv2 d.1 (hd d hm).1).1];exact this⟩)
     refine BackRes.trans i2 held2 fr2 lv2 hrec ?_
     rintro b o ((y | y) | (y | y))
     ·exact .inl (hG1 b o y)
     ·exact .inr (hH1 b o y)
     ·exact .inl (hG2 b o y)
     ·exact .inr (hH2 b o y)
    | _=>simp at hu
  | _=>rw [ho] at hu;simp at hu
end
end Go.LM
namespace Go.LM
section
variable{P:Program}{Q:Exit→Act→World→Prop}
variable{g:Bool}{w0:World}{F0 Z0:Reg}{n:Frm}{s s':St}{a a':Act}{w w' w2:World}{ι ι' ι2:Nat→OI}{Z Z' Z2:Reg}
variable{E:Env}{o:Oper}{ρ : Type}{K:St→Option ρ}{r : ρ}{id:Nat}
theorem alive_live:∀ {dp:List (Nat×Nat)},alive s dp=true→∀d,d∈dp→(s.o d.1).live
 | [],_,d,hd=>by simp at hd
 | (i,v) :: dp,h,d,hd=>by
  unfold alive at h
  rcases List.mem_cons.1 hd with rfl | hd
  ·cases ho:s.o i with
   | row=>trivial
   | var=>trivial
   | _=>rw [ho] at h;simp at h
  ·cases ho:s.o i with
   | row t em ver xs =>
    rw [ho] at h
    simp only at h
    cases hb:Nat.beq ver v
    ·rw [hb] at h;simp at h
    ·rw [hb] at h;exact alive_live h d hd
   | var ver cs =>
    rw [ho] at h
    simp only at h
    cases hb:Nat.beq ver v
    ·rw [hb] at h;simp at h
    ·rw [hb] at h;exact alive_live h d hd
   | _=>rw [ho] at h;simp at h
theorem TVsRep.append:∀ {x y:List TV} {us vs:List Value},TVsRep w Z s ι x us→TVsRep w Z s ι y vs→TVsRep w Z s ι (x++y) (us++vs)
 | [],_,_,_,h,k=>by simp only [TVsRep] at h;subst h;exact k
 | _ :: _,_,_,_,h,k=>by
  simp only [TVsRep] at h
  obtain ⟨u,us',rfl,h1,h2⟩:=h
  simp only [List.cons_append,TVsRep]
  exact⟨u,_,rfl,h1,h2.append k⟩
theorem caps_rep:∀ {x:List TV} {us:List Value},noUnd x=true→TVsRep w Z s ι x us→TVsRep w Z s ι (fnCaps x) (capsV us)
 | [],_,_,h=>by simp only [TVsRep] at h;subst h;simp only [fnCaps,capsV,TVsRep]
 | v :: l,_,hn,h=>by
  simp only [TVsRep] at h
  obtain ⟨u,us',rfl,h1,h2⟩:=h
  have hl:noUnd l=true:=by cases v <;> simp_all [noUnd]
  have ih:=caps_rep hl h2
  cases v with
  | fn f a b =>
   simp only [TVRep] at h1
   obtain ⟨xs,ys,rfl,q1,q2⟩:=h1
   simp only [fnCaps,capsV]
   exact(q1.append q2).append ih
  | und=>simp [noUnd] at hn
  | sc c =>
   simp only [fnCaps]
   have:∀f a b,u≠.func f a b:=by
    rintro f a b rfl
    simp only [TVRep] at h1
    cases c with
    | lst=>obtain ⟨_,⟨_,_,_,h⟩,_⟩:=h1;simp at h
    | hd=>obtain ⟨_,_,_,_,h,_⟩:=h1;simp at h
    | str=>obtain ⟨_,h,_⟩:=h1;simp at h
    | raw=>obtain ⟨h,_,_,_,h2⟩:=h1;rw [h2] at h;simp at h
    | _=>simp [CellRep] at h1
   cases u <;> first | exact ih | exact absurd rfl (this _ _ _)
  | ag cs=>simp only [TVRep] at h1;obtain ⟨_,rfl,_⟩:=h1;exact ih
  | ptr p=>simp only [TVRep] at h1;obtain ⟨_,_,rfl,_⟩:=h1;exact ih
  | rp=>simp only [TVRep] at h1;obtain ⟨_,_,_,_,rfl,_⟩:=h1;exact ih
  | gone=>simp [noUnd] at hn
  | junk=>simp [noUnd] at hn
  | nilp=>simp only [TVRep] at h1;subst h1;exact ih
  | nilc=>simp only [TVRep] at h1;subst h1;exact ih
  | may=>simp only [TVRep] at h1;rcases h1 with⟨_,rfl⟩ | ⟨_,_,_,_,_,rfl,_⟩ <;> exact ih
  | opt=>simp only [TVRep] at h1;rcases h1.2 with⟨_,rfl⟩ | ⟨_,_,rfl,_⟩ <;> exact ih
  | tup=>simp only [TVRep] at h1;obtain ⟨_,rfl,_⟩:=h1;exact ih
mutual
theorem KeepVm.weak:∀(t:Ty) (m:Md) {cs:List HC} {vs:List Value} {H:Reg},KeepVm true w Z s ι t m cs vs H→KeepVm false w Z s ι t m cs vs H
 | .int _,_,_,_,_,hk=>by simp only [KeepVm] at hk ⊢;exact hk
 | .bool,_,_,_,_,hk=>by simp only [KeepVm] at hk ⊢;exact hk
 | .str,_,_,_,_,hk=>by simp only [KeepVm] at hk ⊢;exact hk
 | .raw,_,_,_,_,hk=>by simp only [KeepVm] at hk ⊢;exact hk
 | .sl t,.R,_,_,_,hk=>by simp only [KeepVm] at hk
 | .sl t,.S _,_,_,_,hk=>by simp only [KeepVm] at hk
 | .sl t,.O e,_,_,_,hk=>by
  simp only [KeepVm] at hk ⊢
  obtain ⟨c,v,h1,h2,hk⟩:=hk
  refine⟨c,v,h1,h2,?_⟩
  cases c with
  | nil=>exact hk
  | hd id sub =>
   cases sub with
   | some=>exact hk
   | none=>obtain ⟨ver,xs,A,k,c,_,h⟩:=hk;exact⟨ver,xs,A,k,c,fun h=>by simp at h,h⟩
  | lst u dp og xs=>obtain ⟨p,i,T,ver,ys,b,o,c,h1,h2,_,h⟩:=hk;exact⟨p,i,T,ver,ys,b,o,c,h1,h2,fun h=>by simp at h,h⟩
  | _=>exact hk
 | .st ts,m,_,_,_,hk=>by simp only [KeepVm] at hk ⊢;exact KeepVms.weak ts m.parts hk
theorem KeepVms.weak:∀(ts:Tys) (m:Mds) {cs:List HC} {vs:List Value} {H:Reg},KeepVms true w Z s ι ts m cs vs H→KeepVms false w Z s ι ts m cs vs H
 | .nil,_,_,_,_,hk=>by simp only [KeepVms] at hk ⊢;exact hk
 | .cons t ts,m,_,_,_,hk=>by
  simp only [KeepVms] at hk ⊢
  obtain ⟨c1,c2,v1,v2,H1,H2,h1,h2,h3,h4,h5⟩:=hk
  exact⟨c1,c2,v1,v2,H1,H2,h1,h2,KeepVm.weak t m.hd h3,KeepVms.weak ts m.tl h4,h5⟩
end
theorem Keeps.weak:∀(ps:List PSpec) {vs:List TV} {us:List Value} {H:Reg},Keeps true w Z s ι ps vs us H→Keeps false w Z s ι ps vs us H
 | [],_,_,_,_=>trivial
 | .mut t m m' :: ps,_,_,_,⟨p,vs',u,us',H1,H2,h1,h2,h3,h4,h5⟩ =>
  ⟨p,vs',u,us',H1,H2,h1,h2,h3.imp (fun⟨a,b,c,d,e,_,h⟩=>⟨a,b,c,d,e,fun h=>by simp at h,h⟩) (fun⟨q1,q2,a,b,c,d,e,f,g1,g2,_,h⟩=>⟨q1,q2,a,b,c,d,e,f,g1,g2,fun h=>by simp at h,h⟩),Keeps.weak ps h4,h5⟩
 | .vm t m :: ps,_,_,_,⟨v,vs',u,us',cs,H1,H2,h1,h2,h3,hmo,h4,h5,h6⟩=>⟨v,vs',u,us',cs,H1,H2,h1,h2,h3,hmo,KeepVm.weak t m h4,Keeps.weak ps h5,h6⟩
 | .val _ _ :: ps,_,_,_,⟨v,vs',u,us',h1,h2,h3⟩=>⟨v,vs',u,us',h1,h2,Keeps.weak ps h3⟩
 | .frz _ :: ps,_,_,_,⟨v,vs',u,us',h1,h2,h3⟩=>⟨v,vs',u,us',h1,h2,Keeps.weak ps h3⟩
 | .ref _ :: ps,_,_,_,⟨v,vs',u,us',h1,h2,h3⟩=>⟨v,vs',u,us',h1,h2,Keeps.weak ps h3⟩
 | .fn _ _ :: ps,_,_,_,⟨v,vs',u,us',h1,h2,h3⟩=>⟨v,vs',u,us',h1,h2,Keeps.weak ps h3⟩
theorem ResRep.mono(hZ:Reg.sub Z Z'){ps:List PSpec}{us:List Value} : ∀(rs:List RSpec) {x:(RSpec.outs rs (PSpec.muts ps)).D} {rvs:List Value} {F F':Reg},Reg.sub F F'→ResRep w Z ps us rs x rvs F→ResRep w Z' ps us rs x rvs F'
 | [],_,_,_,_,hF,⟨h1,h2⟩=>⟨h1,OutRep.mono hZ ps hF h2⟩
 | .val t m :: rs,_,_,_,_,hF,⟨vs,rvs',G,H,h1,h2,h3,h4,h5,h6⟩=>⟨vs,rvs',G,H,h1,Ty.Rep.mono hZ _ _ (fun _ _ h=>h) h2,ResRep.mono hZ rs (fun _ _ h=>h) h3,h4,fun b o h=>hF b o (h5 b o h),fun b o h=>hF b o (h6 b o h)⟩
 | .opt a off t :: rs,_,_,_,_,hF,⟨v,rvs',h1,h2,h3⟩=>⟨v,rvs',h1,h2,ResRep.mono hZ rs hF h3⟩
 | .any t :: rs,_,_,_,_,hF,⟨v,rvs',h1,h2,h3⟩=>⟨v,rvs',h1,h2,ResRep.mono hZ rs hF h3⟩
 | .optr t :: rs,_,_,_,_,hF,⟨v,rvs',h1,h2,h3⟩=>⟨v,rvs',h1,h2.imp (fun h=>h) fun⟨y,b,o,vs,k1,k2,k3,k4,k5⟩=>⟨y,b,o,vs,k1,k2,k3,Ty.Rep.mono hZ _ _ (fun _ _ h=>h) k4,fun j hj=>hZ _ _ (k5 j hj)⟩,ResRep.mono hZ rs hF h3⟩
 | .new t m :: rs,_,_,_,_,hF,⟨b,o,vs,rvs',G,H,h1,h2,hw,h3,h4,h5,h6,h7,h8⟩=>⟨b,o,vs,rvs',G,H,h1,h2,hw,Ty.Rep.mono hZ _ _ (fun _ _ h=>h) h3,ResRep.mono hZ rs (fun _ _ h=>h) h4,h5,h6,fun b o h=>hF b o (h7 b o h),fun b o h=>hF b o (h8 b o h)⟩
theorem PlaceAt.plus{p:Place}{b o:Nat}(k:Nat)(h:PlaceAt s ι p (at_ b o)):PlaceAt s ι { p with off:=p.off+k } (at_ b (o+k)):=by
 obtain ⟨_,h⟩:=h
 refine⟨rfl,?_⟩
 show match (s.o p.id).core with | .var _ _=>_ | .row .. => _ | _=>_
 cases hc:(s.o p.id).core with
 | var ver cs =>
  rw [hc] at h
  obtain ⟨h1,a0,h2,h3⟩:=h
  simp only [at_,Addr.mk.injEq,and_true] at h3
  exact⟨h1,a0,h2,by simp only [at_,Addr.mk.injEq,and_true];exact⟨h3.1,by omega⟩⟩
 | row t em ver xs =>
  rw [hc] at h
  obtain ⟨i,h1,h2,a0,h3,h4⟩:=h
  simp only [at_,Addr.mk.injEq,and_true] at h4
  exact⟨i,h1,h2,a0,h3,by simp only [at_,Addr.mk.injEq,and_true];exact⟨h4.1,by omega⟩⟩
 | _=>trivial
theorem TVsRep.get:∀ {x:List TV} {us:List Value} (i:Nat) {v:TV},TVsRep w Z s ι x us→x[i]?=some v→∃u,us[i]?=some u∧TVRep w Z s ι v u
 | [],_,i,_,_,h=>by simp at h
 | y :: l,_,0,v,h,hv=>by
  simp only [TVsRep] at h
  obtain ⟨u,us',rfl,h1,h2⟩:=h
  simp at hv;subst hv
  exact⟨u,rfl,h1⟩
 | y :: l,_,i+1,v,h,hv=>by
  simp only [TVsRep] at h
  obtain ⟨u,us',rfl,h1,h2⟩:=h
  simp only [List.getElem?_cons_succ] at hv ⊢
  exact h2.get i hv
theorem TVsRep.held{g:Bool}{H:Reg}(h:Held g w Z s ι w' Z' s' ι' H):∀ {x:List TV} {us:List Value},TVsRep w Z s ι x us→TVsRep w' Z' s' ι' x us
 | [],_,hx=>by simp only [TVsRep] at hx ⊢;exact hx
 | y :: l,_,hx=>by
  simp only [TVsRep] at hx ⊢
  obtain ⟨u,us',h0,h1,h2⟩:=hx
  exact⟨u,us',h0,h.tv _ _ h1,TVsRep.held h h2⟩
theorem unres_sound{bs:List (Nat×Nat)}{ps:List PSpec}{vs:List TV}{us:List Value} : ∀(rs:List RSpec) (x:(RSpec.outs rs (PSpec.muts ps)).D) (rvs:List Value) (s:St) (ι : Nat→OI) (j:Nat) (q:List TV×St) (F H:Reg),unres vs ps bs rs x s j=some q →
  Inv w0 F0 Z0 n s a w ι Z→Keeps false w Z s ι ps vs us H→ResRep w (Z.or (depF ι bs)) ps us rs x rvs F→Free w0 F0 s w ι Z F→Free w0 F0 s w ι Z H→Reg.apart F H→(∀d,d∈bs→(s.o d.1).live∧okDep s d)→TVsRep w Z s ι vs us →
  ∃ ι',Inv w0 F0 Z0 n q.2 a w ι' Z∧(∀x u,TVRep w Z s ι x u→TVRep w Z q.2 ι' x u)∧TVsRep w Z q.2 ι' q.1 rvs
 | [],x,rvs,s,ι,j,q,F,H,hu,h,hk,hr,hF,hH,ha,hd,hv=>by
  simp only [unres] at hu
  obtain ⟨r,hx,hu⟩:=obi hu
  obtain rfl:=osj hu
  obtain ⟨rfl,hr⟩:=hr
  obtain ⟨ι',i',held,_⟩:=unmut_sound ps vs us x s ι j r F H hx h hk hr hF hH ha hd
  exact⟨ι',i',held.tv,by simp only [TVsRep]⟩
 | .val t m :: rs,x,rvs,s,ι,j,q,F,H,hu,h,hk,hr,hF,hH,ha,hd,hv=>by
  simp only [unres] at hu
  obtain ⟨r,hx,hu⟩:=obi hu
  cases hw:wrapT t r.1 with
  | none=>rw [hw] at hu;simp at hu
  | some v =>
   rw [hw] at hu
   simp only at hu
   obtain ⟨p,hp,hu⟩:=obi hu
   obtain rfl:=osj hu
   obtain ⟨ws,rvs',G1,G2,rfl,r1,r2,hGa,hG1,hG2⟩:=hr
   obtain ⟨ι1,i1,gr1,c1,fr1⟩:=Ty.expl_sound t m bs x.1 s ι j r ws G1 hx h r1 (hF.sub hG1) ((hF.sub hG1).depF fun d hm=>(hd d hm).1) (fun d hm=>(hd d hm).2)
   have held1:Held false w Z s ι w Z r.2.1 ι1 (fun _ _=>True):=gr1.held _
   have hdl:=depF_live (dp:=bs) (fun d hm=>(hd d hm).1) gr1.keeps
   have hvm:TVsRep w Z r.2.1 ι1 vs us:=TVsRep.move (gr1.moves (w:=w) (Z:=Z)) hv
   obtain ⟨ι2,i2,tv2,hres⟩:=unres_sound rs x.2 rvs' r.2.1 ι1 r.2.2 p G2 H hp i1 (Keeps.move (held1.mono fun _ _ _=>trivial) (fun _ _ h=>h) ps hk) (by rw [hdl.2];exact r2)
    (fr1 G2 (hF.sub hG2) (fun b o x y=>hGa b o y x)) (fr1 H hH (fun b o x y=>ha b o (hG1 b o y) x)) (fun b o x y=>ha b o (hG2 b o x) y)
    (fun d hm=>⟨hdl.1 d hm,by have:=(hd d hm).2;unfold okDep known verOf at *;rw [(gr1.keeps d.1 (hd d hm).1).1];exact this⟩) hvm
   refine⟨ι2,i2,fun x u hx=>tv2 x u (held1.tv x u hx),?_⟩
   simp only [TVsRep]
   exact⟨_,rvs',rfl,tv2 _ _ (wrapT_rep hw c1),hres⟩
 | .new t m :: rs,x,rvs,s,ι,j,q,F,H,hu,h,hk,hr,hF,hH,ha,hd,hv=>by
  simp only [unres] at hu
  obtain ⟨r,hx,hu⟩:=obi hu
  obtain ⟨s1,hm,hu⟩:=obi hu
  obtain ⟨p,hp,hu⟩:=obi hu
  obtain rfl:=osj hu
  obtain ⟨hid,rfl⟩:=mkObj_some hm
  obtain ⟨b,o,ws,rvs',G1,G2,rfl,hat,hwr,r1,r2,hGa,hGr,hG1,hG2⟩:=hr
  have hG:Reg.sub G1 F:=fun b o x=>hG1 b o (.inl x)
  have hR:Reg.sub (Reg.run b o t.size) F:=fun b o x=>hG1 b o (.inr x)
  obtain ⟨ι1,i1,gr1,c1,fr1⟩:=Ty.expl_sound t m bs x.1 s ι j r ws G1 hx h r1 (hF.sub hG) ((hF.sub hG).depF fun d hm=>(hd d hm).1) (fun d hm=>(hd d hm).2)
  have hl:=(Ty.Rep.len t _ r1).1
  have hcl:=c1.len
  have hfr:=fr1 _ (hF.sub hR) (fun b o x y=>hGr b o y x)
  obtain ⟨i2,held2,fr2,lv2⟩:=readopt_back' i1 (id:=r.2.2) (o:=.var 0 r.1) (i:=⟨some (at_ b o),0,Reg.run b o t.size⟩) (by rw [hid];exact fun h=>h) (fun o'=>by simp) (by rw [hid];exact .made _ _ _) (fun hm=>by
   refine⟨at_ b o,ws,rfl,rfl,c1.move hm,hat,fun k hk=>⟨hwr k (by omega),rfl,by simp [at_],by simp [at_];omega⟩⟩) hfr
  have held:Held false w Z s ι w Z _ _ (fun _ _=>True):=(gr1.held _).trans held2
  have hkp:∀id,(s.o id).live→(r.2.1.putO r.2.2 (.var 0 r.1)).o id=s.o id∧upd ι1 r.2.2 ⟨some (at_ b o),0,Reg.run b o t.size⟩ id = ι id:=fun id hlive=>by
   obtain ⟨h1,h2⟩:=gr1.keeps id hlive
   obtain ⟨h3,h4⟩:=lv2 id (by rw [h1];exact hlive)
   exact⟨h3.trans h1,h4.trans h2⟩
  have hdl:=depF_live (dp:=bs) (fun d hm=>(hd d hm).1) hkp
  have hvm:TVsRep w Z _ _ vs us:=TVsRep.held held hv
  have hfr':∀X,Free w0 F0 s w ι Z X→Reg.apart X (G1.or (Reg.run b o t.size))→Free w0 F0 (r.2.1.putO r.2.2 (.var 0 r.1)) w (upd ι1 r.2.2 ⟨some (at_ b o),0,Reg.run b o t.size⟩) Z X:=fun X hX hXa =>
   fr2 X (fr1 X hX fun b o x y=>hXa b o x (.inl y)) fun b o x y=>hXa b o x (.inr y)
  obtain ⟨ι3,i3,tv3,hres⟩:=unres_sound rs x.2 rvs' _ _ _ p G2 H hp i2 (Keeps.move (held.mono fun _ _ _=>trivial) (fun _ _ h=>h) ps hk) (by rw [hdl.2];exact r2)
   (hfr' G2 (hF.sub hG2) (fun b o x y=>hGa b o y x)) (hfr' H hH (fun b o x y=>ha b o (hG1 b o y) x)) (fun b o x y=>ha b o (hG2 b o x) y)
   (fun d hm=>⟨hdl.1 d hm,by have:=(hd d hm).2;unfold okDep known verOf at *;rw [(hkp d.1 (hd d hm).1).1];exact this⟩) hvm
  refine⟨ι3,i3,fun x u hx=>tv3 x u (held.tv x u hx),?_⟩
  simp only [TVsRep]
  refine⟨_,rvs',rfl,tv3 _ _ ?_,hres⟩
  simp only [TVRep]
  refine⟨by show upd r.2.1.o r.2.2 _ r.2.2≠_;rw [upd_same];simp,_,rfl,rfl,?_⟩
  show match (upd r.2.1.o r.2.2 _ r.2.2).core with | .var _ _=>_ | .row .. => _ | _=>_
  rw [upd_same]
  exact⟨rfl,at_ b o,by rw [upd_same],by simp [at_]⟩
 | .any t :: rs,x,rvs,s,ι,j,q,F,H,hu,h,hk,hr,hF,hH,ha,hd,hv=>by
  simp only [unres] at hu
  obtain ⟨p,hp,hu⟩:=obi hu
  obtain rfl:=osj hu
  obtain ⟨v,rvs',rfl,hv1,r2⟩:=hr
  obtain ⟨ι2,i2,tv2,hres⟩:=unres_sound rs x rvs' s ι j p F H hp h hk r2 hF hH ha hd hv
  refine⟨ι2,i2,tv2,?_⟩
  simp only [TVsRep]
  exact⟨_,rvs',rfl,by simp only [TVRep];exact hv1,hres⟩
 | .optr t :: rs,x,rvs,s,ι,j,q,F,H,hu,h,hk,hr,hF,hH,ha,hd,hv=>by
  simp only [unres] at hu
  obtain ⟨p,hp,hu⟩:=obi hu
  obtain rfl:=osj hu
  obtain ⟨v,rvs',rfl,ho,r2⟩:=hr
  obtain ⟨ι2,i2,tv2,hres⟩:=unres_sound rs x.2 rvs' s ι j p F H hp h hk r2 hF hH ha hd hv
  refine⟨ι2,i2,tv2,?_⟩
  simp only [TVsRep]
  refine⟨v,rvs',rfl,tv2 _ _ ?_,hres⟩
  simp only [TVRep]
  rcases ho with⟨h1,h2⟩ | ⟨y,b,o,vs',h1,h2,h3,h4,h5⟩
  ·exact .inl ⟨by rw [h1];rfl,h2⟩
  ·right
   rw [h1]
   refine⟨rfl,fun d hm=>(hd d hm).2,b,o,vs',h2,fun _=>?_⟩
   have hc:CellsRep w Z s ι (t.cells bs none y) vs':=Ty.cells_rep t bs none (fun d hm=>(hd d hm).2) (fun _=>h4) ⟨_,_,_,h4⟩ .none
   refine⟨hc,h3,fun j hj=>?_⟩
   have hl:=(Ty.Rep.len t _ h4).1
   have hl2:=hc.len
   exact h5 j (by rw [show(gd t [y] 0)=y from rfl] at hj;omega)
 | .opt ar off t :: rs,x,rvs,s,ι,j,q,F,H,hu,h,hk,hr,hF,hH,ha,hd,hv=>by
  simp only [unres] at hu
  obtain ⟨p,hp,hu⟩:=obi hu
  cases hop:optOf p.2 vs ar off with
  | none=>rw [hop] at hu;simp at hu
  | some id =>
   rw [hop] at hu
   simp only at hu
   cases hrt:rowTy p.2 t id
   ·rw [hrt] at hu;cases hu
   rw [hrt] at hu
   simp only [cond_true] at hu
   obtain rfl:=osj hu
   obtain ⟨v,rvs',rfl,ho,r2⟩:=hr
   obtain ⟨ι2,i2,tv2,hres⟩:=unres_sound rs x.2 rvs' s ι j p F H hp h hk r2 hF hH ha hd hv
   refine⟨ι2,i2,tv2,?_⟩
   simp only [TVsRep]
   refine⟨v,rvs',rfl,?_,hres⟩
   unfold optOf at hop
   cases hva:vs[ar]? with
   | none=>rw [hva] at hop;simp at hop
   | some va =>
    rw [hva] at hop
    cases va with
    | ptr pl =>
     simp only at hop
     cases hrd:readP p.2 1 { pl with off:=pl.off+off } with
     | none=>rw [hrd] at hop;simp at hop
     | some cs =>
      rw [hrd] at hop
      have hcs:cs=[.hd id none]:=by
       split at hop
       ·rename_i h;obtain rfl:=osj hop;exact osj h
       ·simp at hop
      subst hcs
      obtain ⟨u,hu1,hu2⟩:=hv.get ar hva
      have hu2:=tv2 _ _ hu2
      simp only [TVRep] at hu2
      obtain ⟨hkn,A,rfl,hpa⟩:=hu2
      obtain ⟨b,o,sp⟩:=A
      have hsp:=hpa.1
      simp only at hsp
      subst hsp
      obtain ⟨b2,o2,ws,hA,hc1,hc2,hc3⟩:=readP_sound i2 hrd (PlaceAt.plus (b:=b) (o:=o) off hpa)
      simp only [at_,Addr.mk.injEq,and_true] at hA
      obtain ⟨rfl,rfl⟩:=hA
      match ws,hc1 with
      | [v0],hc1 =>
       obtain ⟨hk0,A,m,k,rfl,hh⟩:=hc1.1
       simp only [TVRep]
       refine⟨hk0,?_⟩
       rcases ho with⟨h1,h2⟩ | ⟨h1,b3,o3,b1,o1,n1,c1,h2,h3,h4,h5⟩
       ·exact .inl ⟨h1,h2⟩
       ·right
        refine⟨h1,_,h5,rfl,?_⟩
        rw [hu1] at h2
        simp only [Option.some.injEq,Value.pointer.injEq,at_,Addr.mk.injEq,and_true] at h2
        obtain ⟨rfl,rfl⟩:=h2
        have:=hc2.head
        rw [h3] at this
        simp only [Option.some.injEq,Value.slice.injEq] at this
        obtain ⟨rfl,rfl,rfl⟩:=this
        show match (p.2.o id).core with | .var _ _=>_ | .row .. => _ | _=>_
        unfold rowTy at hrt
        cases hob:p.2.o id with
        | row u em ver xs =>
         rw [hob] at hrt
         have:=Ty.eq_of_beq _ _ hrt
         subst this
         obtain ⟨q1,q2,q3,q4,q5⟩:=hh u em ver xs (core_row hob)
         have q1:n1=xs.length:=q1
         rcases q5 with q5 | ⟨a0,ha0,ha1⟩
         ·omega
         ·simp only [subLo,Nat.zero_mul,Nat.add_zero,Option.some.injEq,at_,Addr.mk.injEq,and_true] at ha1
          refine⟨_,rfl,by omega,a0,ha0,?_⟩
          simp only [at_,Addr.mk.injEq,and_true]
          exact⟨ha1.1,by omega⟩
        | _=>rw [hob] at hrt;cases hrt
    | _=>simp at hop
end
end Go.LM
namespace Go.LM
section
variable{P:Program}{Q:Exit→Act→World→Prop}
variable{g:Bool}{w0:World}{F0 Z0:Reg}{n:Frm}{s s':St}{a a':Act}{w w' w2:World}{ι ι' ι2:Nat→OI}{Z Z' Z2:Reg}
variable{E:Env}{o:Oper}{ρ : Type}{K:St→Option ρ}{r : ρ}{id:Nat}
def oneTV:List TV→TV
 | [v]=>v
 | l=>.tup l
theorem Calls.mono{P:Program}{f:FuncId}{args:Array Value}{w:World}{R R':Ending→World→Prop}(h:Calls P f args w R)(hR:∀e w',R e w'→R' e w'):Calls P f args w R':=by
 intro cs
 obtain ⟨e,w',fr,h1,h2⟩:=h cs
 exact⟨e,w',fr,hR e w' h1,h2⟩
theorem CallsX.mono{P:Program}{f:FuncId}{args:Array Value}{w:World}{R R':Ending→World→Prop}(h:CallsX P f args w R)(hR:∀e w',R e w'→R' e w'):CallsX P f args w R':=by
 rcases h with⟨h1,h2⟩ | ⟨v,w',h1,h2⟩
 ·exact .inl ⟨h1,Calls.mono h2 hR⟩
 ·exact .inr ⟨v,w',h1,hR _ _ h2⟩
def FnsOk(P:Program)(E:Env):Prop:=∀f key e,E.fns f key=some e→SoundX P f key e
theorem call_sound0{f:FuncId}{vs:List TV}{us:List Value}{K:TV→St→Option ρ}(hS:FnsOk P E)(h:Inv w0 F0 Z0 n s a w ι Z)(hv:TVsRep w Z s ι vs us)(hk:callK0 E id s f vs K=some r) :
  ∃(T:TV→St→Prop),(∀v s',T v s'→K v s'=some r)∧(∃v s',T v s')∧CallsX P f us.toArray w fun e w'=>∃u,e=.returned u∧∀v s',T v s'→∃ ι' Z',Inv w0 F0 Z0 n s' a w' ι' Z'∧TVRep w' Z' s' ι' v u:=by
 unfold callK0 at hk
 cases hf:E.fns f (fnKey vs) with
 | none=>rw [hf] at hk;simp at hk
 | some e =>
  rw [hf] at hk
  simp only at hk
  cases hm:marsh (fnKey vs) s e.ps (vs++fnCaps vs) [] with
  | none=>rw [hm] at hk;simp at hk
  | some q =>
   obtain ⟨x,s1,bs⟩:=q
   rw [hm] at hk
   simp only at hk
   cases hal:(alive s1 bs&&noUnd vs)
   ·rw [hal] at hk;simp at hk
   rw [hal] at hk
   simp only [Bool.and_eq_true] at hal
   obtain ⟨hal,hnu⟩:=hal
   simp only [cond_true] at hk
   obtain ⟨y,hy,hk⟩:=obi hk
   cases hu:unres (vs++fnCaps vs) e.ps bs e.rs y s1 id with
   | none=>rw [hu] at hk;simp at hk
   | some q =>
    obtain ⟨l,s2⟩:=q
    rw [hu] at hk
    have hsound:=hS f _ e hf
    have hvc:=hv.append (caps_rep hnu hv)
    obtain ⟨F,H,Z1,i1,g1,r1,k1,f1,h1,a1,_,d1,_⟩:=marsh_sound e.ps _ _ s Z [] _ hm h hvc (by simp)
    simp only at i1 g1 r1 k1 f1 h1 d1
    have hlive:=alive_live hal
    have hcall:=hsound.calls w (Z1.or (depF ι bs)) F x us y
     (by
      rintro b o (hz | ⟨d,hd,hf⟩)
      ·exact i1.zin b o hz
      ·exact(i1.own d.1 (hlive d hd) b o hf).2)
     (fun b o hf=>(f1.own b o hf).2)
     (by
      rintro b o hf (hz | hz)
      ·exact f1.apartZ b o hf hz
      ·exact f1.depF hlive b o hf hz) r1 hy
    refine⟨fun v' s'=>v'=oneTV l∧s'=s2,?_,⟨_,s2,rfl,rfl⟩,hcall.mono ?_⟩
    ·rintro v' s' ⟨rfl,rfl⟩
     clear hu
     match l,hk with
     | [],hk=>exact hk
     | [_],hk=>exact hk
     | _ :: _ :: _,hk=>exact hk
    ·rintro end_ w' ⟨u,rfl,⟨rvs,Z',F',rfl,hx,hz1,hz2,hf2,ha2,hres⟩⟩
     refine⟨_,rfl,?_⟩
     rintro v' s' ⟨rfl,rfl⟩
     let S:Reg:=fun b o=>Z' b o∧(F b o∨w.heap.size≤b)
     have j1:=i1.scribble f1 hx
     have hSfree:∀(X:Reg),(∀b o,X b o→(F b o∨w.heap.size≤b)∧b<w'.heap.size)→Free w0 F0 s1 w' ι Z1 X:=by
      intro X hX
      have hsz:=i1.ext.size
      refine⟨fun b o hb=>⟨?_,(hX b o hb).2⟩,fun id hl b o hb hi=>?_,fun b o hb hz=>?_⟩
      ·rcases (hX b o hb).1 with hf | hf
       ·exact(f1.own b o hf).1
       ·exact .inr (by omega)
      ·rcases (hX b o hb).1 with hf | hf
       ·exact f1.apart id hl b o hf hi
       ·have:=(i1.own id hl b o hi).2;omega
      ·rcases (hX b o hb).1 with hf | hf
       ·exact f1.apartZ b o hf hz
       ·have:=i1.zin b o hz;omega
     have hFS:Free w0 F0 s1 w' ι Z1 S:=hSfree S (by
      rintro b o ⟨hz,hf⟩
      refine⟨hf,?_⟩
      rcases hz2 b o hz with h1 | h1
      ·have hsz:=hx.size
       rcases h1 with h1 | ⟨d,hd,h1⟩
       ·have:=i1.zin b o h1;omega
       ·have:=(i1.own d.1 (hlive d hd) b o h1).2;omega
      ·exact h1.2)
     have j2:=j1.freeze hFS
     have hF':Free w0 F0 s1 w' ι (Z1.or S) F':=(hSfree F' hf2).freeze (fun b o hb hs=>ha2 b o hb hs.1)
     have hH:Free w0 F0 s1 w' ι (Z1.or S) H:=(h1.ext hx).freeze (by
      rintro b o hb ⟨_,hf | hf⟩
      ·exact a1 b o hf hb
      ·have:=(h1.own b o hb).2;omega)
     have hZ1F:Reg.apart Z1 F:=fun b o hz hf=>f1.apartZ b o hf hz
     have hm1:Moves w Z1 s1 ι w' (Z1.or S) s1 ι := by
      refine⟨fun id=>.stay _ _,fun _ _ h=>.inl h,Same.of_ext hx i1.kept_in ?_⟩
      rintro b o (hz | ⟨id,hl,_,_,hf⟩) hs
      ·exact hZ1F b o hz hs
      ·exact f1.apart id hl b o hs hf
     have hheld:Held false w Z1 s1 ι w' (Z1.or S) s1 ι H :=
      ⟨fun _ _=>TVRep.move hm1,fun _ _=>CellRep.move hm1,hm1.zsub,fun _ _ _ h=>⟨h,rfl⟩,fun h=>by simp at h,Same.of_ext hx (fun b o hb=>(h1.own b o hb).2) (fun b o hb hf=>a1 b o hf hb),Same.of_ext hx i1.zin hZ1F,fun b o hw=>hx.writable hw,fun z b o hw=>hx.wrR hw⟩
     have hvs1:TVsRep w' (Z1.or S) s1 ι (vs++fnCaps vs) (us++capsV us):=TVsRep.move hm1 (TVsRep.move g1.moves hvc)
     obtain ⟨ι2,i2,_,hrep⟩:=unres_sound e.rs y rvs s1 ι id (l,s') F' H hu j2 (Keeps.move hheld (fun _ _ h=>h) e.ps k1.weak) (ResRep.mono (by
      intro b o hz
      by_cases hc:(F b o∨w.heap.size≤b)
      ·exact .inl (.inr ⟨hz,hc⟩)
      ·rcases hz2 b o hz with h1 | h1
       ·rcases h1 with h1 | h1
        ·exact .inl (.inl h1)
        ·exact .inr h1
       ·exact absurd h1.1 hc) e.rs (fun _ _ h=>h) hres) hF' hH (by
      intro b o hb hh
      rcases (hf2 b o hb).1 with hf | hf
      ·exact a1 b o hf hh
      ·have:=(h1.own b o hh).2;omega) (fun d hd=>⟨hlive d hd,d1 d hd⟩) hvs1
     refine⟨ι2,_,i2,?_⟩
     show TVRep w' _ s' ι2 (oneTV l) (retV rvs)
     simp only at hrep
     clear hk hu
     match l,hrep with
     | [],hrep=>simp only [TVsRep] at hrep;subst hrep;simp only [oneTV,TVRep,retV];exact⟨[],rfl,by simp only [TVsRep]⟩
     | [v0],hrep =>
      simp only [TVsRep] at hrep
      obtain ⟨u0,us0,rfl,h0,rfl⟩:=hrep
      exact h0
     | v0 :: v1 :: l,hrep =>
      have hrep':=hrep
      simp only [TVsRep] at hrep
      obtain ⟨u0,us0,rfl,h0,u1,us1,rfl,h1,h2⟩:=hrep
      simp only [oneTV,TVRep,retV]
      exact⟨_,rfl,hrep'⟩
theorem ix_some'{m:Nat}{n:Int}{k:Nat}(hx:ix m n=some k):0≤n∧k=n.toNat:=by
 unfold ix at hx
 by_cases hc:0≤n∧n<(m:Int)
 ·rw [if_pos hc] at hx;exact⟨hc.1,(osj hx).symm⟩
 ·rw [if_neg hc] at hx;cases hx
theorem optsK_sound{ρ : Type}{r : ρ} : ∀ {vs:List TV} {us:List Value} {K:List TV→Option ρ},optsK s vs K=some r→TVsRep w Z s ι vs us→∃vs',K vs'=some r∧TVsRep w Z s ι vs' us
 | [],us,K,hk,hv=>⟨[],hk,hv⟩
 | v :: l,us,K,hk,hv=>by
  simp only [TVsRep] at hv
  obtain ⟨u,us',rfl,h1,h2⟩:=hv
  have keep:(optsK s l fun l'=>K (v :: l'))=some r→∃vs',K vs'=some r∧TVsRep w Z s ι vs' (u :: us'):=fun hk=>by
   obtain ⟨l',k1,k2⟩:=optsK_sound (K:=fun l'=>K (v :: l')) hk h2
   exact⟨v :: l',k1,by simp only [TVsRep];exact⟨u,us',rfl,h1,k2⟩⟩
  cases v with
  | opt i n =>
   simp only [optsK] at hk
   obtain ⟨k,hx,hk⟩:=obi hk
   obtain ⟨l',k1,k2⟩:=optsK_sound (K:=fun l'=>K (.ptr ⟨i,some k,0⟩ :: l')) hk h2
   refine⟨_,k1,?_⟩
   simp only [TVsRep]
   refine⟨u,us',rfl,?_,k2⟩
   simp only [TVRep] at h1 ⊢
   obtain ⟨h0,rfl⟩:=ix_some' hx
   obtain ⟨hkn,⟨h3,_⟩ | ⟨h3,ad,rfl,h4⟩⟩:=h1
   ·omega
   ·exact⟨hkn,ad,rfl,h4⟩
  | may b dp cs =>
   simp only [optsK] at hk
   cases b
   ·cases hk
   obtain ⟨l',k1,k2⟩:=optsK_sound (K:=fun l'=>K (.rp dp cs 0 :: l')) hk h2
   refine⟨_,k1,?_⟩
   simp only [TVsRep]
   refine⟨u,us',rfl,?_,k2⟩
   simp only [TVRep] at h1 ⊢
   rcases h1 with⟨h1,_⟩ | ⟨_,h1⟩
   ·cases h1
   ·exact h1
  | _=>exact keep hk
theorem call_sound{f:FuncId}{vs:List TV}{us:List Value}{K:TV→St→Option ρ}(hS:FnsOk P E)(h:Inv w0 F0 Z0 n s a w ι Z)(hv:TVsRep w Z s ι vs us)(hk:callK E id s f vs K=some r) :
  ∃(T:TV→St→Prop),(∀v s',T v s'→K v s'=some r)∧(∃v s',T v s')∧CallsX P f us.toArray w fun e w'=>∃u,e=.returned u∧∀v s',T v s'→∃ ι' Z',Inv w0 F0 Z0 n s' a w' ι' Z'∧TVRep w' Z' s' ι' v u:=by
 unfold callK at hk
 obtain ⟨vs',hk',hv'⟩:=optsK_sound hk hv
 exact call_sound0 hS h hv' hk'
theorem op_call{c:Call}{fo:Operand}(hS:FnsOk P E)(h:Inv w0 F0 Z0 n s a w ι Z)(hd:∀k,o.dst=some k→k<n)(ho:o.op=.call c)(hc:c.callee=.value fo)(hk:opK E id o s K=some r) :
  ∃s',K s'=some r∧o.wp P a w (Stands w0 F0 Z0 n s') Q:=by
 unfold opK at hk
 rw [ho] at hk
 simp only [hc] at hk
 have hvs:=opds_rep' h c.args.toList
 have hf:=opd_rep h fo
 cases hfo:opd s fo with
 | fn gf first caps =>
  rw [hfo] at hk hf
  simp only at hk
  simp only [TVRep] at hf
  obtain ⟨fs,cs,hfv,hfs,hcs⟩:=hf
  have hall:TVsRep w Z s ι (first++c.args.toList.map (opd s)++caps) (fs++c.args.toList.map a.eval++cs):=(hfs.append hvs).append hcs
  obtain ⟨T,hT1,⟨v,s',hT⟩,hcalls⟩:=call_sound hS h hall hk
  refine⟨_,hT1 v s' hT,?_⟩
  unfold Oper.wp
  have hrun:(execOp a.eval o).run P w=(callFunc gf (fs++c.args.toList.map a.eval++cs).toArray).run P w:=by
   unfold execOp;rw [ho]
   simp only [run_bind,resolve,hc,hfv,Deferred.ofValue,run_pure,invoke]
   congr 2
   apply Array.ext'
   simp
  rw [hrun]
  rcases hcalls with⟨⟨fn,hfn,hbody,hname⟩,hcalls⟩ | ⟨u,w',hval,u',hu',hu⟩
  ·have hen:(callFunc gf (fs++c.args.toList.map a.eval++cs).toArray).run P w=.ok (.enter gf (fs++c.args.toList.map a.eval++cs).toArray) w:=by
    simp only [callFunc,run_bind,run_pure,program,Sem.run,hfn]
    rw [if_neg (by rw [hname];simp),if_neg (by rw [hbody];simp)]
    simp only [run_pure]
   rw [hen,Oper.upon_enter]
   refine hcalls.mono ?_
   rintro e w' ⟨u,rfl,hu⟩
   obtain ⟨ι',Z',hinv,hrep⟩:=hu v s' hT
   exact⟨ι',Z',hinv.dst hrep hd⟩
  ·rw [hval,Oper.upon_value]
   cases hu'
   obtain ⟨ι',Z',hinv,hrep⟩:=hu v s' hT
   exact⟨ι',Z',hinv.dst hrep hd⟩
 | _=>rw [hfo] at hk;simp at hk
structure Ok(P:Program)(E:Env):Prop where
 ty:TyOk P E
 eq:EqOk P E
 fns:FnsOk P E
 mix:P.follows .mixedOrders=true
theorem opK_sound(hO:Ok P E)(h:Inv w0 F0 Z0 n s a w ι Z)(hd:∀k,o.dst=some k→k<n)(hk:opK E id o s K=some r) :
  ∃s',K s'=some r∧o.wp P a w (Stands w0 F0 Z0 n s') Q:=by
 have pw:(∃s',K s'=some r∧Pure P o a w (Stands w0 F0 Z0 n s'))→∃s',K s'=some r∧o.wp P a w (Stands w0 F0 Z0 n s') Q:=fun⟨s',h1,h2⟩=>⟨s',h1,h2.wp⟩
 cases ho:o.op with
 | move x=>exact pw (op_move h hd (.inl ho) hk)
 | assign x=>exact pw (op_move h hd (.inr ho) hk)
 | pick c x y=>exact pw (op_pick h hd ho hk)
 | alloc t=>exact op_alloc hO.ty h hd ho hk
 | box t x=>exact op_box hO.ty h hd ho hk
 | build t ps=>exact pw (op_build hO.ty h hd ho hk)
 | buildSlice t m ps=>exact op_buildSlice hO.ty h hd ho hk
 | load t x=>exact op_load hO.ty h hd ho hk
 | store t x y=>exact op_store hO.ty h hd ho hk
 | nilCheck x=>exact pw (op_nilCheck h hd ho hk)
 | binOp op t x y yt=>exact pw (op_binOp hO.ty hO.eq h hd ho hk)
 | unOp op t x=>exact pw (op_unOp h hd ho hk)
 | convert st dt x=>exact op_convert hO.ty h hd ho hk
 | makeFunc f first caps =>
  cases f with
  | func f=>exact pw (op_makeFunc h hd ho hk)
  | _=>unfold opK at hk;rw [ho] at hk;simp at hk
 | makeSlice t x y=>exact op_makeSlice hO.ty h hd ho hk
 | slice t x lo hi mx=>exact pw (op_slice hO.ty h hd ho hk)
 | fieldAddr t x f=>exact pw (op_fieldAddr hO.ty h hd ho hk)
 | field t x f=>exact pw (op_field hO.ty h hd ho hk)
 | indexAddr t x i=>exact pw (op_indexAddr hO.ty h hd ho hk)
 | index t x i=>exact pw (op_index hO.ty h hd ho hk)
 | extract x i=>exact pw (op_extract h hd ho hk)
 | call c =>
  cases hc:c.callee with
  | builtin b =>
   by_cases hb:b=.append
   ·subst hb;exact op_append hO.ty h hd ho hc hk
   ·by_cases hb2:b=.clear
    ·subst hb2;exact op_clear hO.ty h hd ho hc hk
    ·exact pw (builtin_sound hO.ty h hd ho hc hb hb2 hk)
  | value f=>exact op_call hO.fns h hd ho hc hk
  | invoke x m=>unfold opK at hk;rw [ho] at hk;simp [hc] at hk
 | _=>unfold opK at hk;rw [ho] at hk;simp at hk
end
end Go.LM
namespace Go.LM
section
variable{w w2:World}{Z Z2:Reg}
def Lens2(w:World)(Z:Reg)(t:Ty)(z:List t.D)(v:Value)(H1 G1:Reg)(R:World→Reg→List t.D→Value→Reg→Prop):Prop :=
 (Ty.sl t).Rep w Z (.O t.own) z [v] H1∧Reg.apart H1 G1∧∀(w2:World) (Z2 X:Reg) (y:List t.D) (u:Value),Same w w2 G1→(Ty.sl t).Rep w2 Z2 (.O t.own) y [u] X→Reg.apart X G1→R w2 Z2 y u (X.or G1)
mutual
theorem Ty.lens2:∀(T:Ty) (off:Nat) (t:Ty) {x:T.D} {z:List t.D} {us:List Value} {G:Reg},T.Rep w Z T.own x us G→T.getAt off t x=some z →
  ∃v H1 G1,us[off]?=some v∧Reg.sub H1 G∧Reg.sub G1 G∧Lens2 w Z t z v H1 G1 (fun w2 Z2 y u U=>∀x',T.setAt off t y x=some x'→T.Rep w2 Z2 T.own x' (us.set off u) U)
 | .int _,_,_,_,_,_,_,_,h=>by simp [Ty.getAt] at h
 | .bool,_,_,_,_,_,_,_,h=>by simp [Ty.getAt] at h
 | .str,_,_,_,_,_,_,_,h=>by simp [Ty.getAt] at h
 | .raw,_,_,_,_,_,_,_,h=>by simp [Ty.getAt] at h
 | .sl u,off,t,x,z,us,G,hr,h=>by
  simp only [Ty.getAt] at h
  cases hb:Nat.beq off 0
  ·rw [hb] at h;cases h
  rw [hb] at h
  obtain rfl:=Nat.eq_of_beq_eq_true hb
  obtain ⟨e,rfl⟩:=castD_sl h
  subst e
  have hr':=hr
  simp only [Ty.own,Ty.Rep] at hr
  obtain ⟨A,c,rfl,_⟩:=hr
  refine⟨_,G,Reg.none,rfl,fun _ _ h=>h,fun _ _ h=>h.elim,hr',fun _ _ _ h=>h.elim,fun w2 Z2 X y u0 _ h2 _ x' hs=>?_⟩
  simp only [Ty.setAt] at hs
  obtain ⟨e,rfl⟩:=castD_sl (show castD (.sl u) (.sl u) y=some x' from hs)
  exact Ty.Rep.mono (fun _ _ h=>h) _ _ (fun _ _ h=>.inl h) h2
 | .st ts,off,t,x,z,us,G,hr,h=>by
  have hfl:ts.flat=false:=by
   cases hf:ts.flat
   ·rfl
   ·exact(Ty.getAt_flat (.st ts) (by simpa only [Ty.flat] using hf) h).elim
  simp only [Ty.own,hfl,Bool.false_eq_true,if_false,Ty.Rep,Md.parts] at hr
  simp only [Ty.getAt] at h
  obtain ⟨v,H1,G1,h1,h2,h3,h4,h5,h6⟩:=Tys.lens2 ts off t hr h
  refine⟨v,H1,G1,h1,h2,h3,h4,h5,fun w2 Z2 X y u0 k1 k2 k3 x' hs=>?_⟩
  simp only [Ty.setAt] at hs
  simp only [Ty.own,hfl,Bool.false_eq_true,if_false,Ty.Rep,Md.parts]
  exact h6 w2 Z2 X y u0 k1 k2 k3 x' hs
theorem Tys.lens2:∀(ts:Tys) (off:Nat) (t:Ty) {x:ts.D} {z:List t.D} {us:List Value} {G:Reg},ts.Rep w Z ts.own x us G→ts.getAt off t x=some z →
  ∃v H1 G1,us[off]?=some v∧Reg.sub H1 G∧Reg.sub G1 G∧Lens2 w Z t z v H1 G1 (fun w2 Z2 y u U=>∀x',ts.setAt off t y x=some x'→ts.Rep w2 Z2 ts.own x' (us.set off u) U)
 | .nil,_,_,_,_,_,_,_,h=>by simp [Tys.getAt] at h
 | .cons T ts,off,t,x,z,us,G,hr,h=>by
  simp only [Tys.own,Tys.Rep,Mds.hd,Mds.tl] at hr
  obtain ⟨u1,u2,Ga,Gb,rfl,r1,r2,hap,ha,hb⟩:=hr
  have hl:=(Ty.Rep.len T _ r1).1
  simp only [Tys.getAt] at h
  cases hlt:Nat.blt off T.size
  ·rw [hlt] at h
   have hge:T.size≤off:=by
    rcases Nat.lt_or_ge off T.size with h1 | h1
    ·have:Nat.blt off T.size=true:=Nat.ble_eq_true_of_le h1
     rw [this] at hlt;cases hlt
    ·exact h1
   obtain ⟨v,H1,G1,h1,h2,h3,h4,h5,h6⟩:=Tys.lens2 ts (off-T.size) t r2 h
   refine⟨v,H1,Ga.or G1,?_,fun b o x=>hb b o (h2 b o x),?_,h4,?_,fun w2 Z2 X y u0 k1 k2 k3 x' hs=>?_⟩
   ·rw [List.getElem?_append_right (by omega),hl];exact h1
   ·rintro b o (y | y)
    ·exact ha b o y
    ·exact hb b o (h3 b o y)
   ·rintro b o y (q | q)
    ·exact hap b o q (h2 b o y)
    ·exact h5 b o y q
   ·simp only [Tys.setAt,hlt,cond_false] at hs
    obtain ⟨z',hz,hs⟩:=obi hs
    obtain rfl:=osj hs
    simp only [Tys.own,Tys.Rep,Mds.hd,Mds.tl]
    refine⟨u1,u2.set (off-T.size) u0,Ga,X.or G1,by rw [List.set_append_right _ _ (by omega),hl],own_same T (k1.mono fun _ _ h=>.inl h) r1,h6 w2 Z2 X y u0 (k1.mono fun _ _ h=>.inr h) k2 (fun b o p q=>k3 b o p (.inr q)) z' hz,?_,fun _ _ h=>.inr (.inl h),?_⟩
    ·rintro b o p (q | q)
     ·exact k3 b o q (.inl p)
     ·exact hap b o p (h3 b o q)
    ·rintro b o (q | q)
     ·exact .inl q
     ·exact .inr (.inr q)
  ·rw [hlt] at h
   have hge:off<T.size:=Nat.le_of_ble_eq_true hlt
   obtain ⟨v,H1,G1,h1,h2,h3,h4,h5,h6⟩:=Ty.lens2 T off t r1 h
   refine⟨v,H1,G1.or Gb,?_,fun b o x=>ha b o (h2 b o x),?_,h4,?_,fun w2 Z2 X y u0 k1 k2 k3 x' hs=>?_⟩
   ·rw [List.getElem?_append_left (by omega)];exact h1
   ·rintro b o (y | y)
    ·exact ha b o (h3 b o y)
    ·exact hb b o y
   ·rintro b o y (q | q)
    ·exact h5 b o y q
    ·exact hap b o (h2 b o y) q
   ·simp only [Tys.setAt,hlt,cond_true] at hs
    obtain ⟨z',hz,hs⟩:=obi hs
    obtain rfl:=osj hs
    simp only [Tys.own,Tys.Rep,Mds.hd,Mds.tl]
    refine⟨u1.set off u0,u2,X.or G1,Gb,by rw [List.set_append_left _ _ (by omega)],h6 w2 Z2 X y u0 (k1.mono fun _ _ h=>.inl h) k2 (fun b o p q=>k3 b o p (.inl q)) z' hz,owns_same ts (k1.mono fun _ _ h=>.inr h) r2,?_,?_,fun _ _ h=>.inr (.inr h)⟩
    ·rintro b o (p | p) q
     ·exact k3 b o p (.inr q)
     ·exact hap b o (h3 b o p) q
    ·rintro b o (q | q)
     ·exact .inl q
     ·exact .inr (.inl q)
end
theorem OwnRow.lens2{T:Ty}{ys:List T.D}{a:Addr}{c:Nat}{F:Reg}{i off:Nat}{t:Ty}{z:List t.D}(h:OwnRow w (T.Rep w Z T.own) T.size ys a c F)(hi:i<ys.length)(hg:T.getAt off t (gd T ys i)=some z) :
  ∃v H1,w.cell? (at_ a.block (a.off+i*T.size+off))=some v∧(Ty.sl t).Rep w Z (.O t.own) z [v] H1∧Reg.sub H1 F∧Reg.diff F H1 a.block (a.off+i*T.size+off)∧WrR w T.size a.block (a.off+i*T.size+off) ∧
   ∀(w2:World) (Z2 X:Reg) (y:List t.D) (x':T.D) (u:Value),Same w w2 (fun b o=>Reg.diff F H1 b o∧¬(b=a.block∧o=a.off+i*T.size+off))→w2.cell? (at_ a.block (a.off+i*T.size+off))=some u →
    WrR w2 T.size a.block (a.off+i*T.size+off)→(Ty.sl t).Rep w2 Z2 (.O t.own) y [u] X→Reg.apart X (Reg.diff F H1)→T.setAt off t y (gd T ys i)=some x' →
    OwnRow w2 (T.Rep w2 Z2 T.own) T.size (ys.set i x') a c (X.or (Reg.diff F H1)):=by
 rw [gd_eq hi] at hg ⊢
 obtain ⟨G,g1,g2,g3⟩:=h.row
 obtain ⟨Ga,Gi,Gb,vs,r1,ri,hvl,hat,r2,a1,a2,a3,s1,s2,s3⟩:=g1.split3 i hi
 obtain ⟨v,H1,G1,hv,k1,k2,k3,k4,k5⟩:=Ty.lens2 T off t ri hg
 have hH1G:Reg.sub H1 G:=fun b o x=>s2 b o (k1 b o x)
 have hle:ys.length*T.size≤c*T.size:=Nat.mul_le_mul_right _ h.cap
 have hi1:(i+1)*T.size≤ys.length*T.size:=Nat.mul_le_mul_right _ hi
 rw [Nat.add_one_mul] at hi1
 have hoff:off<T.size:=by
  rcases Nat.lt_or_ge off T.size with h1 | h1
  ·exact h1
  ·rw [List.getElem?_eq_none (by omega)] at hv;cases hv
 have hdiff:∀ {A:Reg},Reg.sub A G→Reg.apart A H1→Reg.sub A (Reg.diff F H1):=fun hA hp b o x=>⟨g3 b o (hA b o x),fun y=>hp b o x y⟩
 have dA:Reg.sub Ga (Reg.diff F H1):=hdiff s1 fun b o x y=>a1 b o x (k1 b o y)
 have dB:Reg.sub Gb (Reg.diff F H1):=hdiff s3 fun b o x y=>a3 b o (k1 b o y) x
 have d1:Reg.sub G1 (Reg.diff F H1):=hdiff (fun b o x=>s2 b o (k2 b o x)) fun b o x y=>k4 b o y x
 have dC:∀j,j<c*T.size→Reg.diff F H1 a.block (a.off+j):=fun j hj=>⟨h.inF j hj,fun y=>g2 j hj (hH1G _ _ y)⟩
 have hspot:i*T.size+off<c*T.size:=by omega
 have hno:∀ {A:Reg},Reg.sub A G→∀b o,A b o→¬(b=a.block∧o=a.off+i*T.size+off):=by
  rintro A hA b o x ⟨rfl,rfl⟩
  have:=g2 (i*T.size+off) hspot
  rw [← Nat.add_assoc] at this
  exact this (hA _ _ x)
 refine⟨v,H1,hat off v hv,k3,fun b o x=>g3 b o (hH1G b o x),by have:=dC _ hspot;rwa [← Nat.add_assoc] at this,by have:=h.wr _ hspot;rwa [← Nat.add_assoc] at this,fun w2 Z2 X y x' u hs hu hwr hr hap hset=>?_⟩
 have sA:Same w w2 Ga:=fun b o x=>hs b o ⟨dA b o x,hno s1 b o x⟩
 have sB:Same w w2 Gb:=fun b o x=>hs b o ⟨dB b o x,hno s3 b o x⟩
 have sG:Same w w2 G1:=fun b o x=>hs b o ⟨d1 b o x,hno (fun b o x=>s2 b o (k2 b o x)) b o x⟩
 have hcell:∀j,j<c*T.size→j≠i*T.size+off→w2.cell? (at_ a.block (a.off+j))=w.cell? (at_ a.block (a.off+j)):=fun j hj hne=>(hs _ _ ⟨dC j hj,fun h=>hne (by omega)⟩).1
 have hw2:∀j,j<c*T.size→WrR w2 T.size a.block (a.off+j):=by
  intro j hj
  by_cases hne:j=i*T.size+off
  ·subst hne;rwa [Nat.add_assoc] at hwr
  ·exact hs.wrR ⟨dC j hj,fun h=>hne (by omega)⟩ (h.wr j hj)
 have ei:=k5 w2 Z2 X y u sG hr (fun b o p q=>hap b o p (d1 b o q)) x' hset
 refine⟨h.spot,by simpa using h.cap,hw2,fun j hj=>.inr (dC j hj),Ga.or ((X.or G1).or Gb),?_,?_,?_⟩
 ·refine Row.join3 i hi (r1.imp (fun y us G' hG hr=>own_same T (sA.mono fun b o p=>hG b o p) hr) fun j hj=>hcell j ?_ ?_) ei (by simpa using hvl) ?_ (r2.imp (fun y us G' hG hr=>own_same T (sB.mono fun b o p=>hG b o p) hr) fun j hj=>?_) ?_ a2 ?_
  ·simp only [List.length_take] at hj
   have:min i ys.length*T.size≤ys.length*T.size:=Nat.mul_le_mul_right _ (Nat.min_le_right _ _)
   omega
  ·simp only [List.length_take] at hj
   have:min i ys.length*T.size≤i*T.size:=Nat.mul_le_mul_right _ (Nat.min_le_left _ _)
   omega
  ·intro k q hk
   by_cases hko:k=off
   ·subst hko
    rw [List.getElem?_set_self (by omega)] at hk
    rw [← osj hk];exact hu
   ·rw [List.getElem?_set_ne (by omega)] at hk
    have hkl:k<vs.length:=by
     rcases Nat.lt_or_ge k vs.length with h1 | h1
     ·exact h1
     ·rw [List.getElem?_eq_none h1] at hk;cases hk
    have:=hcell (i*T.size+k) (by omega) (by omega)
    rw [← Nat.add_assoc] at this
    rw [this];exact hat k q hk
  ·simp only [List.length_drop] at hj
   have e1:(ys.length-(i+1))*T.size=ys.length*T.size-(i*T.size+T.size):=by rw [Nat.sub_mul,Nat.add_one_mul]
   rw [e1] at hj
   have:=hcell ((i+1)*T.size+j) (by rw [Nat.add_one_mul];omega) (by rw [Nat.add_one_mul];omega)
   rwa [← Nat.add_assoc] at this
  ·rintro b o p (q | q)
   ·exact hap b o q (dA b o p)
   ·exact a1 b o p (k2 b o q)
  ·rintro b o (p | p) q
   ·exact hap b o p (dB b o q)
   ·exact a3 b o (k2 b o p) q
 ·rintro j hj (p | (p | p) | p)
  ·exact g2 j hj (s1 _ _ p)
  ·exact hap _ _ p (dC j hj)
  ·exact g2 j hj (s2 _ _ (k2 _ _ p))
  ·exact g2 j hj (s3 _ _ p)
 ·rintro b o (p | (p | p) | p)
  ·exact .inr (dA b o p)
  ·exact .inl p
  ·exact .inr (d1 b o p)
  ·exact .inr (dB b o p)
end
section
variable{P:Program}{Q:Exit→Act→World→Prop}
variable{w0:World}{F0 Z0:Reg}{n:Frm}{s s':St}{a a':Act}{w w':World}{ι ι':Nat→OI}{Z Z':Reg}
variable{E:Env}{ρ : Type}{r : ρ}
theorem eval_put_same(a:Act){d:Nat}(v:Value)(hd:d<a.tmps.size):(a.put (some d) v).eval (.tmp d)=v:=by
 show(a.tmps.setIfInBounds d v).getD d undef=v
 rw [getD_put _ _ _ _ hd,if_pos rfl]
theorem eval_put_other(a:Act){d k:Nat}(v:Value)(hd:d<a.tmps.size)(hk:d≠k):(a.put (some d) v).eval (.tmp k)=a.eval (.tmp k):=by
 show(a.tmps.setIfInBounds d v).getD k undef=a.tmps.getD k undef
 rw [getD_put _ _ _ _ hd,if_neg hk]
theorem size_put(a:Act)(d:Nat)(v:Value):(a.put (some d) v).tmps.size=a.tmps.size:=by
 show(a.tmps.setIfInBounds d v).size=_
 simp
theorem take_open{u t:Ty}{dp:List (Nat×Nat)}{p:Place}{xs:List u.D}{v:Value}{x0:List t.D}{s0:St}(h:Inv w0 F0 Z0 n s a w ι Z)(hc:CellRep w Z s ι (.lst u dp (some p) xs) v)
  (hl:lendOrg t t.own s dp (some p)=some (x0,s0)) :
  ∃(i:Nat) (T:Ty) (ver:Nat) (ys:List T.D) (b0 o0:Nat) (H1:Reg),p.ei=some i∧s.o p.id=.row T T.own ver ys∧s0=s.putO p.id (.lent (.row T T.own ver ys))∧i<ys.length∧(ι p.id).base=some (at_ b0 o0) ∧
   Inv w0 F0 Z0 n s0 a w ι Z∧Gives s ι Z s0 Z∧Free w0 F0 s0 w ι Z H1∧Free w0 F0 s0 w ι Z (Reg.diff (ι p.id).F H1)∧(Ty.sl t).Rep w Z (.O t.own) x0 [v] H1∧Reg.sub H1 (ι p.id).F ∧
   Reg.diff (ι p.id).F H1 b0 (o0+i*T.size+p.off)∧WrR w T.size b0 (o0+i*T.size+p.off) ∧
   ∀(w2:World) (Z2 X:Reg) (y:List t.D) (x':T.D) (q:Value),Same w w2 (fun b o=>Reg.diff (ι p.id).F H1 b o∧¬(b=b0∧o=o0+i*T.size+p.off))→w2.cell? (at_ b0 (o0+i*T.size+p.off))=some q →
    WrR w2 T.size b0 (o0+i*T.size+p.off)→(Ty.sl t).Rep w2 Z2 (.O t.own) y [q] X→Reg.apart X (Reg.diff (ι p.id).F H1)→T.setAt p.off t y (gd T ys i)=some x' →
    OwnRow w2 (T.Rep w2 Z2 T.own) T.size (ys.set i x') (at_ b0 o0) (ι p.id).cap (X.or (Reg.diff (ι p.id).F H1)):=by
 simp only [lendOrg] at hl
 cases hei:p.ei with
 | none=>rw [hei] at hl;simp at hl
 | some i =>
  rw [hei] at hl
  cases ho:s.o p.id with
  | row T em ver ys =>
   rw [ho] at hl
   simp only at hl
   cases hb:(alive s dp&&Md.beq em T.own&&Md.beq t.own t.own)
   ·rw [hb] at hl;simp at hl
   rw [hb] at hl
   simp only [cond_true] at hl
   simp only [Bool.and_eq_true] at hb
   obtain rfl:=Md.eq_of_beq _ _ hb.1.2
   obtain ⟨x,hx,hl⟩:=obi hl
   simp only [Option.some.injEq,Prod.mk.injEq] at hl
   obtain ⟨rfl,rfl⟩:=hl
   obtain ⟨_,_,_,horg⟩:=hc
   obtain ⟨_,horg⟩:=horg _ rfl
   obtain ⟨b1,o1,⟨_,hpl⟩,hcell,hin⟩:=horg hb.1.1
   simp only [ho,LObj.core] at hpl
   obtain ⟨i',hii,hilt,a0,hbase,ha0⟩:=hpl
   rw [hei] at hii
   obtain rfl:=osj hii
   have hlive:(s.o p.id).live:=by rw [ho];trivial
   have hg:Gives s ι Z (s.putO p.id (.lent (.row T T.own ver ys))) Z:=by have:=gives_lend (s:=s) (ι := ι) (Z:=Z) hlive;rw [ho] at this;exact this
   have hfree:Free w0 F0 (s.putO p.id (.lent (.row T T.own ver ys))) w ι Z (ι p.id).F:=by have:=h.lent_free hlive;rw [ho] at this;exact this
   have hobj:=h.objs p.id
   rw [ho] at hobj
   rcases hobj with⟨hx0,_⟩ | ⟨a1,hb1,hr⟩
   ·rw [hx0] at hilt;simp at hilt
   rw [hbase] at hb1
   obtain rfl:=osj hb1
   obtain ⟨ab,ao,sp⟩:=a0
   have hsp:=hr.spot
   simp only at hsp
   subst hsp
   obtain ⟨v',H1,l1,l2,l3,l5,l6,l4⟩:=hr.lens2 hilt hx
   rw [← ha0] at l1
   have hvv:v'=v:=by rw [hcell] at l1;exact(osj l1).symm
   subst hvv
   exact⟨i,T,ver,ys,ab,ao,H1,rfl,rfl,rfl,hilt,hbase,h.gives hg,hg,hfree.sub l3,hfree.sub fun _ _ h=>h.1,l2,l3,l5,l6,l4⟩
  | _=>rw [ho] at hl;simp at hl
theorem idxK_some{v:TV}{K:Place→Option ρ}(hk:idxK s v K=some r):∃p0,K p0=some r∧∀ {w':World} {Z':Reg} {s':St} {ι':Nat→OI} {x:Value},TVRep w' Z' s' ι' v x→∃A,x=.pointer (some A)∧PlaceAt s' ι' p0 A:=by
 unfold idxK at hk
 cases v <;> simp only at hk <;> try (cases hk;done)
 ·exact⟨_,hk,fun hv=>by simp only [TVRep] at hv;exact hv.2⟩
 ·obtain ⟨k,h1,hk⟩:=obi hk
  obtain ⟨h2,rfl⟩:=ix_some' h1
  refine⟨_,hk,fun hv=>?_⟩
  simp only [TVRep] at hv
  rcases hv.2 with⟨h3,_⟩ | ⟨_,h3⟩
  ·omega
  ·exact h3
set_option maxHeartbeats 1000000 in
theorem takeK_sound{o:Oper}{l:List Oper}{K:St→Option ρ}(hO:Ok P E)(hn:E.n=n)(h:Inv w0 F0 Z0 n s a w ι Z)(hk:takeK E s o l K=some r) :
  ∃o1 o2 o3 l',l=o1 :: o2 :: o3 :: l'∧o.guard=none∧o1.guard=none∧o2.guard=none∧o3.guard=none ∧
   o.wp P a w (fun a w=>o1.wp P a w (fun a w=>o2.wp P a w (fun a w=>o3.wp P a w (fun a w=>∃s',K s'=some r∧Stands w0 F0 Z0 n s' a w) Q) Q) Q) Q:=by
 unfold takeK at hk
 split at hk
 case h_2=>cases hk
 rename_i o1 o2 o3 l'
 refine⟨o1,o2,o3,l',rfl,?_⟩
 split at hk
 case h_2=>cases hk
 rename_i c k1 ty2 e1 fld ty3 e2 e0 ho ho1 ho2 ho3
 split at hk
 case h_2=>cases hk
 rename_i fo d0 d1 d2 hc hd0 hd1 hd2
 cases hb:takeOk E o o1 o2 o3 k1 e1 e2 e0 d0 d1 d2
 ·rw [hb] at hk;cases hk
 rw [hb] at hk
 simp only [cond_true] at hk
 unfold takeOk at hb
 simp only [Bool.and_eq_true,Bool.not_eq_true',Option.isNone_iff_eq_none] at hb
 obtain ⟨q0,q1,q2,q3,q4,q5,g0,g1,g2,g3,q6,q7,q8,q9⟩:=hb
 obtain rfl:=Nat.eq_of_beq_eq_true q0
 obtain rfl:=Nat.eq_of_beq_eq_true q1
 obtain rfl:=Nat.eq_of_beq_eq_true q2
 have q3:k1≠d0:=Nat.ne_of_beq_eq_false q3
 have q4:d0≠d1:=Nat.ne_of_beq_eq_false q4
 have q5:d0≠d2:=Nat.ne_of_beq_eq_false q5
 have q7:d0<n.n:=by rw [← hn];exact Nat.le_of_ble_eq_true q7
 have q8:d1<n.n:=by rw [← hn];exact Nat.le_of_ble_eq_true q8
 have q9:d2<n.n:=by rw [← hn];exact Nat.le_of_ble_eq_true q9
 refine⟨g0,g1,g2,g3,?_⟩
 split at hk
 case h_2=>cases hk
 rename_i g ts t hfo hty2 hty3
 split at hk
 case h_2=>cases hk
 rename_i e k u p hfns hoff horg
 obtain ⟨p0,hk,hptr0⟩:=idxK_some hk
 cases hpl:(!(Nat.beq u.size 0)&&(Nat.beq p0.id p.id&&Nat.beq (p0.off+k) p.off))
 ·rw [hpl] at hk;cases hk
 rw [hpl] at hk
 simp only [cond_true] at hk
 simp only [Bool.and_eq_true,Bool.not_eq_true'] at hpl
 obtain ⟨hz,hp1,hp2⟩:=hpl
 have hz:u.size≠0:=Nat.ne_of_beq_eq_false hz
 have hp1:p0.id=p.id:=Nat.eq_of_beq_eq_true hp1
 have hp2:p0.off+k=p.off:=Nat.eq_of_beq_eq_true hp2
 split at hk
 case h_2=>cases hk
 rename_i i0' j0' hei0 hei9
 cases hp3:Nat.beq i0' j0'
 ·rw [hp3] at hk;cases hk
 rw [hp3] at hk
 simp only [cond_true] at hk
 have hvs:=opds_rep' h c.args.toList
 have hf:=opd_rep h fo
 rw [hfo] at hf
 simp only [TVRep] at hf
 obtain ⟨fs,cs,hfv,hfs,hcs⟩:=hf
 simp only [TVsRep] at hfs hcs
 subst hfs hcs
 cases hvs0:c.args.toList.map (opd s) with
 | nil=>rw [hvs0] at horg;cases horg
 | cons v0 vs' =>
  rw [hvs0] at horg hk hvs
  cases v0 with
  | sc c0 =>
   cases c0 with
   | lst tl dp og xs =>
    simp only [orgOf] at horg
    subst horg
    simp only [TVsRep] at hvs
    obtain ⟨u0,us',hus,hc0,hvs'⟩:=hvs
    simp only [TVRep] at hc0
    rw [hvs0] at hfns
    obtain ⟨ps,rs,f⟩:=e
    cases hm:marshTake (fnKey (TV.sc (HC.lst tl dp (some p) xs) :: vs')) s t ps (TV.sc (HC.lst tl dp (some p) xs) :: vs'++fnCaps (TV.sc (HC.lst tl dp (some p) xs) :: vs')) with
    | none=>rw [hm] at hk;cases hk
    | some X =>
     obtain ⟨x,s1,bs⟩:=X
     rw [hm] at hk
     simp only at hk
     cases hal:(alive s1 bs&&noUnd (TV.sc (HC.lst tl dp (some p) xs) :: vs'))
     ·rw [hal] at hk;cases hk
     rw [hal] at hk
     simp only [cond_true] at hk
     simp only [Bool.and_eq_true] at hal
     obtain ⟨hal,hnu⟩:=hal
     obtain ⟨rr,hrr,hk⟩:=obi hk
     obtain ⟨y,hy,hk⟩:=obi hk
     obtain ⟨s4,hbk,hk⟩:=obi hk
     have hsound:=hO.fns g _ _ hfns
     cases ps with
     | nil=>simp [marshTake] at hm
     | cons sp ps =>
      cases sp with
      | val T m =>
       cases T with
       | sl t' =>
        simp only [List.cons_append,marshTake] at hm
        cases hmb:(Md.beq m (.O t'.own)&&(Ty.beq t t'&&noLend ps))
        ·rw [hmb] at hm;cases hm
        rw [hmb] at hm
        simp only [cond_true] at hm
        simp only [Bool.and_eq_true] at hmb
        obtain ⟨hm1,hm2,hm3⟩:=hmb
        obtain rfl:=Md.eq_of_beq _ _ hm1
        obtain rfl:=Ty.eq_of_beq _ _ hm2
        obtain ⟨⟨x0,s0⟩,hlo,hm⟩:=obi hm
        obtain ⟨q,hq,hm⟩:=obi hm
        obtain ⟨q1,s1',bs'⟩:=q
        simp only [Option.some.injEq,Prod.mk.injEq] at hm
        obtain ⟨rfl,rfl,rfl⟩:=hm
        obtain ⟨i,T,ver,ys,b0,o0,H1,hei,hop,hs0,hilt,hbase,i0,gv0,fH1,fHd,rep0,subH1,hdH,hwr0,wand⟩:=take_open h hc0 hlo
        have hop0:s0.o p.id=.lent (.row T T.own ver ys):=by rw [hs0];exact upd_same _ _ _
        have hcaps:TVsRep w Z s ι (fnCaps (TV.sc (HC.lst tl dp (some p) xs) :: vs')) (capsV (u0 :: us')):=caps_rep hnu (by simp only [TVsRep];exact⟨u0,us',rfl,by simpa only [TVRep] using hc0,hvs'⟩)
        have hu0:∃A m' c',u0=.slice A m' c':=hc0.2.1
        obtain ⟨j1,j2,Z1,i1,gv1,ar1,_,fF2,_,_,_,okd,src⟩:=marsh_sound ps _ _ s0 Z [] _ hq i0 (TVsRep.move gv0.moves (hvs'.append hcaps)) (by simp)
        simp only at i1 gv1 ar1 fF2 okd src
        have fH1':=fH1.give gv1
        have fHd':=fHd.give gv1
        have hlive:=alive_live hal
        have fF:Free w0 F0 s1 w ι Z1 (H1.or j1):=fH1'.or fF2
        have hsrcF:∀ {X:Reg},Free w0 F0 s0 w ι Z X→∀b o,X b o→j1 b o→False:=by
         intro X hX b o hx hj
         obtain ⟨id,hl,hf⟩:=src b o (.inl hj)
         exact hX.apart id hl b o hx hf
        have hA:ArgRep w (Z1.or (depF ι bs)) (fnKey (TV.sc (HC.lst tl dp (some p) xs) :: vs')) (.val (.sl t) (.O t.own) :: ps) (x0,q1) (c.args.toList.map a.eval++capsV (c.args.toList.map a.eval)) (H1.or j1):=by
         rw [hus]
         exact⟨[u0],us'++capsV (u0 :: us'),H1,j1,rfl,Ty.Rep.mono (fun b o hz=>.inl (gv1.zsub b o hz)) _ _ (fun _ _ h=>h) rep0,ar1,fun b o x y=>hsrcF fH1 b o x y,fun _ _ h=>.inl h,fun _ _ h=>.inr h⟩
        obtain ⟨rfl,rfl⟩:∃e:rs=[.val (.sl t) (.O t.own)],y=(e ▸ rr:(RSpec.outs [.val (.sl t) (.O t.own)] (PSpec.muts (.val (.sl t) (.O t.own) :: ps))).D).1:=by
         cases rs with
         | nil=>simp [resTake] at hy
         | cons r0 rs =>
          cases r0 with
          | val u2 m2 =>
           cases rs with
           | cons=>simp [resTake] at hy
           | nil =>
            simp only [resTake] at hy
            cases hmm:Md.beq m2 (.O t.own)
            ·rw [hmm] at hy;cases hy
            rw [hmm] at hy
            obtain rfl:=Md.eq_of_beq _ _ hmm
            obtain ⟨e,rfl⟩:=castD_some hy
            subst e
            exact⟨rfl,rfl⟩
          | _=>simp [resTake] at hy
        have hcall:=hsound.calls w (Z1.or (depF ι bs)) (H1.or j1) (x0,q1) (c.args.toList.map a.eval) rr
         (by
          rintro b o (hz | ⟨d,hd,hf⟩)
          ·exact i1.zin b o hz
          ·exact(i1.own d.1 (hlive d hd) b o hf).2)
         (fun b o hf=>(fF.own b o hf).2)
         (by
          rintro b o hf (hz | hz)
          ·exact fF.apartZ b o hf hz
          ·exact fF.depF hlive b o hf hz) hA hrr
        suffices key:∀(v':Value) (w':World),Ends w (Z1.or (depF ι bs)) (H1.or j1) ⟨.val (.sl t) (.O t.own) :: ps,[.val (.sl t) (.O t.own)],f⟩ (c.args.toList.map a.eval) rr v' w' →
          o1.wp P (a.put o.dst v') w' (fun a w=>o2.wp P a w (fun a w=>o3.wp P a w (fun a w=>∃s',K s'=some r∧Stands w0 F0 Z0 n s' a w) Q) Q) Q by
         unfold Oper.wp
         have hrun:(execOp a.eval o).run P w=(callFunc g (c.args.toList.map a.eval).toArray).run P w:=by
          unfold execOp;rw [ho]
          simp only [run_bind,resolve,hc,hfv,Deferred.ofValue,run_pure,invoke]
          congr 2
          apply Array.ext'
          simp
         rw [hrun]
         rcases hcall with⟨⟨fn,hfn,hbody,hname⟩,hcall⟩ | ⟨u9,w',hval,u',hu',hu⟩
         ·have hen:(callFunc g (c.args.toList.map a.eval).toArray).run P w=.ok (.enter g (c.args.toList.map a.eval).toArray) w:=by
           simp only [callFunc,run_bind,run_pure,program,Sem.run,hfn]
           rw [if_neg (by rw [hname];simp),if_neg (by rw [hbody];simp)]
           simp only [run_pure]
          rw [hen,Oper.upon_enter]
          refine hcall.mono ?_
          rintro e9 w' ⟨v9,rfl,hu⟩
          exact key v9 w' hu
         ·rw [hval,Oper.upon_value]
          cases hu'
          exact key _ w' hu
        rintro v' w' ⟨⟨rvs,Z',F',rfl,hx,hz1,hz2,hf2,ha2,hres⟩⟩
        simp only [ResRep] at hres
        obtain ⟨vs1,rvs',G,Hh,rfl,hrep,⟨rfl,_⟩,_,hGF,_⟩:=hres
        have hrep2:=hrep
        simp only [Ty.Rep] at hrep2
        obtain ⟨A,c9,rfl,_⟩:=hrep2
        obtain ⟨hv,hhv⟩:∃hv,hv=Value.slice A rr.1.length c9:=⟨_,rfl⟩
        rw [← hhv] at hrep
        rw [show retV [wrapV (.sl t) [Value.slice A rr.1.length c9]]=hv from hhv.symm]
        have hcl:hv.cells = #[hv]:=by rw [hhv];rfl
        have hone:oneC hv=true:=by rw [hhv];rfl
        have hsz:=h.size
        have j1x:Inv w0 F0 Z0 n s1 a w' ι Z1:=i1.scribble fF hx
        have j2x:Inv w0 F0 Z0 n (s1.set d0 .und) (a.put (some d0) hv) w' ι Z1:=j1x.set (by simp only [TVRep]) q7
        rw [hd0]
        have ht1:s1.t=s.t:=gv1.t.trans gv0.t
        have hos1:s1.o p.id=.lent (.row T T.own ver ys):=by
         rcases gv1.o p.id with h1 | ⟨h1,_⟩
         ·rw [h1,hop0]
         ·rw [hop0] at h1;exact h1.elim
        have hptr:=j2x.tmps k1
        rw [show(s1.set d0 .und).t k1=s.t k1 from by show upd s1.t d0 _ k1=_;rw [upd_ne (Ne.symm q3),ht1]] at hptr
        obtain ⟨A0,he0,hsp,hpa⟩:=hptr0 hptr
        rw [hp1,show(s1.set d0 .und).o p.id=s1.o p.id from rfl,hos1] at hpa
        simp only [LObj.core] at hpa
        obtain ⟨i',hii,_,a0,hb0,hA0⟩:=hpa
        rw [hii] at hei0
        rw [hei] at hei9
        obtain rfl:=osj hei0
        obtain rfl:=osj hei9
        obtain rfl:=Nat.eq_of_beq_eq_true hp3
        rw [hbase] at hb0
        obtain rfl:=osj hb0
        subst hA0
        have hn1:(a.put (some d0) hv).tmps.size=n.n:=by rw [size_put];exact hsz
        have hrun1:(execOp (a.put (some d0) hv).eval o1).run P w'=.ok (.value (.pointer (some (at_ b0 (o0+i'*T.size+p0.off))))) w':=by
         have:(a.put (some d0) hv).eval (.tmp k1)=.pointer (some (at_ b0 (o0+i'*T.size+p0.off))):=he0
         unfold execOp;rw [ho1];simp only [this];rfl
        unfold Oper.wp
        rw [hrun1,Oper.upon_value,hd1]
        obtain ⟨a2,ha2'⟩:∃a2,a2=(a.put (some d0) hv).put (some d1) (.pointer (some (at_ b0 (o0+i'*T.size+p0.off)))):=⟨_,rfl⟩
        rw [← ha2']
        have hn2:a2.tmps.size=n.n:=by rw [ha2',size_put];exact hn1
        have he2:a2.eval (.tmp d1)=.pointer (some (at_ b0 (o0+i'*T.size+p0.off))):=by rw [ha2'];exact eval_put_same _ _ (by rw [hn1];exact q8)
        have he2v:a2.eval (.tmp d0)=hv:=by rw [ha2',eval_put_other _ _ (by rw [hn1];exact q8) (Ne.symm q4)];exact eval_put_same _ _ (by rw [hsz];exact q7)
        obtain ⟨pos,hpos⟩:∃pos,pos=o0+i'*T.size+p.off:=⟨_,rfl⟩
        rw [← hpos] at hdH hwr0 wand
        have hrun2:(execOp a2.eval o2).run P w'=.ok (.value (.pointer (some (at_ b0 pos)))) w':=by
         obtain ⟨fs,hu,hfs⟩:=st_ok (hO.ty.ty ty2 _ hty2)
         obtain ⟨fl,h1,h2,h3⟩:=Tys.off_ok hfs hoff
         rw [Array.getElem?_toList] at h1
         unfold execOp;rw [ho2]
         refine run_v ?_
         simp only [Instr.fieldAt,run_bind,run_underlying hu,h1,Instr.sureAddr,he2,run_pure,run_fieldPlace h3 hz,h2,Nat.zero_add]
         rw [hpos,← hp2,Nat.add_assoc]
        rw [hrun2,Oper.upon_value,hd2]
        obtain ⟨a3,ha3⟩:∃a3,a3=a2.put (some d2) (.pointer (some (at_ b0 pos))):=⟨_,rfl⟩
        rw [← ha3]
        have he3:a3.eval (.tmp d2)=.pointer (some (at_ b0 pos)):=by rw [ha3];exact eval_put_same _ _ (by rw [hn2];exact q9)
        have he3v:a3.eval (.tmp d0)=hv:=by rw [ha3,eval_put_other _ _ (by rw [hn2];exact q9) (Ne.symm q5)];exact he2v
        have j3:Inv w0 F0 Z0 n (((s1.set d0 .und).set d1 .und).set d2 .und) a3 w' ι Z1:=by
         rw [ha3,ha2']
         exact(j2x.set (by simp only [TVRep]) q8).set (by simp only [TVRep]) q9
        have hwr1:WrR w' T.size b0 pos:=hx.wrR hwr0
        have hrun3:(execOp a3.eval o3).run P w'=.ok .skip (setCells w' b0 pos [hv]):=by
         unfold execOp;rw [ho3]
         have:=run_storeVar (P:=P) (w:=w') (hO.ty.ty ty3 _ hty3) (b:=b0) (o:=pos) (v:=hv) (by rw [hcl];rfl) (by rw [hcl];intro u hu;simp at hu;rw [hu];exact hone) (fun j hj=>by
          rw [hcl] at hj
          have:j=0:=by simp at hj;omega
          subst this;exact hwr1.1)
         rw [hcl] at this
         simp only [Instr.storeAt,Instr.sureAddr,he3,he3v,run_bind,run_pure,this]
        have hG1:Reg.sub G F':=hGF
        have fHd1:Free w0 F0 (((s1.set d0 .und).set d1 .und).set d2 .und) w' ι Z1 (Reg.diff (ι p.id).F H1):=⟨(fHd'.ext hx).own,(fHd'.ext hx).apart,(fHd'.ext hx).apartZ⟩
        have hGHd:Reg.apart G (Reg.diff (ι p.id).F H1):=by
         intro b o hg hd
         rcases (hf2 b o (hG1 b o hg)).1 with(hf | hf) | hf
         ·exact hd.2 hf
         ·exact hsrcF fHd b o hd hf
         ·have:=(fHd'.own b o hd).2;omega
        have fG:Free w0 F0 (((s1.set d0 .und).set d1 .und).set d2 .und) w' ι Z1 G:=by
         have hsz2:=i1.ext.size
         refine⟨fun b o hg=>⟨?_,(hf2 b o (hG1 b o hg)).2⟩,fun id hl b o hg hi=>?_,fun b o hg hz=>?_⟩
         ·rcases (hf2 b o (hG1 b o hg)).1 with hf | hf
          ·exact(fF.own b o hf).1
          ·exact .inr (by omega)
         ·rcases (hf2 b o (hG1 b o hg)).1 with hf | hf
          ·exact fF.apart id hl b o hf hi
          ·have:=(i1.own id hl b o hi).2;omega
         ·rcases (hf2 b o (hG1 b o hg)).1 with hf | hf
          ·exact fF.apartZ b o hf hz
          ·have:=i1.zin b o hz;omega
        obtain ⟨w3,hw3⟩:∃w3,w3=setCells w' b0 pos [hv]:=⟨_,rfl⟩
        rw [← hw3] at hrun3
        have hx3:Ext w' w3 (Reg.run b0 pos 1):=by
         rw [hw3]
         exact setCells_ext b0 [hv] w' pos fun j hj=>by
          have:j=0:=by simp at hj;omega
          subst this;exact⟨rfl,by omega,by omega⟩
        have hrunHd:Reg.sub (Reg.run b0 pos 1) (Reg.diff (ι p.id).F H1):=by
         rintro b o ⟨rfl,k2,k3⟩
         rw [show o=pos by omega];exact hdH
        have j4:Inv w0 F0 Z0 n (((s1.set d0 .und).set d1 .und).set d2 .und) a3 w3 ι Z1:=j3.scribble (fHd1.sub hrunHd) hx3
        have hcell3:w3.cell? (at_ b0 pos)=some hv:=by
         rw [hw3,setCells_cell b0 [hv] w' pos (fun j hj=>by
          have:j=0:=by simp at hj;omega
          subst this;exact hwr1.1.1),if_pos ⟨rfl,by omega,by simp⟩]
         simp
        have hsame3:Same w' w3 G:=Same.of_ext hx3 (fun b o hg=>(fG.own b o hg).2) fun b o hg hr=>hGHd b o hg (hrunHd b o hr)
        have hrep3:(Ty.sl t).Rep w3 Z1 (.O t.own) rr.1 [hv] G:=own_same (.sl t) hsame3 hrep
        have hsameHd:Same w w3 (fun b o=>Reg.diff (ι p.id).F H1 b o∧¬(b=b0∧o=pos)):=by
         refine Same.trans (b:=w') (Same.of_ext hx (fun b o hb=>(fHd'.own b o hb.1).2) ?_) (Same.of_ext hx3 (fun b o hb=>(fHd1.own b o hb.1).2) ?_)
         ·rintro b o ⟨hd,_⟩ (hf | hf)
          ·exact hd.2 hf
          ·exact hsrcF fHd b o hd hf
         ·rintro b o ⟨_,hne⟩ ⟨rfl,k2,k3⟩
          exact hne ⟨rfl,by omega⟩
        have hos3:(((s1.set d0 .und).set d1 .und).set d2 .und).o p.id=.lent (.row T T.own ver ys):=hos1
        simp only [backOrg,hei] at hbk
        rw [hos3] at hbk
        simp only at hbk
        obtain ⟨z,hz9,hbk⟩:=obi hbk
        obtain rfl:=osj hbk
        obtain ⟨ι4,j5,_⟩:=readopt_back j4 (id:=p.id) (o:=.row T T.own (ver+1) (ys.set i' z)) (i:=⟨(ι p.id).base,(ι p.id).cap,G.or (Reg.diff (ι p.id).F H1)⟩) (by rw [hos3];exact fun h=>h) (fun o'=>by simp) (by rw [hos3];exact .backR _ _ _ _ _ _ _ _ _ (by omega) (by simp) rfl rfl)
         (fun hm=>.inr ⟨at_ b0 o0,hbase,wand w3 Z1 G rr.1 z hv hsameHd hcell3 (hx3.wrR hwr1) hrep3 hGHd hz9⟩) ((fG.ext hx3).or (fHd1.ext hx3))
        refine Oper.wp_mono (fun a w hs=>⟨_,hk,?_⟩) (wp_skip hrun3 j5 (fun k hk=>by rw [q6] at hk;cases hk))
        rw [q6] at hs
        exact hs
       | _=>simp [marshTake] at hm
      | _=>simp [marshTake] at hm
   | _=>simp [orgOf] at horg
  | _=>simp [orgOf] at horg
end
end Go.LM
