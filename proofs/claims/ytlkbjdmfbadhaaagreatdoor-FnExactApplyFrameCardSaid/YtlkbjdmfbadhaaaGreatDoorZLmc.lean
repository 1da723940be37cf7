/- Calls are what the interpreter says. Conditions: each theorem's own hypotheses. -/
import Derived.Test.YtlkbjdmfbadhaaaGreatDoorZLmb
set_option linter.unusedVariables false
set_option linter.defProp false
set_option linter.unusedSimpArgs false
namespace Go.LM
def fI:List Value->List Value
 | []=>[]
 |.func _ a b::l=>a.toList++b.toList++fI l
 |_::l=>fI l
def fV(w:World)(Z:ae)(key:Nat):(ps:List bt)->(bt.ins ps).D->List Value->ae->Prop
 | [],_,us,_=>us=[]
 |.fn kK m0::ps,x,us,F=>∃a b d,us=.func (.func key) a b::d/\(a.size=kK/\b.size=m0)/\fV w Z key ps x d F
 |.val t m::ps,x,us,F=>∃vs d G H,us=c8 t vs::d/\t.al w Z m x.1 vs G/\fV w Z key ps x.2 d H/\ae.apart G H/\ae.sub G F/\ae.sub H F
 |.gJ t::ps,x,us,F=>∃vs d G H,us=c8 t vs::d/\t.al w Z .R x.1 vs G/\fV w Z key ps x.2 d H/\ae.apart G H/\ae.sub G F/\ae.sub H F
 |.gu t m::ps,x,us,F=>∃vs d G H,us=c8 t vs::d/\t.al w Z m x.1 vs G/\fV w Z key ps x.2 d H/\ae.apart G H/\ae.sub G F/\ae.sub H F
 |.ref t::ps,x,us,F=>∃b o vs d,us=.pointer (some (at_ b o))::d/\bV w b o vs/\t.al w Z .R x.1 vs ae.none/\(∀j,j<t.size->Z b (o+j))/\fV w Z key ps x.2 d F
 |.mut t m _::ps,x,us,F=>∃b o vs d G H,us=.pointer (some (at_ b o))::d/\bV w b o vs/\(∀j,j<t.size->eS w b (o+j))/\t.al w Z m x.1 vs G/\fV w Z key ps x.2 d H ∧
   ae.apart (G.or (ae.run b o t.size)) H/\ae.apart G (ae.run b o t.size)/\ae.sub (G.or (ae.run b o t.size)) F/\ae.sub H F
def hC(w:World)(Z:ae):(ps:List bt)->List Value->(bt.dP ps).D->ae->Prop
 | [],_,_,_=>True
 |.mut t _ m'::ps,us,x,F=>∃b o vs a G H,us=.pointer (some (at_ b o))::a/\bV w b o vs/\t.al w Z m' x.1 vs G/\hC w Z ps a x.2 H ∧
   ae.apart (G.or (ae.run b o t.size)) H/\ae.apart G (ae.run b o t.size)/\ae.sub (G.or (ae.run b o t.size)) F/\ae.sub H F
 |.gu t m::ps,us,x,F=>∃vs a G H,us=c8 t vs::a/\t.al w Z m x.1 vs G/\hC w Z ps a x.2 H/\ae.apart G H/\ae.sub G F/\ae.sub H F
 |.val _ _::ps,us,x,F=>∃d a,us=d::a/\hC w Z ps a x F
 |.gJ _::ps,us,x,F=>∃d a,us=d::a/\hC w Z ps a x F
 |.ref _::ps,us,x,F=>∃d a,us=d::a/\hC w Z ps a x F
 |.fn _ _::ps,us,x,F=>∃d a,us=d::a/\hC w Z ps a x F
def HG(w:World)(us:List Value)(a off size:Nat)(x:Int)(v:Value):Prop:=
 (x<0/\v=.pointer none)\/(0<=x/\∃b o d e n c,us[a]?=some (.pointer (some (at_ b o)))/\w.cell? (at_ b (o+off))=some (.slice (some (at_ d e)) n c)/\x.toNat<n/\v=.pointer (some (at_ d (e+x.toNat*size))))
def gW(w:World)(Z:ae)(ps:List bt)(us:List Value):(rs:List cN)->(cN.outs rs (bt.dP ps)).D->List Value->ae->Prop
 | [],x,dg,F=>dg=[]/\hC w Z ps us x F
 |.val t m::rs,x,dg,F=>∃vs d G H,dg=c8 t vs::d/\t.al w Z m x.1 vs G/\gW w Z ps us rs x.2 d H/\ae.apart G H/\ae.sub G F/\ae.sub H F
 |.opt a off t::rs,x,dg,F=>∃v d,dg=v::d/\HG w us a off t.size x.1 v/\gW w Z ps us rs x.2 d F
 |.any t::rs,x,dg,F=>∃v d,dg=v::d/\(v.cells.toList.length=t.size/\∀g∈v.cells.toList,dD g=true)/\gW w Z ps us rs x d F
 |.m1 t::rs,x,dg,F=>∃v d,dg=v::d/\((x.1=[]/\v=.pointer none)\/∃e b o vs,x.1=[e]/\v=.pointer (some (at_ b o))/\bV w b o vs/\t.al w Z .R e vs ae.none/\∀j,j<t.size->Z b (o+j))/\gW w Z ps us rs x.2 d F
 |.new t m::rs,x,dg,F=>∃b o vs d G H,dg=.pointer (some (at_ b o))::d/\bV w b o vs/\(∀j,j<t.size->eS w b (o+j))/\t.al w Z m x.1 vs G/\gW w Z ps us rs x.2 d H ∧
   ae.apart (G.or (ae.run b o t.size)) H/\ae.apart G (ae.run b o t.size)/\ae.sub (G.or (ae.run b o t.size)) F/\ae.sub H F
def mm:List Value->Value
 | [v]=>v
 |l=>.tuple l.toArray
structure Ends(w:World)(Z F:ae)(e:Entry)(us:List Value)(r:(cN.outs e.rs (bt.dP e.ps)).D)(v:Value)(w':World):Prop where
 out:∃dg Z' F',v=mm dg/\Ext w w' F/\ae.sub Z Z'/\(∀b o,Z' b o->Z b o\/((F b o\/w.heap.size<=b)/\b<w'.heap.size))/\(∀b o,F' b o->(F b o\/w.heap.size<=b)/\b<w'.heap.size) ∧
  ae.apart F' Z'/\gW w' Z' e.ps (us++fI us) e.rs r dg F'
structure Sound(P:Program)(f:FuncId)(key:Nat)(e:Entry):Prop where
 fn:∃fn,P.funcs[f]?=some fn/\fn.body.isNone=false/\(fn.name == "runtime.NumGoroutine")=false
 calls:∀(w:World) (Z F:ae) (x:(bt.ins e.ps).D) (us:List Value) (r:(cN.outs e.rs (bt.dP e.ps)).D),
  (∀b o,Z b o->b<w.heap.size)->(∀b o,F b o->b<w.heap.size)->ae.apart F Z->fV w Z key e.ps x (us++fI us) F->e.f x=some r →
  Calls P f us.toArray w fun end_ w'=>∃v,end_=.returned v/\Ends w Z F e us r v w'
def uq(P:Program)(f:FuncId)(us:Array Value)(w:World)(R:Ending->World->Prop):Prop:=
 ((∃fn,P.funcs[f]?=some fn/\fn.body.isNone=false/\(fn.name == "runtime.NumGoroutine")=false)/\Calls P f us w R)\/∃v w',(callFunc f us).run P w=.ok (.value v) w'/\R (.returned v) w'
structure gR(P:Program)(f:FuncId)(key:Nat)(e:Entry):Prop where
 calls:∀(w:World) (Z F:ae) (x:(bt.ins e.ps).D) (us:List Value) (r:(cN.outs e.rs (bt.dP e.ps)).D),
  (∀b o,Z b o->b<w.heap.size)->(∀b o,F b o->b<w.heap.size)->ae.apart F Z->fV w Z key e.ps x (us++fI us) F->e.f x=some r →
  uq P f us.toArray w fun end_ w'=>∃v,end_=.returned v/\Ends w Z F e us r v w'
def Sound.x{P:Program}{f:FuncId}{key:Nat}{e:Entry}(h:Sound P f key e):gR P f key e:=
 ⟨fun w Z F x us r h1 a b d g=>.inl ⟨h.fn,h.calls w Z F x us r h1 a b d g⟩⟩
instance {P:Program}{f:FuncId}{key:Nat}{e:Entry}:Coe (Sound P f key e) (gR P f key e):=⟨Sound.x⟩
section
variable{P:Program}{Q:Exit->Act->World->Prop}
variable{w0:World}{F0 Z0:ae}{n:cl}{s an:av}{a b0:Act}{w w':World}{ι a':Nat->bz}{Z Z':ae}
def fV.mono{key:Nat}(e:ae.sub Z Z'):∀(ps:List bt) {x:(bt.ins ps).D}{us:List Value}{F F':ae},ae.sub F F'->fV w Z key ps x us F->fV w Z' key ps x us F'
 | [],_,_,_,_,_,h=>h
 |.fn _ _::ps,_,_,_,_,d,h=>by obtain⟨a,b,g,h1,q,i⟩:=h;exact⟨a,b,g,h1,q,fV.mono e ps d i⟩
 |.val t m::ps,_,_,_,_,d,h=>by obtain⟨vs,g,G,H,h1,i,k,l,n,p⟩:=h;exact⟨vs,g,G,H,h1,U.al.mono e _ _ (fun _ _ h=>h) i,fV.mono e ps (fun _ _ h=>h) k,l,fun b o h=>d b o (n b o h),fun b o h=>d b o (p b o h)⟩
 |.gJ t::ps,_,_,_,_,d,h=>by obtain⟨vs,g,G,H,h1,i,k,l,n,p⟩:=h;exact⟨vs,g,G,H,h1,U.al.mono e _ _ (fun _ _ h=>h) i,fV.mono e ps (fun _ _ h=>h) k,l,fun b o h=>d b o (n b o h),fun b o h=>d b o (p b o h)⟩
 |.gu t m::ps,_,_,_,_,d,h=>by obtain⟨vs,g,G,H,h1,i,k,l,n,p⟩:=h;exact⟨vs,g,G,H,h1,U.al.mono e _ _ (fun _ _ h=>h) i,fV.mono e ps (fun _ _ h=>h) k,l,fun b o h=>d b o (n b o h),fun b o h=>d b o (p b o h)⟩
 |.ref t::ps,_,_,_,_,d,h=>by obtain⟨b,o,vs,g,h1,i,k,l,n⟩:=h;exact⟨b,o,vs,g,h1,i,U.al.mono e _ _ (fun _ _ h=>h) k,fun j r=>e _ _ (l j r),fV.mono e ps d n⟩
 |.mut t m m'::ps,_,_,_,_,d,h=>by obtain⟨b,o,vs,g,G,H,h1,i,k,l,n,p,s,u,v⟩:=h;exact⟨b,o,vs,g,G,H,h1,i,k,U.al.mono e _ _ (fun _ _ h=>h) l,fV.mono e ps (fun _ _ h=>h) n,p,s,fun b o h=>d b o (u b o h),fun b o h=>d b o (v b o h)⟩
structure fg(s:av)(ι:Nat->bz)(Z:ae)(an:av)(Z':ae):Prop where
 o:∀id,an.o id=s.o id\/((s.o id).live/\(an.o id=.dead\/an.o id=.b7 (s.o id)))
 t:an.t=s.t
 g:an.g=s.g
 dt:ae.sub Z Z'
 m4:∀b o,Z' b o->Z b o\/∃id,(s.o id).live/\¬(an.o id).live/\(ι id).F b o
def eN.kO(h:eN s ι Z an Z'):fg s ι Z an Z':=
 ⟨fun id=>(h.o id).imp (fun h=>h) fun h=>⟨h.1,.inl h.2⟩,h.t,h.g,h.dt,fun b o a=>(h.m4 b o a).imp (fun h=>h) fun⟨id,h1,d,e⟩=>⟨id,h1,by rw[d];exact g,e⟩⟩
where g:¬b9.live .dead:=fun h=>h
def fg.refl:fg s ι Z s Z:=eN.kO .refl
def fg.live(h:fg s ι Z an Z'){id:Nat}(hl:(an.o id).live):(s.o id).live/\an.o id=s.o id:=by
 rcases h.o id with h1|⟨_,h1|h1⟩
 ·exact⟨h1▸hl,h1⟩
 ·rw[h1]at hl;exact hl.elim
 ·rw[h1]at hl;exact hl.elim
def fg.trans{g:av}{bK:ae}(h:fg s ι Z an Z')(k:fg an ι Z' g bK):fg s ι Z g bK:=by
 refine⟨fun id=>?_,k.t.trans h.t,k.g.trans h.g,fun b o e=>k.dt b o (h.dt b o e),fun b o e=>?_⟩
 ·rcases k.o id with h1|⟨i,h1⟩
  ·rw[h1];exact h.o id
  ·obtain⟨a,d⟩:=h.live i;rw[d]at h1;exact .inr ⟨a,h1⟩
 ·rcases k.m4 b o e with h1|⟨id,h1,a,d⟩
  ·rcases h.m4 b o h1 with h1|⟨id,h1,a,d⟩
   ·exact .inl h1
   ·exact .inr ⟨id,h1,fun hl=>a (k.live hl).1,d⟩
  ·exact .inr ⟨id,(h.live h1).1,a,d⟩
def fg.d'(h:fg s ι Z an Z'):d_ w Z s ι w Z' an ι :=by
 refine⟨fun id=>?_,h.dt,bS.refl _ _⟩;rcases h.o id with h1|⟨a,h1|h1⟩
 ·rw[h1];exact .stay _ _
 ·rw[h1];exact .dead _ _ _
 ·rw[h1];exact .e5 _ _ a
def bD.ru{F:ae}(a:bD w0 F0 s w ι Z F)(h:fg s ι Z an Z'):bD w0 F0 an w ι Z' F:=by
 refine⟨a.own,fun id hl=>a.apart id (h.live hl).1,fun b o h1 e=>?_⟩;rcases h.m4 b o e with d|⟨id,d,_,g⟩
 ·exact a.cB b o h1 d
 ·exact a.apart id d b o h1 g
def wu{id:Nat}(hl:(s.o id).live):fg s ι Z (s.bA id (.b7 (s.o id))) Z:=by
 refine⟨fun j=>?_,rfl,rfl,fun _ _ h=>h,fun _ _ h=>.inl h⟩;by_cases a:id=j
 ·subst a;exact .inr ⟨hl,.inr (b6 _ _ _)⟩
 ·exact .inl (ca a)
def Inv.kO(h:Inv w0 F0 Z0 n s a w ι Z)(d:fg s ι Z an Z'):Inv w0 F0 Z0 n an a w ι Z':=by
 have hm:d_ w Z s ι w Z' an ι :=d.d';refine h.next hm (Ext.refl _ ae.none) (fun _ _ h=>h.elim) ?_ ?_ ?_ (fun k=>by rw[d.t];exact(h.tmps k).move hm) h.size h.defers d.g
 ·intro b o m;rcases d.m4 b o m with h1|⟨id,h1,_,g⟩
  ·exact .inl h1
  ·exact .inr (h.own id h1 b o g)
 ·intro id hl i;exact absurd ⟨(d.live hl).2,rfl⟩ i
 ·intro id hl b o h1 p;obtain⟨l,_⟩:=d.live hl;rcases d.m4 b o p with g|⟨j,g,q,r⟩
  ·exact h.cB id l b o h1 g
  ·have i:id≠j:=fun e=>q (e▸hl)
   exact h.apart id j l g i b o h1 r
def Inv.wv(h:Inv w0 F0 Z0 n s a w ι Z){id:Nat}(hl:(s.o id).live):bD w0 F0 (s.bA id (.b7 (s.o id))) w ι Z (ι id).F:=by
 refine⟨h.own id hl,fun j e=>?_,h.cB id hl⟩;have b:(bF s.o id (b9.b7 (s.o id)) j).live:=e;by_cases d:id=j
 ·subst d;rw[b6]at b;exact b.elim
 ·rw[ca d]at b;exact h.apart id j hl b d
def ur(g:Bool)(w:World)(Z:ae)(s:av)(ι:Nat->bz)(t:U)(p:Place)(u:Value)(H:ae):Prop:=
 ∃ver old b o vs,(g=true->¬(s.o p.id).live)/\(∀a,s.o p.id=.b7 a->a=.var ver old/\(ι p.id).base=some (at_ b o))/\p.eH=none/\u=.pointer (some (at_ b (o+p.off)))/\p.off+t.size<=old.length/\bG w Z s ι old vs ∧
  (∀j,j<old.length->eS w b (o+j))/\(∀j,j<old.length->(j<p.off\/p.off+t.size<=j)->H b (o+j)) ∧
  (∀(j:Nat) (v:Value),vs[j]?=some v->(j<p.off\/p.off+t.size<=j)->w.cell? (at_ b (o+j))=some v)
def uu(g:Bool)(w:World)(Z:ae)(s:av)(ι:Nat->bz)(t:U)(m:a8)(p:Place)(u:Value)(H:ae):Prop:=
 ∃ver xs i b o c a d,(g=true->¬(s.o p.id).live)/\(∀e,s.o p.id=.b7 e->e=.row t m ver xs/\(ι p.id).base=some (at_ b o)/\(ι p.id).cap=c)/\p.eH=some i/\i<xs.length/\u=.pointer (some (at_ b (o+i*t.size)))/\xs.length<=c ∧
  (∀j,j<c*t.size->fb w t.size b (o+j))/\(∀j,j<c*t.size->(j<i*t.size\/(i+1)*t.size<=j)->H b (o+j)) ∧
  Row w (t.al w Z m) t.size (xs.take i) b o a/\Row w (t.al w Z m) t.size (xs.drop (i+1)) b (o +(i+1)*t.size) d/\ae.apart a d/\ae.sub a H/\ae.sub d H ∧
  (∀j,j<c*t.size->¬a b (o+j)/\¬d b (o+j))
def Zz(g:Bool)(s:av)(ι:Nat->bz)(t:U)(e:a8)(l:Option Place)(v:Value)(H:ae)(w:World):Prop:=
 ∃(p:Place) (i:Nat) (T:U) (ver:Nat) (a:List T.D) (b o c:Nat),l=some p/\p.eH=some i/\(g=true->¬(s.o p.id).live)/\(∀h,s.o p.id=.b7 h->h=.row T T.own ver a/\(ι p.id).base=some (at_ b o)/\(ι p.id).cap=c)/\i<a.length/\e=t.own ∧
  ∀(b5:World) (bK d:ae) (j:List t.D) (k:T.D),bS w b5 H->(U.sl t).al b5 bK (.O t.own) j [v] d->ae.apart d H->T.setAt p.off t j (I T a i)=some k->iA b5 (T.al b5 bK T.own) T.size (a.set i k) (at_ b o) c (d.or H)
mutual
def cS(g:Bool)(w:World)(Z:ae)(s:av)(ι:Nat->bz):(t:U)->a8->List a7->List Value->ae->Prop
 |.sl t,.O e,cs,vs,H=>∃c v,cs=[c]/\vs=[v]/\match c with
  |.nil _=>v=.slice none 0 0
  |.aa id none=>∃ver xs A k c,(g=true->¬(s.o id).live)/\(∀a,s.o id=.b7 a->a=.row t e ver xs/\(ι id).cap=c/\Hb (ι id) t.size none xs.length A xs.length k)/\v=.slice A xs.length k ∧
    ((xs=[]/\c=0)\/∃b o,(∀a,s.o id=.b7 a->(ι id).base=some (at_ b o))/\xs.length<=c/\k<=c/\(k=0\/A=some (at_ b o))/\(∀j,j<c*t.size->fb w t.size b (o+j))/\(∀j,k*t.size<=j->j<c*t.size->H b (o+j)))
  |.bq _ _ p _=>Zz g s ι t e p v H w
  |_=>False
 |.sl _,_,_,_,_=>False
 |.st ah,m,cs,vs,H=>fl g w Z s ι ah m.parts cs vs H
 |_,_,cs,vs,_=>cs.length=1/\vs.length=1
def fl(g:Bool)(w:World)(Z:ae)(s:av)(ι:Nat->bz):(ah:aw)->cA->List a7->List Value->ae->Prop
 |.nil,_,cs,vs,_=>cs=[]/\vs=[]
 |.cons t ah,m,cs,vs,H=>∃i l v1 n d h,cs=i++l/\vs=v1++n/\cS g w Z s ι t m.aa i v1 d/\fl g w Z s ι ah m.dq l n h/\ae.apart d h/\ae.sub d H/\ae.sub h H
end
def ez(g:Bool)(w:World)(Z:ae)(s:av)(ι:Nat->bz):(ps:List bt)->List aY->List Value->ae->Prop
 | [],_,_,_=>True
 |.mut t m m'::ps,vs,us,H=>∃p a b d e h,vs=.ptr p::a/\us=b::d/\(ur g w Z s ι t p b e\/(m'=m/\m=t.own/\uu g w Z s ι t m p b e))/\ez g w Z s ι ps a d h/\ae.apart e h/\ae.sub e H/\ae.sub h H
 |.gu t m::ps,vs,us,H=>∃v a b d cs e h,vs=v::a/\us=b::d/\ib t v=some cs/\m=t.own/\cS g w Z s ι t m cs b.cells.toList e/\ez g w Z s ι ps a d h/\ae.apart e h/\ae.sub e H/\ae.sub h H
 |_::ps,vs,us,H=>∃v a b d,vs=v::a/\us=b::d/\ez g w Z s ι ps a d H
end
end Go.LM
namespace Go.LM
section
variable{P:Program}{Q:Exit->Act->World->Prop}
variable{g:Bool}{w0:World}{F0 Z0:ae}{n:cl}{s an:av}{a b0:Act}{w w':World}{ι a':Nat->bz}{Z Z':ae}
structure gg(g:Bool)(w:World)(Z:ae)(s:av)(ι:Nat->bz)(w':World)(Z':ae)(an:av)(a':Nat->bz)(H:ae):Prop where
 aH:∀x v,aR w Z s ι x v->aR w' Z' an a' x v
 cell:∀c v,cd w Z s ι c v->cd w' Z' an a' c v
 dt:ae.sub Z Z'
 b7:∀id o',(g=true->¬(s.o id).live)->an.o id=.b7 o'->s.o id=.b7 o'/\a' id=ι id
 nl:g=true->∀id,¬(s.o id).live->¬(an.o id).live
 same:bS w w' H
 zq:bS w w' Z
 wr:∀b o,eS w b o->eS w' b o
 wx:∀z b o,fb w z b o->fb w' z b o
def gg.mono{H a:ae}(h:gg g w Z s ι w' Z' an a' H)(hs:ae.sub a H):gg g w Z s ι w' Z' an a' a:=⟨h.aH,h.cell,h.dt,h.b7,h.nl,h.same.mono hs,h.zq,h.wr,h.wx⟩
def ur.move{t:U}{p:Place}{u:Value}{H e:ae}(h:gg g w Z s ι w' Z' an a' H)(n:ae.sub H e)(hk:ur g w Z s ι t p u H):ur g w' Z' an a' t p u e:=by
 obtain⟨ver,old,b,o,vs,i,h1,q,r,y,k,z,l,A⟩:=hk;have hl:=k.len;refine⟨ver,old,b,o,vs,fun m=>h.nl m _ (i m),fun B C=>?_,q,r,y,bG.mono h.cell k,fun j a=>h.wr _ _ (z j a),fun j a d=>n _ _ (l j a d),fun j v hv d=>?_⟩
 ·obtain⟨D,E⟩:=h.b7 _ _ i C;rw[E];exact h1 B D
 have a:j<old.length:=by
  rcases ff j vs.length with h|h
  ·omega
  ·rw[List.getElem?_eq_none h]at hv;simp at hv
 rw[(h.same _ _ (l j a d)).1];exact A j v hv d
def uu.move{t:U}{m:a8}{p:Place}{u:Value}{H q:ae}(h:gg g w Z s ι w' Z' an a' H)(k:ae.sub H q)(hk:uu g w Z s ι t m p u H):uu g w' Z' an a' t m p u q:=by
 obtain⟨ver,xs,i,b,o,c,r,v,y,h1,F,I,J,z,K,A,L,M,N,B,C,P⟩:=hk;have D:∀(G:ae),ae.sub G H->∀l us e,ae.sub e G->t.al w Z m l us e->t.al w' Z' m l us e:=fun G Q l us e T hr=>U.al.mono h.dt _ _ (fun _ _ h=>h) (U.al.same h.zq _ _ (h.same.mono fun b o d=>Q b o (T b o d)) hr)
 have V:(i+1)*t.size<=c*t.size:=c3 _ (by omega);have E:∀j,j<c*t.size->(j<i*t.size\/(i+1)*t.size<=j)->w'.cell? (at_ b (o+j))=w.cell? (at_ b (o+j)):=fun j a n=>(h.same _ _ (A j a n)).1
 refine⟨ver,xs,i,b,o,c,r,v,fun d=>h.nl d _ (y d),fun W X=>?_,F,I,J,z,fun j a=>h.wx _ _ _ (K j a),fun j a n=>k _ _ (A j a n),?_,?_,N,fun b o d=>k b o (B b o d),fun b o d=>k b o (C b o d),P⟩
 ·obtain⟨Y,ab⟩:=h.b7 _ _ y X;rw[ab];exact h1 W Y
 ·refine L.imp (D r B) fun j a=>E j ?_ (.inl ?_)
  all_goals
   have:(xs.take i).length=i:=by simp;omega
   rw[this]at a;rw[de]at V;omega
 ·refine M.imp (D v C) fun j a=>?_
  have hle:xs.length*t.size<=c*t.size:=c3 _ z;have ac:(xs.drop (i+1)).length=xs.length-(i+1):=by simp
  rw[ac,Nat.sub_mul]at a;have:=E ((i+1)*t.size+j) (by omega) (.inr (by omega));rwa[<-dQ]at this
mutual
def cS.move{H l:ae}(h:gg g w Z s ι w' Z' an a' H)(a:ae.sub H l):∀(t:U) (m:a8) {cs:List a7}{vs:List Value},cS g w Z s ι t m cs vs H->cS g w' Z' an a' t m cs vs l
 |.int _,_,_,_,hk=>by simp only[cS]at hk⊢;exact hk
 |.bool,_,_,_,hk=>by simp only[cS]at hk⊢;exact hk
 |.str,_,_,_,hk=>by simp only[cS]at hk⊢;exact hk
 |.raw,_,_,_,hk=>by simp only[cS]at hk⊢;exact hk
 |.sl t,.R,_,_,hk=>by simp only[cS]at hk
 |.sl t,.S _,_,_,hk=>by simp only[cS]at hk
 |.sl t,.O e,_,_,hk=>by
  simp only[cS]at hk⊢;obtain⟨c,v,h1,n,hk⟩:=hk;refine⟨c,v,h1,n,?_⟩
  cases c with
  |nil=>exact hk
  |aa id sub=>
   cases sub with
   |some=>exact hk
   |none=>
    obtain⟨ver,xs,A,k,c,d,B,k2,aZ⟩:=hk;refine⟨ver,xs,A,k,c,fun q=>h.nl q _ (d q),fun r u=>?_,k2,?_⟩
    ·obtain⟨y,z⟩:=h.b7 _ _ d u;rw[z];exact B r y
    rcases aZ with aZ|⟨b,o,C,D,E,F,M,N⟩
    ·exact .inl aZ
    ·right;refine⟨b,o,fun r u=>?_,D,E,F,fun j I=>h.wx _ _ _ (M j I),fun j h1 n=>a _ _ (N j h1 n)⟩;obtain⟨y,z⟩:=h.b7 _ _ d u;rw[z];exact C r y
  |bq ar dp au xs=>
   obtain⟨p,i,T,ver,P,b,o,c,ai,Q,d,B,k2,k3,aZ⟩:=hk;refine⟨p,i,T,ver,P,b,o,c,ai,Q,fun q=>h.nl q _ (d q),fun r u=>?_,k2,k3,fun b5 bK V J W C D E F=>?_⟩
   ·obtain⟨y,z⟩:=h.b7 _ _ d u;rw[z];exact B r y
   ·have:=aZ b5 bK V J W (h.same.trans (C.mono a)) D (fun b o x J=>E b o x (a b o J)) F;obtain⟨G,X,Y,ab⟩:=this.row;exact⟨this.spot,this.cap,this.wr,fun j I=>(this.inF j I).imp (fun h=>h) (a _ _),G,X,Y,fun b o x=>(ab b o x).imp (fun h=>h) (a b o)⟩
  |_=>exact hk
 |.st ah,m,_,_,hk=>by simp only[cS]at hk⊢;exact fl.move h a ah m.parts hk
def fl.move{H l:ae}(h:gg g w Z s ι w' Z' an a' H)(a:ae.sub H l):∀(ah:aw) (m:cA) {cs:List a7}{vs:List Value},fl g w Z s ι ah m cs vs H->fl g w' Z' an a' ah m cs vs l
 |.nil,_,_,_,hk=>by simp only[fl]at hk⊢;exact hk
 |.cons t ah,m,_,_,hk=>by simp only[fl]at hk⊢;obtain⟨ac,ad,v1,af,aj,ak,h1,n,al,ao,aq,K,L⟩:=hk;exact⟨ac,ad,v1,af,aj,ak,h1,n,cS.move (h.mono K) (fun _ _ h=>h) t m.aa al,fl.move (h.mono L) (fun _ _ h=>h) ah m.dq ao,aq,fun b o x=>a b o (K b o x),fun b o x=>a b o (L b o x)⟩
end
def ez.move{H z:ae}(h:gg g w Z s ι w' Z' an a' H)(k:ae.sub H z):∀(ps:List bt) {vs:List aY}{us:List Value},ez g w Z s ι ps vs us H->ez g w' Z' an a' ps vs us z
 | [],_,_,_=>trivial
 |.mut t m m'::ps,_,_,⟨p,a,d,e,q,r,h1,i,j,u,y,l,n⟩=>⟨p,a,d,e,q,r,h1,i,j.imp (ur.move (h.mono l) (fun _ _ h=>h)) (fun hk=>⟨hk.1,hk.2.1,uu.move (h.mono l) (fun _ _ h=>h) hk.2.2⟩),ez.move (h.mono n) (fun _ _ h=>h) ps u,y,fun b o x=>k b o (l b o x),fun b o x=>k b o (n b o x)⟩
 |.gu t m::ps,_,_,⟨v,a,d,e,cs,q,r,h1,i,j,B,u,y,l,n,A⟩=>⟨v,a,d,e,cs,q,r,h1,i,j,B,cS.move (h.mono n) (fun _ _ h=>h) t m u,ez.move (h.mono A) (fun _ _ h=>h) ps y,l,fun b o x=>k b o (n b o x),fun b o x=>k b o (A b o x)⟩
 |.val _ _::ps,_,_,⟨v,a,d,e,h1,i,j⟩=>⟨v,a,d,e,h1,i,ez.move h k ps j⟩
 |.gJ _::ps,_,_,⟨v,a,d,e,h1,i,j⟩=>⟨v,a,d,e,h1,i,ez.move h k ps j⟩
 |.ref _::ps,_,_,⟨v,a,d,e,h1,i,j⟩=>⟨v,a,d,e,h1,i,ez.move h k ps j⟩
 |.fn _ _::ps,_,_,⟨v,a,d,e,h1,i,j⟩=>⟨v,a,d,e,h1,i,ez.move h k ps j⟩
def fg.held(h:fg s ι Z an Z')(H:ae):gg true w Z s ι w Z' an ι H:=by
 refine⟨fun _ _=>aR.move h.d',fun _ _=>cd.move h.d',h.dt,fun id o' hn a=>⟨?_,rfl⟩,fun _ id hn hl=>hn (h.live hl).1,bS.refl _ _,bS.refl _ _,fun _ _ h=>h,fun _ _ _ h=>h⟩;rcases h.o id with h1|⟨b,_⟩
 ·rw[<-h1,a]
 ·exact absurd b (hn rfl)
def HH(w0:World)(F0 Z0:ae)(n:cl)(s:av)(a:Act)(w:World)(ι:Nat->bz)(Z:ae)(R:List Value->ae->Prop)(g:av->List a7->List Value->ae->Prop)(cs:List a7)(vs:List Value)(cs':List a7)(an:av):Prop:=
 ∃d us e F H,cs=d++cs'/\vs=us++e/\Inv w0 F0 Z0 n an a w ι Z/\fg s ι Z an Z/\bG w Z an ι cs' e/\bD w0 F0 an w ι Z F/\bD w0 F0 an w ι Z H/\ae.apart F H ∧
  R us F/\g an d us H/\∀b o,F b o\/H b o->∃id,(s.o id).live/\(ι id).F b o
def zr{R:List Value->ae->Prop}{d:av->List a7->List Value->ae->Prop}{c:a7}{v:Value}{cs':List a7}{b:List Value}(h:Inv w0 F0 Z0 n s a w ι Z)(hc:bG w Z s ι cs' b)
  (e:R [v] ae.none) (g:d s [c] [v] ae.none):HH w0 F0 Z0 n s a w ι Z R d (c::cs') (v::b) cs' s:=
 ⟨[c],[v],b,ae.none,ae.none,rfl,rfl,h,.refl,hc,.none,.none,fun _ _ h=>h.elim,e,g,fun _ _ h=>h.elim (fun h=>h.elim) fun h=>h.elim⟩
mutual
def U.wy:∀(t:U) (m:a8) (cs:List a7) (s:av) (r:t.D×List a7×av) (vs:List Value),t.e5 m cs s=some r->Inv w0 F0 Z0 n s a w ι Z->bG w Z s ι cs vs →
  HH w0 F0 Z0 n s a w ι Z (fun us F=>t.al w Z m r.1 us F) (fun s c us H=>cS true w Z s ι t m c us H) cs vs r.2.1 r.2.2
 |.int k,m,cs,s,r,vs,d,h,hc=>by
  match cs,vs,hc with
  | [],_,_=>simp[U.e5]at d
  |_::_,[],hc=>exact hc.elim
  |c::cs,v::vs,hc=>
   cases c<;>simp only[U.e5]at d<;>try (simp at d;done)
   rename_i k' x;cases hb:Nat.beq (df k) (df k')
   ·rw[hb]at d;simp at d
   rw[hb]at d;obtain rfl:=aS d;have:=zm hb;subst this;have hv:v=.int k x:=hc.1;exact zr h hc.2 (by simp only[U.al];rw[hv]) (by simp only[cS];exact⟨rfl,rfl⟩)
 |.bool,m,cs,s,r,vs,d,h,hc=>by
  match cs,vs,hc with
  | [],_,_=>simp[U.e5]at d
  |_::_,[],hc=>exact hc.elim
  |c::cs,v::vs,hc=>
   cases c<;>simp only[U.e5]at d<;>try (simp at d;done)
   obtain rfl:=aS d;have hv:=hc.1;simp only[cd]at hv;exact zr h hc.2 (by simp only[U.al];rw[hv]) (by simp only[cS];exact⟨rfl,rfl⟩)
 |.str,m,cs,s,r,vs,d,h,hc=>by
  match cs,vs,hc with
  | [],_,_=>simp[U.e5]at d
  |_::_,[],hc=>exact hc.elim
  |c::cs,v::vs,hc=>
   cases c<;>simp only[U.e5]at d<;>try (simp at d;done)
   obtain rfl:=aS d;have hv:=hc.1;obtain⟨aU,hv,C⟩:=hv;exact zr h hc.2 (by simp only[U.al];exact⟨aU,by rw[hv],C⟩) (by simp only[cS];exact⟨rfl,rfl⟩)
 |.raw,m,cs,s,r,vs,d,h,hc=>by cases cs<;>cases m<;>simp[U.e5]at d
 |.sl t,m,cs,s,r,vs,d,h,hc=>by
  match cs,vs,hc with
  | [],_,_=>cases m<;>simp[U.e5]at d
  |_::_,[],hc=>exact hc.elim
  |c::cs,v::vs,hc=>
   cases m with
   |R=>simp[U.e5]at d
   |S=>simp[U.e5]at d
   |O e=>
    cases c with
    |nil y=>
     simp only[U.e5]at d;obtain⟨x,C,d⟩:=a6 d;obtain⟨Q,rfl⟩:=gx C;subst Q;obtain rfl:=aS d;have hv:v=.slice none 0 0:=hc.1;refine zr h hc.2 ?_ ?_
     ·simp only[U.al];exact⟨none,0,by rw[hv];rfl,.inl (by simp)⟩
     ·simp only[cS];exact⟨_,_,rfl,rfl,hv⟩
    |aa id sub=>
     cases sub with
     |some=>simp[U.e5]at d
     |none=>
      simp only[U.e5]at d
      cases u:s.o id with
      |row y em ver xs=>
       rw[u]at d;simp only at d;cases hb:a8.beq em e
       ·rw[hb]at d;simp at d
       rw[hb]at d;simp only[au]at d;have:=a8.eq_of_beq _ _ hb;subst this;obtain⟨x,C,d⟩:=a6 d;obtain⟨Q,rfl⟩:=gx C;subst Q;obtain rfl:=aS d;have D:(s.o id).live:=by rw[u];trivial
       have z:fg s ι Z (s.bA id (.b7 (.row y em ver xs))) Z:=by have:=wu (s:=s) (ι :=ι) (Z:=Z) D;rw[u]at this;exact this
       have V:bD w0 F0 (s.bA id (.b7 (.row y em ver xs))) w ι Z (ι id).F:=by have:=h.wv D;rw[u]at this;exact this
       have K:=h.eU id;rw[u]at K;obtain⟨_,A,m',k,hv,l⟩:=hc.1;have l:=l y em ver xs (kk u);have L:=uc K l;have aV:m'=xs.length:=l.OT;subst aV;have I:(s.bA id (.b7 (.row y em ver xs))).o id=.b7 (.row y em ver xs):=b6 _ _ _;simp only[U.al,jY]at L;obtain⟨bp,k',aG,L⟩:=L;simp only[jI,Value.slice.injEq,fK,true_and]at aG;obtain⟨rfl,rfl⟩:=aG;rcases K with⟨af,aW⟩|⟨⟨b,o,aH⟩,M,hr⟩
       ·refine⟨[.aa id none],[v],vs,ae.none,ae.none,rfl,rfl,h.kO z,z,hc.2.move z.d',.none,.none,fun _ _ h=>h.elim,?_,?_,fun _ _ h=>h.elim (fun h=>h.elim) fun h=>h.elim⟩
        ·simp only[U.al];have aq:k=0:=by have:=l.cap;omega
         exact⟨A,k,by rw[hv],.inl ⟨af,aq⟩⟩
        ·simp only[cS];exact⟨_,_,rfl,rfl,ver,xs,A,k,_,fun _=>by rw[I];exact fun h=>h,fun aI E=>by rw[I]at E;exact⟨(b9.b7.inj E).symm,rfl,l⟩,hv,.inl ⟨af,aW⟩⟩
       ·have W:=hr.spot;simp only at W;subst W;have br:k*y.size<=(ι id).cap*y.size:=c3 _ (by have:=l.cap;simp only[dz]at this;omega)
        let T:ae:=ae.run b (o+k*y.size) ((ι id).cap*y.size-k*y.size)
        refine⟨[.aa id none],[v],vs,ae.diff (ι id).F T,fun b o=>(ι id).F b o/\T b o,rfl,rfl,h.kO z,z,hc.2.move z.d',V.sub fun _ _ h=>h.1,V.sub fun _ _ h=>h.1,fun b o h1 B=>h1.2 B.2,?_,?_,?_⟩
        ·simp only[U.al];refine⟨A,k,by rw[hv],?_⟩;rcases L with L|⟨⟨bt,o',aH⟩,aJ,ar⟩
         ·exact .inl L
         ·rcases l.at_ with aq|⟨aj,X,Y⟩
          ·exact .inl ⟨lq (by have:=l.le;omega),aq⟩
          ·right;rw[M]at X;obtain rfl:=aS X;rw[aJ]at Y;simp only[dz,Nat.zero_mul,cz,cQ,at_,Addr.mk.injEq]at Y;obtain⟨rfl,rfl,rfl⟩:=Y;obtain⟨G,ab,J,aX⟩:=hr.row;refine⟨_,aJ,rfl,ar.cap,ar.wr,fun j aK=>⟨ar.inF j aK,?_⟩,G,ab,fun j aK=>J j (by omega),fun b o z=>⟨aX b o z,?_⟩⟩
           ·rintro⟨_,h1,_⟩;simp only at h1;omega
           ·rintro⟨rfl,h1,B⟩
            have:=J (o-o') (by omega);simp only at this;rw[show o' +(o-o')=o by omega]at this;exact this z
        ·simp only[cS];refine⟨_,_,rfl,rfl,ver,xs,A,k,(ι id).cap,fun _=>by rw[I];exact fun h=>h,fun aI E=>by rw[I]at E;exact⟨(b9.b7.inj E).symm,rfl,l⟩,hv,.inr ⟨b,o,fun _ _=>M,hr.cap,by have:=l.cap;simp only[dz]at this;omega,?_,hr.wr,fun j h1 B=>⟨hr.inF j B,rfl,by omega,by omega⟩⟩⟩;rcases l.at_ with aY|⟨aj,X,Y⟩
         ·exact .inl aY
         ·rw[M]at X;obtain rfl:=aS X;right;rw[Y];simp[dz,at_]
        ·rintro b o (g|g)
         ·exact⟨id,D,g.1⟩
         ·exact⟨id,D,g.1⟩
      |_=>rw[u]at d;simp at d
    |bq y dp aZ xs=>
     simp only[U.e5]at d;obtain⟨bu,q,d⟩:=a6 d;obtain rfl:=aS d
     cases aZ with
     |none=>simp[rf]at q
     |some p=>
      simp only[rf]at q
      cases ak:p.eH with
      |none=>rw[ak]at q;simp at q
      |some i=>
       rw[ak]at q
       cases u:s.o p.id with
       |row T em ver ac=>
        rw[u]at q;simp only at q;cases hb:(alive s dp&&a8.beq em T.own&&a8.beq e t.own)
        ·rw[hb]at q;simp at q
        rw[hb]at q;simp only[au]at q;simp only[bs]at hb;obtain rfl:=a8.eq_of_beq _ _ hb.1.2;obtain rfl:=a8.eq_of_beq _ _ hb.2;obtain⟨x,C,q⟩:=a6 q;obtain rfl:=aS q;obtain⟨_,_,_,ax⟩:=hc.1;obtain⟨_,ax⟩:=ax _ rfl;obtain⟨bv,bw,⟨_,aL⟩,a0,bx⟩:=ax hb.1.1;simp only[u,b9.core]at aL;obtain⟨cW,aM,al,a1,M,a2⟩:=aL;rw[ak]at aM;obtain rfl:=aS aM;have D:(s.o p.id).live:=by rw[u];trivial
        have z:fg s ι Z (s.bA p.id (.b7 (.row T T.own ver ac))) Z:=by have:=wu (s:=s) (ι :=ι) (Z:=Z) D;rw[u]at this;exact this
        have V:bD w0 F0 (s.bA p.id (.b7 (.row T T.own ver ac))) w ι Z (ι p.id).F:=by have:=h.wv D;rw[u]at this;exact this
        have K:=h.eU p.id;rw[u]at K;rcases K with⟨af,_⟩|⟨aj,aN,hr⟩
        ·rw[af]at al;simp at al
        rw[M]at aN;obtain rfl:=aS aN;obtain⟨a3,a4,aH⟩:=a1;have W:=hr.spot;simp only at W;subst W;obtain⟨di,N,P,ad,aO,a5⟩:=hr.lens al C;rw[<-a2]at P;have a9:di=v:=by rw[a0]at P;exact(aS P).symm
        subst a9;have I:(s.bA p.id (.b7 (.row T T.own ver ac))).o p.id=.b7 (.row T T.own ver ac):=b6 _ _ _;refine⟨[.bq y dp (some p) xs],[di],vs,N,ae.diff (ι p.id).F N,rfl,rfl,h.kO z,z,hc.2.move z.d',V.sub aO,V.sub fun _ _ h=>h.1,fun b o h1 B=>B.2 h1,ad,?_,?_⟩
        ·simp only[cS];exact⟨_,_,rfl,rfl,p,i,T,ver,ac,a3,a4,(ι p.id).cap,rfl,ak,fun _=>by rw[I];exact fun h=>h,fun aI E=>by rw[I]at E;exact⟨(b9.b7.inj E).symm,M,rfl⟩,al,rfl,a5⟩
        ·rintro b o (g|g)
         ·exact⟨p.id,D,aO b o g⟩
         ·exact⟨p.id,D,g.1⟩
       |_=>rw[u]at q;simp at q
    |_=>simp[U.e5]at d
 |.st ah,m,cs,s,r,vs,d,h,hc=>by simp only[U.e5]at d;have:=aw.wy ah m.parts cs s r vs d h hc;simpa only[U.al,cS]using this
def aw.wy:∀(ah:aw) (m:cA) (cs:List a7) (s:av) (r:ah.D×List a7×av) (vs:List Value),ah.e5 m cs s=some r->Inv w0 F0 Z0 n s a w ι Z->bG w Z s ι cs vs →
  HH w0 F0 Z0 n s a w ι Z (fun us F=>ah.al w Z m r.1 us F) (fun s c us H=>fl true w Z s ι ah m c us H) cs vs r.2.1 r.2.2
 |.nil,m,cs,s,r,vs,d,h,hc=>by simp only[aw.e5]at d;obtain rfl:=aS d;exact⟨[],[],vs,ae.none,ae.none,rfl,rfl,h,.refl,hc,.none,.none,fun _ _ h=>h.elim,by simp only[aw.al],by simp[fl],fun _ _ h=>h.elim (fun h=>h.elim) fun h=>h.elim⟩
 |.cons t ah,m,cs,s,r,vs,d,h,hc=>by
  simp only[aw.e5]at d;obtain⟨an,h1,d⟩:=a6 d;obtain⟨a_,B,d⟩:=a6 d;obtain rfl:=aS d;obtain⟨aQ,ay,a',aR,N,Q,ba,bb,ab,bc,az,aA,aj,bd,be,P⟩:=U.wy t m.aa cs s an vs h1 h hc;obtain⟨aT,aB,bg,aC,aD,bh,bi,i2,J,bj,bk,bl,bm,bn,k2,ad⟩:=aw.wy ah m.dq an.2.1 an.2.2 a_ a' B bb bc;have ao:∀{aE:ae},bD w0 F0 an.2.2 w ι Z aE->∀b o,aE b o->(aC b o\/aD b o)->False:=by intro aE bo b o C l;obtain⟨id,hl,g⟩:=ad b o l;exact bo.apart id hl b o C g
  refine⟨aQ++aT,ay++aB,bg,aR.or aC,N.or aD,by rw[Q,bh,dW],by rw[ba,bi,dW],i2,ab.trans J,bj,(az.ru J).or bk,(aA.ru J).or bl,?_,?_,?_,?_⟩
  ·rintro b o (g|g) (l|l)
   ·exact aj b o g l
   ·exact ao az b o g (.inr l)
   ·exact ao aA b o l (.inl g)
   ·exact bm b o g l
  ·simp only[aw.al];exact⟨ay,aB,aR,aC,rfl,bd,bn,fun b o h1 B=>ao az b o h1 (.inl B),fun _ _ h=>.inl h,fun _ _ h=>.inr h⟩
  ·simp only[fl];exact⟨aQ,aT,ay,aB,N,aD,rfl,rfl,cS.move (J.held N) (fun _ _ h=>h) t m.aa be,k2,fun b o h1 B=>ao aA b o h1 (.inr B),fun _ _ h=>.inl h,fun _ _ h=>.inr h⟩
  ·rintro b o ((g|g)|(g|g))
   ·exact P b o (.inl g)
   ·obtain⟨id,hl,aF⟩:=ad b o (.inl g);exact⟨id,(ab.live hl).1,aF⟩
   ·exact P b o (.inr g)
   ·obtain⟨id,hl,aF⟩:=ad b o (.inr g);exact⟨id,(ab.live hl).1,aF⟩
end
end
end Go.LM
namespace Go.LM
section
variable{P:Program}{Q:Exit->Act->World->Prop}
variable{w0:World}{F0 Z0:ae}{n:cl}{s an:av}{a b0:Act}{w w':World}{ι a':Nat->bz}{Z Z':ae}
def zs{t:U}{x:aY}{v:Value}(a:mh t x=true)(hv:aR w Z s ι x v):v=c8 t v.cells.toList:=by
 cases t<;>cases x<;>simp only[mh]at a<;>try (simp at a;done)
 all_goals simp only[aR]at hv
 all_goals first
  |(rw[Hp hv.dD];rfl)
  |(subst hv;rfl)
  |(obtain⟨vs,rfl,_⟩:=hv;simp[c8,Value.cells])
def PD(h:Inv w0 F0 Z0 n s a w ι Z){k:Nat}{p:Place}{cs:List a7}{A:Addr}(hr:kL s k p=some cs)(ai:iG s ι p A):
  ∃b o vs,A=at_ b o/\bG w Z s ι cs vs/\bV w b o vs/\vs.length=k/\(s.o p.id).live/\∀j,j<k->(ι p.id).F b (o+j):=by
 obtain⟨b,o,vs,rfl,h1,v,y⟩:=wk h hr ai;refine⟨b,o,vs,rfl,h1,v,y,?_⟩;obtain⟨hs,ai⟩:=ai;unfold kL at hr
 cases d:s.o p.id with
 |var ver old=>rw[d]at hr ai;obtain⟨he,l,hb,e⟩:=ai;rw[he]at hr;obtain⟨hle,rfl⟩:=m5 hr;have g:=h.eU p.id;rw[d]at g;obtain⟨z,B,m,C,hc,D,E⟩:=g;rw[hb]at m;obtain rfl:=aS m;simp only[at_,Addr.mk.injEq,fK]at e;obtain⟨rfl,rfl⟩:=e;refine⟨trivial,fun j F=>?_⟩;have:=(E (p.off+j) (by omega)).2;rwa[<-dQ]at this
 |row t em ver xs=>
  rw[d]at hr ai;obtain⟨i,he,q,l,hb,e⟩:=ai;rw[he]at hr;obtain⟨hle,rfl⟩:=m5 hr;have g:=h.eU p.id;rw[d]at g;obtain⟨z,B,m,C,hc,D,hl⟩:=Hj h d q;rcases g with⟨rfl,_⟩|⟨H,r,u⟩
  ·simp at q
  rw[hb]at r;obtain rfl:=aS r;simp only[at_,Addr.mk.injEq,fK]at e;obtain⟨rfl,rfl⟩:=e;refine⟨trivial,fun j F=>?_⟩;have I:=hc.len;have G:(i+1)*t.size<=(ι p.id).cap*t.size:=c3 _ (by have:=u.cap;omega);rw[de]at G;have:=u.inF (i*t.size+p.off+j) (by omega);rwa[show l.off +(i*t.size+p.off+j)=l.off+i*t.size+p.off+j by omega]at this
 |none=>rw[d]at hr;simp at hr
 |dead=>rw[d]at hr;simp at hr
 |b7=>rw[d]at hr;simp at hr
 |hole=>rw[d]at hr;simp at hr
def zt(w0:World)(F0 Z0:ae)(n:cl)(s:av)(a:Act)(w:World)(ι:Nat->bz)(Z:ae)(key:Nat)(g:List (Nat×Nat))(ps:List bt)(vs:List aY)(us:List Value)(q:(bt.ins ps).D×av×List (Nat×Nat)):Prop:=
 ∃F H e,Inv w0 F0 Z0 n q.2.1 a w ι e/\fg s ι Z q.2.1 e/\fV w (e.or (db ι q.2.2)) key ps q.1 us F/\ez true w e q.2.1 ι ps vs us H/\bD w0 F0 q.2.1 w ι e F/\bD w0 F0 q.2.1 w ι e H/\ae.apart F H ∧
  (∃nb,q.2.2=nb++g)/\(∀d,d∈q.2.2->ee q.2.1 d)/\∀b o,F b o\/H b o->∃id,(s.o id).live/\(ι id).F b o
def HI(h:fg s ι Z an Z'){d:Nat×Nat}(aa:ee s d):ee an d:=(h.d' (w:=default)).turns.dep aa
def uv{key:Nat}{m:bt}{ps:List bt}{v:aY}{vs:List aY}{u:Value}{us:List Value}{E r nb:List (Nat×Nat)}{i:av}{e F1 H1:ae}{q:(bt.ins ps).D×av×List (Nat×Nat)}{x:(bt.ins (m::ps)).D}
  (y:fg s ι Z i e) (z:bD w0 F0 i w ι e F1) (h1:bD w0 F0 i w ι e H1) (G:ae.apart F1 H1) (src:∀b o,F1 b o\/H1 b o->∃id,(s.o id).live/\(ι id).F b o) (H:r=nb++E)
  (hr:zt w0 F0 Z0 n i a w ι e key r ps vs us q)
  (I:∀(bK j:ae),ae.sub (e.or (db ι r)) bK->fV w bK key ps q.1 us j->ae.apart F1 j->fV w bK key (m::ps) x (u::us) (F1.or j))
  (J:∀(g:av) (bK k:ae),fg i ι e g bK->ez true w bK g ι ps vs us k->ae.apart H1 k->ez true w bK g ι (m::ps) (v::vs) (u::us) (H1.or k)):
  zt w0 F0 Z0 n s a w ι Z key E (m::ps) (v::vs) (u::us) (x,q.2):=by
 obtain⟨j,k,bK,i2,l,K,k2,L,A,M,⟨N,F⟩,P,g⟩:=hr;have p:∀{B:ae},bD w0 F0 i w ι e B->∀b o,B b o->(j b o\/k b o)->False:=by intro B Q b o T h;obtain⟨id,hl,d⟩:=g b o h;exact Q.apart id hl b o T d
 refine⟨F1.or j,H1.or k,bK,i2,y.trans l,I _ _ ?_ K (fun b o h1 A=>p z b o h1 (.inl A)),J _ _ _ l k2 (fun b o x U=>p h1 b o x (.inr U)),(z.ru l).or L,(h1.ru l).or A,?_,⟨N++nb,by show q.2.2=_;rw[F,H,dW]⟩,P,?_⟩
 ·rintro b o (C|C)
  ·exact .inl (l.dt b o C)
  ·show bK b o\/db ι q.2.2 b o;rw[F];exact .inr (Hh _ _ _ b o C)
 ·rintro b o (d|d) (h|h)
  ·exact G b o d h
  ·exact p z b o d (.inr h)
  ·exact p h1 b o h (.inl d)
  ·exact M b o d h
 ·rintro b o ((d|d)|(d|d))
  ·exact src b o (.inl d)
  ·obtain⟨id,hl,D⟩:=g b o (.inl d);exact⟨id,(y.live hl).1,D⟩
  ·exact src b o (.inr d)
  ·obtain⟨id,hl,D⟩:=g b o (.inr d);exact⟨id,(y.live hl).1,D⟩
def HJ{d:bt}{ps:List bt}{v:aY}{vs:List aY}{u:Value}{us:List Value}{H e:ae}(g:(∃t m,d=.val t m)\/(∃t,d=.ref t)\/(∃a b,d=.fn a b)\/∃t,d=.gJ t)(i:ae.sub H e)
  (h:ez true w Z s ι ps vs us H) (j:gg true w Z s ι w Z s ι H):ez true w Z s ι (d::ps) (v::vs) (u::us) e:=by
 have:=ez.move j i ps h;rcases g with⟨t,m,rfl⟩|⟨t,rfl⟩|⟨a,b,rfl⟩|⟨t,rfl⟩<;>exact⟨v,vs,u,us,rfl,rfl,this⟩
def HK:∀{x:List aY}{us:List Value},aX w Z s ι x us->us.length=x.length
 | [],_,h=>by simp only[aX]at h;rw[h];rfl
 |_::_,_,h=>by simp only[aX]at h;obtain⟨b,d,rfl,_,a⟩:=h;simp[HK a]
def ob{key:Nat}:∀(ps:List bt) (vs:List aY) (us:List Value) (s:av) (Z:ae) (z:List (Nat×Nat)) (q:(bt.ins ps).D×av×List (Nat×Nat)),fL key s ps vs z=some q->Inv w0 F0 Z0 n s a w ι Z →
  aX w Z s ι vs us->(∀d,d∈z->ee s d)->zt w0 F0 Z0 n s a w ι Z key z ps vs us q
 | [],vs,us,s,Z,z,q,hm,h,hv,hb=>by
  cases vs with
  |cons=>simp[fL]at hm
  |nil=>simp only[fL,cQ]at hm;subst hm;simp only[aX]at hv;exact⟨ae.none,ae.none,Z,h,.refl,hv,trivial,.none,.none,fun _ _ h=>h.elim,⟨[],rfl⟩,hb,fun _ _ h=>h.elim (fun h=>h.elim) fun h=>h.elim⟩
 |.fn kK m0::ps,vs,us,s,Z,z,q,hm,h,hv,hb=>by
  cases vs with
  |nil=>simp[fL]at hm
  |cons v vs=>
   cases v<;>simp only[fL]at hm<;>try (simp at hm;done)
   rename_i g bw bx;cases k:(Nat.beq g key&&Nat.beq bw.length kK&&Nat.beq bx.length m0)
   ·rw[k]at hm;cases hm
   rw[k]at hm;simp only[bs]at k;obtain⟨⟨k,bl⟩,bm⟩:=k;have k:=cG k;have bl:=cG bl;have bm:=cG bm;subst k;simp only[aX,aR]at hv;obtain⟨X,u,rfl,⟨x,bY,az,bz,bA⟩,P⟩:=hv;have bZ:=HK bz;have b0:=HK bA;obtain⟨F,H,al,Y,J,ab,aE,af,h1,a1,ah,an,I⟩:=ob ps vs u s Z z q hm h P hb;exact⟨F,H,al,Y,J,⟨_,_,u,by rw[az],⟨by simp;omega,by simp;omega⟩,ab⟩,⟨_,_,_,_,rfl,rfl,aE⟩,af,h1,a1,ah,an,I⟩
 |.val t m::ps,vs,us,s,Z,z,q,hm,h,hv,hb=>by
  cases vs with
  |nil=>simp[fL]at hm
  |cons v vs=>
   simp only[fL]at hm;cases e:mh t v
   ·rw[e]at hm;simp at hm
   rw[e]at hm;simp only[au]at hm
   cases Q:ib t v with
   |none=>rw[Q]at hm;simp at hm
   |some cs=>
    rw[Q]at hm;simp only at hm;obtain⟨r,hr,hm⟩:=a6 hm
    cases B:r.2.1 with
    |cons=>rw[B]at hm;simp at hm
    |nil=>
     rw[B]at hm;simp only at hm;obtain⟨p,ai,hm⟩:=a6 hm;obtain rfl:=aS hm;simp only[aX]at hv;obtain⟨X,u,rfl,l,P⟩:=hv;obtain⟨aw,K,F1,al,E,Y,I,T,af,ab,⟨nb,ah⟩,_,an,J⟩:=U.j1 t true m cs s z r _ Z hr h (pO Q l) hb;rw[B]at T;have ao:K=[]:=by cases K with|nil=>rfl|cons=>exact T.elim
     subst ao;rw[dn]at E;have aA:=zs e l;rw[E]at aA;have ac:=ob ps vs u r.2.2.1 al r.2.2.2 p ai Y (aX.move I.d' P) an;refine uv I.kO af .none (fun _ _ _ h=>h) (fun b o e=>e.elim (J b o) fun h=>h.elim) ah ac ?_ ?_
     ·intro bK aj V W ak;exact⟨aw,u,F1,aj,by rw[<-aA],U.al.mono V _ _ (fun _ _ h=>h) ab,W,ak,fun _ _ h=>.inl h,fun _ _ h=>.inr h⟩
     ·intro aF bK ad k hk ax;exact HJ (.inl ⟨_,_,rfl⟩) (fun _ _ h=>.inr h) hk (fg.refl.held ad)
 |.gJ t::ps,vs,us,s,Z,z,q,hm,h,hv,hb=>by
  cases vs with
  |nil=>simp[fL]at hm
  |cons v vs=>
   simp only[fL]at hm;cases e:mh t v
   ·rw[e]at hm;simp at hm
   rw[e]at hm;simp only[au]at hm
   cases Q:ib t v with
   |none=>rw[Q]at hm;simp at hm
   |some cs=>
    rw[Q]at hm;simp only at hm;obtain⟨r,hr,hm⟩:=a6 hm
    cases B:r.2.1 with
    |cons=>rw[B]at hm;simp at hm
    |nil=>
     rw[B]at hm;simp only at hm;obtain⟨p,ai,hm⟩:=a6 hm;obtain rfl:=aS hm;simp only[aX]at hv;obtain⟨X,u,rfl,l,P⟩:=hv;obtain⟨aw,K,F1,al,E,Y,I,T,af,ab,⟨nb,ah⟩,_,an,J⟩:=U.j1 t false .R cs s z r _ Z hr h (pO Q l) hb;rw[B]at T;have ao:K=[]:=by cases K with|nil=>rfl|cons=>exact T.elim
     subst ao;rw[dn]at E;have aA:=zs e l;rw[E]at aA;have ac:=ob ps vs u r.2.2.1 al r.2.2.2 p ai Y (aX.move I.d' P) an;refine uv I.kO af .none (fun _ _ _ h=>h) (fun b o e=>e.elim (J b o) fun h=>h.elim) ah ac ?_ ?_
     ·intro bK aj V W ak;exact⟨aw,u,F1,aj,by rw[<-aA],U.al.mono V _ _ (fun _ _ h=>h) ab,W,ak,fun _ _ h=>.inl h,fun _ _ h=>.inr h⟩
     ·intro aF bK ad k hk ax;exact HJ (.inr (.inr (.inr ⟨_,rfl⟩))) (fun _ _ h=>.inr h) hk (fg.refl.held ad)
 |.gu t m::ps,vs,us,s,Z,z,q,hm,h,hv,hb=>by
  cases vs with
  |nil=>simp[fL]at hm
  |cons v vs=>
   simp only[fL]at hm;cases e:(mh t v&&a8.beq m t.own)
   ·rw[e]at hm;simp at hm
   rw[e]at hm;simp only[au]at hm;simp only[bs]at e;obtain⟨e,a2⟩:=e;have a2:=a8.eq_of_beq _ _ a2
   cases Q:ib t v with
   |none=>rw[Q]at hm;simp at hm
   |some cs=>
    rw[Q]at hm;simp only at hm;obtain⟨r,hr,hm⟩:=a6 hm
    cases B:r.2.1 with
    |cons=>rw[B]at hm;simp at hm
    |nil=>
     rw[B]at hm;simp only at hm;obtain⟨p,ai,hm⟩:=a6 hm;obtain rfl:=aS hm;simp only[aX]at hv;obtain⟨X,u,rfl,l,P⟩:=hv;obtain⟨T,aw,K,F1,H1,a3,E,Y,J,bn,af,bB,a1,ab,aE,bC⟩:=U.wy t m cs s r _ hr h (pO Q l);rw[B]at bn a3;have ao:K=[]:=by cases K with|nil=>rfl|cons=>exact bn.elim
     subst ao;rw[dn]at E a3;subst a3;have aA:=zs e l;have ac:=ob ps vs u r.2.2 Z z p ai Y (aX.move J.d' P) (fun d aa=>HI J (hb d aa));refine uv (nb:=[]) J af bB a1 bC rfl ac ?_ ?_
     ·intro bK aj V W ak;exact⟨aw,u,F1,aj,by rw[<-E,<-aA],U.al.mono (fun b o aq=>V b o (.inl aq)) _ _ (fun _ _ h=>h) ab,W,ak,fun _ _ h=>.inl h,fun _ _ h=>.inr h⟩
     ·intro aF bK ad k hk ax;refine⟨v,vs,X,u,cs,H1,ad,rfl,rfl,Q,a2,?_,hk,ax,fun _ _ h=>.inl h,fun _ _ h=>.inr h⟩;rw[E];exact cS.move (k.held H1) (fun _ _ h=>h) t m aE
 |.ref t::ps,vs,us,s,Z,z,q,hm,h,hv,hb=>by
  cases vs with
  |nil=>simp[fL]at hm
  |cons v vs=>
   simp only[aX]at hv;obtain⟨X,u,rfl,l,P⟩:=hv
   have go:∀(cs:List a7) (aC:List (Nat×Nat)) (b o:Nat) (N:List Value),bG w Z s ι cs N->bV w b o N->N.length=t.size->X=.pointer (some (at_ b o))->(∃nb,aC=nb++z)->(∀d,d∈aC->ee s d) →
     (∀j,j<t.size->Z.or (db ι aC) b (o+j)) →
     ((t.imp true .R cs s aC).bind fun r=>match r.2.1 with| []=>(fL key r.2.2.1 ps vs r.2.2.2).bind fun q=>some ((r.1,q.1),q.2)|_=>none)=some q->zt w0 F0 Z0 n s a w ι Z key z (.ref t::ps) (v::vs) (X::u) q:=by
    intro cs aC b o N bE aQ b1 aT ⟨bF,bH⟩ bI bJ hm;obtain⟨r,hr,hm⟩:=a6 hm
    cases B:r.2.1 with
    |cons=>rw[B]at hm;simp at hm
    |nil=>
     rw[B]at hm;simp only at hm;obtain⟨p,ai,hm⟩:=a6 hm;obtain rfl:=aS hm;obtain⟨aw,K,F1,al,E,Y,I,T,af,ab,⟨nb,ah⟩,_,an,J⟩:=U.j1 t true .R cs s aC r _ Z hr h bE bI;rw[B]at T;have ao:K=[]:=by cases K with|nil=>rfl|cons=>exact T.elim
     subst ao;rw[dn]at E;subst E;have ac:=ob ps vs u r.2.2.1 al r.2.2.2 p ai Y (aX.move I.d' P) an;refine uv (nb:=nb++bF) I.kO .none .none (fun _ _ h=>h.elim) (fun b o e=>e.elim (fun h=>h.elim) fun h=>h.elim) (by rw[ah,bH,dW]) ac ?_ ?_
     ·intro bK aj V W ak;refine⟨b,o,N,u,by rw[aT],aQ,U.al.mono V _ _ (fun _ _ h=>h) (pI ab),fun j C=>V _ _ ?_,fV.mono (fun _ _ h=>h) ps (fun _ _ h=>.inr h) W⟩;rcases bJ j C with aq|aq
      ·exact .inl (I.dt _ _ aq)
      ·rw[ah];exact .inr (Hh _ _ _ _ _ aq)
     ·intro aF bK ad k hk ax;exact HJ (.inr (.inl ⟨_,rfl⟩)) (fun _ _ h=>.inr h) hk (fg.refl.held ad)
   cases v<;>simp only[fL]at hm<;>try (simp at hm;done)
   ·rename_i p
    cases hr:kL s t.size p with
    |none=>rw[hr]at hm;simp at hm
    |some cs=>
     rw[hr]at hm;simp only[aR]at l;obtain⟨hk,A,l,ai⟩:=l;obtain⟨b,o,N,rfl,h1,L,a4,b2,bL⟩:=PD h hr ai;refine go cs ((p.id,jK s p.id)::z) b o N h1 L a4 l ⟨[_],rfl⟩ ?_ (fun j C=>.inr ⟨_,gT,bL j C⟩) hm;intro d aa;rcases List.mem_cons.1 aa with rfl|aa
     ·exact⟨hk,.inr (bu _)⟩
     ·exact hb d aa
   ·rename_i dp cs off
    cases ht:takeN off t.size cs with
    |none=>rw[ht]at hm;simp at hm
    |some b3=>
     rw[ht]at hm;simp only at hm;cases a5:alive s dp
     ·rw[a5]at hm;simp at hm
     rw[a5]at hm;simp only[au]at hm;obtain⟨hle,rfl⟩:=m5 ht;simp only[aR]at l;obtain⟨aa,b,o,N,l,az⟩:=l;obtain⟨h1,L,a4⟩:=az a5;have hl:=h1.len;refine go _ (dp++z) b (o+off) ((N.drop off).take t.size) ((h1.drop off).take _) (L.part off _) (by simp;omega) l ⟨dp,rfl⟩ ?_ ?_ hm
     ·intro d bM;rcases List.mem_append.1 bM with h|h
      ·exact aa d h
      ·exact hb d h
     ·intro j C;have:=a4 (off+j) (by omega);rw[<-dQ]at this;rcases this with aq|⟨d,aa,e⟩
      ·exact .inl aq
      ·exact .inr ⟨d,List.mem_append.2 (.inl aa),e⟩
 |.mut t m m'::ps,vs,us,s,Z,z,q,hm,h,hv,hb=>by
  cases vs with
  |nil=>simp[fL]at hm
  |cons v vs=>
   simp only[aX]at hv;obtain⟨X,u,rfl,l,P⟩:=hv;cases v<;>simp only[fL]at hm<;>try (simp at hm;done)
   rename_i p;simp only[aR]at l;obtain⟨hk,A,l,ai⟩:=l;obtain⟨b4,ai⟩:=ai
   cases M:s.o p.id with
   |none=>rw[M]at hm;simp at hm
   |dead=>rw[M]at hm;simp at hm
   |b7=>rw[M]at hm;simp at hm
   |hole=>rw[M]at hm;simp at hm
   |var ver old=>
    rw[M]at hm ai;obtain⟨he,bN,aG,W⟩:=ai;rw[he]at hm;simp only at hm
    cases ht:takeN p.off t.size old with
    |none=>rw[ht]at hm;simp at hm
    |some cs=>
     rw[ht]at hm;simp only at hm;obtain⟨hle,rfl⟩:=m5 ht;obtain⟨r,hr,hm⟩:=a6 hm
     cases B:r.2.1 with
     |cons=>rw[B]at hm;simp at hm
     |nil=>
      rw[B]at hm;simp only at hm;obtain⟨a9,a',hm⟩:=a6 hm;obtain rfl:=aS hm;have ar:(s.o p.id).live:=by rw[M];trivial
      have k:fg s ι Z (s.bA p.id (.b7 (.var ver old))) Z:=by have:=wu (s:=s) (ι :=ι) (Z:=Z) ar;rw[M]at this;exact this
      have aH:bD w0 F0 (s.bA p.id (.b7 (.var ver old))) w ι Z (ι p.id).F:=by have:=h.wv ar;rw[M]at this;exact this
      have aI:=h.eU p.id;rw[M]at aI;obtain⟨⟨b,o,bO⟩,N,aJ,aK,hc,aQ,aU⟩:=aI;simp only at aK;subst aK;rw[aG]at aJ;obtain rfl:=aS aJ;have hl:=hc.len;have aL:(s.bA p.id (.b7 (.var ver old))).o p.id=.b7 (.var ver old):=b6 _ _ _;have bo:=hc.move k.d';obtain⟨aw,K,F1,al,E,Y,I,T,af,ab,⟨nb,ah⟩,_,an,J⟩:=U.j1 t true m _ _ z r _ Z hr (h.kO k) ((bo.drop p.off).take t.size) (fun d aa=>HI k (hb d aa));rw[B]at T;have ao:K=[]:=by cases K with|nil=>rfl|cons=>exact T.elim
      subst ao;rw[dn]at E;have ac:=ob ps vs u r.2.2.1 al r.2.2.2 a9 a' Y (aX.move I.d' (aX.move k.d' P)) an;have bP:=k.trans I.kO
      have aM:ae.sub (ae.run b (o+p.off) t.size) (ι p.id).F:=by
       rintro aB o' ⟨rfl,h1,L⟩
       have:=(aU (o'-o) (by omega)).2;simp only at this;rwa[show o +(o'-o)=o' by omega]at this
      have bp:=aH.shrink I;have br:ae.apart F1 (ι p.id).F:=by intro b o h1 L;obtain⟨id,hl,e⟩:=J b o h1;exact aH.apart id hl b o L e
      refine uv (F1:=F1.or (ae.run b (o+p.off) t.size)) (H1:=ae.diff (ι p.id).F (ae.run b (o+p.off) t.size)) bP (af.or (bp.sub aM)) (bp.sub fun _ _ h=>h.1) ?_ ?_ ah ac ?_ ?_
      ·rintro b o (e|e) D
       ·exact br b o e D.1
       ·exact D.2 e
      ·rintro aB o' ((e|e)|D)
       ·obtain⟨id,hl,bQ⟩:=J aB o' e;exact⟨id,(k.live hl).1,bQ⟩
       ·exact⟨p.id,ar,aM aB o' e⟩
       ·exact⟨p.id,ar,D.1⟩
      ·intro bK aj V ba ak;refine⟨b,o+p.off,aw,u,F1,aj,by rw[l,W],?_,?_,U.al.mono V _ _ (fun _ _ h=>h) ab,ba,ak,fun b o h1 L=>br b o h1 (aM b o L),fun _ _ h=>.inl h,fun _ _ h=>.inr h⟩
       ·rw[<-E];exact aQ.part p.off t.size
       ·intro j C;have:=(aU (p.off+j) (by omega)).1;rwa[<-dQ]at this
      ·intro aF bK ad bb bc ax;refine⟨p,vs,X,u,_,ad,rfl,rfl,.inl ?_,bc,ax,fun _ _ h=>.inl h,fun _ _ h=>.inr h⟩;refine ur.move ((I.kO.trans bb).held (ae.diff (ι p.id).F (ae.run b (o+p.off) t.size))) (fun _ _ h=>h) ?_;refine⟨ver,old,b,o,N,fun _=>by rw[aL];exact fun h=>h,fun bR aN=>by rw[aL]at aN;exact⟨(b9.b7.inj aN).symm,aG⟩,he,by rw[l,W],hle,bo,fun j C=>(aU j C).1,fun j C D=>⟨(aU j C).2,?_⟩,fun j v hv D=>aQ j v hv⟩
       rintro⟨_,h1,L⟩
       omega
   |row y em ver xs=>
    rw[M]at hm ai;obtain⟨i,he,aV,bN,aG,W⟩:=ai;rw[he]at hm;simp only at hm;cases aW:(Nat.beq p.off 0&&a8.beq em m&&a8.beq m' em&&a8.beq m t.own)
    ·rw[aW]at hm;simp at hm
    rw[aW]at hm;simp only[bs]at aW;obtain⟨⟨⟨bd,be⟩,bg⟩,bh⟩:=aW;have bh:=a8.eq_of_beq _ _ bh;have bd:=cG bd;have be:=a8.eq_of_beq _ _ be;have bg:=a8.eq_of_beq _ _ bg;subst be;subst bg;simp only[au]at hm;obtain⟨x,az,hm⟩:=a6 hm;obtain⟨E,rfl⟩:=y7 az;subst E;obtain⟨a9,a',hm⟩:=a6 hm;obtain rfl:=aS hm;have ar:(s.o p.id).live:=by rw[M];trivial
    have k:fg s ι Z (s.bA p.id (.b7 (.row y m' ver xs))) Z:=by have:=wu (s:=s) (ι :=ι) (Z:=Z) ar;rw[M]at this;exact this
    have aH:bD w0 F0 (s.bA p.id (.b7 (.row y m' ver xs))) w ι Z (ι p.id).F:=by have:=h.wv ar;rw[M]at this;exact this
    have aI:=h.eU p.id;rw[M]at aI;rcases aI with⟨rfl,_⟩|⟨⟨b,o,bO⟩,aJ,ay⟩
    ·simp at aV
    have aK:=ay.spot;simp only at aK;subst aK;rw[aG]at aJ;obtain rfl:=aS aJ;obtain⟨G,J,bS,bi⟩:=ay.row;obtain⟨bT,aO,bU,N,aE,k2,k3,aZ,a_,c7,dE,cE,fk,c4,cn⟩:=J.uk i aV;have aL:(s.bA p.id (.b7 (.row y m' ver xs))).o p.id=.b7 (.row y m' ver xs):=b6 _ _ _;have bW:(i+1)*y.size<=(ι p.id).cap*y.size:=c3 _ (by have:=ay.cap;omega);rw[de]at bW
    have aM:ae.sub (ae.run b (o+i*y.size) y.size) (ι p.id).F:=by
     rintro aB o' ⟨rfl,h1,L⟩
     have:=ay.inF (o'-o) (by omega);simp only at this;rwa[show o +(o'-o)=o' by omega]at this
    have a0:∀{aD:ae},ae.sub aD G->∀j,j<(ι p.id).cap*y.size->¬aD b (o+j):=fun bj j C D=>bS j C (bj _ _ D)
    have bk:∀{aD:ae},ae.sub aD G->ae.apart aD (ae.run b (o+i*y.size) y.size):=by
     rintro aD bj aB o' az ⟨rfl,h1,L⟩
     have:=a0 bj (o'-o) (by omega);rw[show o +(o'-o)=o' by omega]at this;exact this az
    have ac:=ob ps vs u _ Z z a9 a' (h.kO k) (aX.move k.d' P) (fun d aa=>HI k (hb d aa));have bv:ae.sub (aO.or (ae.run b (o+i*y.size) y.size)) (ι p.id).F:=fun b o h=>h.elim (fun h=>bi b o (c4 b o h)) (aM b o)
    have aT:X=.pointer (some (at_ b (o+i*y.size))):=by rw[l,W,bd];rfl
    refine uv (nb:=[]) (F1:=aO.or (ae.run b (o+i*y.size) y.size)) (H1:=ae.diff (ι p.id).F (aO.or (ae.run b (o+i*y.size) y.size))) k (aH.sub bv) (aH.sub fun _ _ h=>h.1) (fun b o h1 L=>L.2 h1) ?_ rfl ac ?_ ?_
    ·rintro aB o' (e|e)
     ·exact⟨p.id,ar,bv aB o' e⟩
     ·exact⟨p.id,ar,e.1⟩
    ·intro bK aj V ba ak;refine⟨b,o+i*y.size,N,u,aO,aj,by rw[aT],aZ,fun j C=>?_,?_,ba,ak,bk c4,fun _ _ h=>.inl h,fun _ _ h=>.inr h⟩
     ·have:=(ay.wr (i*y.size+j) (by omega)).1;rwa[<-dQ]at this
     ·rw[cC aV];exact U.al.mono (fun b o aq=>V b o (.inl aq)) _ _ (fun _ _ h=>h) k2
    ·intro aF bK ad bb bc ax;refine⟨p,vs,X,u,_,ad,rfl,rfl,.inr ⟨rfl,bh,?_⟩,bc,ax,fun _ _ h=>.inl h,fun _ _ h=>.inr h⟩;refine uu.move (bb.held (ae.diff (ι p.id).F (aO.or (ae.run b (o+i*y.size) y.size)))) (fun _ _ h=>h) ?_;refine⟨ver,xs,i,b,o,_,bT,bU,fun _=>by rw[aL];exact fun h=>h,fun bR aN=>by rw[aL]at aN;exact⟨(b9.b7.inj aN).symm,aG,rfl⟩,he,aV,aT,ay.cap,ay.wr,fun j C D=>⟨ay.inF j C,?_⟩,aE,a_,dE,fun b o k=>⟨bi b o (fk b o k),?_⟩,fun b o k=>⟨bi b o (cn b o k),?_⟩,fun j C=>⟨a0 fk j C,a0 cn j C⟩⟩
     ·rintro (bX|⟨_,h1,L⟩)
      ·exact a0 c4 j C bX
      ·rw[de]at D;omega
     ·rintro (D|D)
      ·exact c7 b o k D
      ·exact bk fk b o k D
     ·rintro (D|D)
      ·exact cE b o D k
      ·exact bk cn b o k D
end
end Go.LM
namespace Go.LM
section
variable{P:Program}{Q:Exit->Act->World->Prop}
variable{g:Bool}{w0:World}{F0 Z0:ae}{n:cl}{s an:av}{a b0:Act}{w w' b5:World}{ι a' dY:Nat->bz}{Z Z' bK:ae}
def gg.trans{e:av}{H:ae}(h:gg g w Z s ι w' Z' an a' H)(k:gg g w' Z' an a' b5 bK e dY H):gg g w Z s ι b5 bK e dY H:=by
 refine⟨fun x v i=>k.aH x v (h.aH x v i),fun c v hc=>k.cell c v (h.cell c v hc),fun b o j=>k.dt b o (h.dt b o j),fun id o' hn l=>?_,fun a id hn=>k.nl a id (h.nl a id hn),h.same.trans k.same,h.zq.trans ?_,fun b o d=>k.wr b o (h.wr b o d),fun z b o d=>k.wx z b o (h.wx z b o d)⟩
 ·obtain⟨h1,m⟩:=k.b7 id o' (fun a=>h.nl a id (hn a)) l;obtain⟨n,p⟩:=h.b7 id o' hn h1;exact⟨n,m.trans p⟩
 ·exact k.zq.mono h.dt
def Inv.ZA(h:Inv w0 F0 Z0 n s a w ι Z){id:Nat}{o:b9}{i:bz}(r:¬(s.o id).live)(ht:gf (s.o id) (ι id) o i)
  (m:d_ w Z s ι w Z (s.bA id o) (bF ι id i)->gd w Z (s.bA id o) (bF ι id i) i o) (d:bD w0 F0 s w ι Z i.F):
  Inv w0 F0 Z0 n (s.bA id o) a w (bF ι id i) Z/\d_ w Z s ι w Z (s.bA id o) (bF ι id i):=by
 have hm:d_ w Z s ι w Z (s.bA id o) (bF ι id i):=by
  refine⟨fun j=>?_,fun _ _ h=>h,bS.refl _ _⟩;show gf (s.o j) (ι j) (bF s.o id o j) (bF ι id i j);by_cases b:id=j
  ·subst b;rw[b6,b6];exact ht
  ·rw[ca b,ca b];exact .stay _ _
 refine⟨?_,hm⟩;refine h.next hm (Ext.refl _ ae.none) (fun _ _ h=>h.elim) (fun _ _ h=>.inl h) ?_ ?_ (fun k=>(h.tmps k).move hm) h.size h.defers
 ·intro j hl p;by_cases b:id=j
  ·subst b;rw[b6];refine⟨by show gd _ _ _ _ _ (bF s.o id o id);rw[b6];exact m hm,d.own,fun e q l=>?_⟩;rw[ca l];have g:(s.o e).live:=by have:(bF s.o id _ e).live:=q;rwa[ca l]at this
   exact d.apart e g
  ·exact absurd ⟨ca b,ca b⟩ p
 ·intro j hl;by_cases b:id=j
  ·subst b;rw[b6];exact d.cB
  ·rw[ca b];have g:(s.o j).live:=by have:(bF s.o id _ j).live:=hl;rwa[ca b]at this
   exact h.cB j g
def mn(w0:World)(F0 Z0:ae)(n:cl)(s:av)(a:Act)(w:World)(ι:Nat->bz)(Z:ae)(an:av)(d:ae):Prop:=
 ∃ a',Inv w0 F0 Z0 n an a w a' Z/\gg false w Z s ι w Z an a' (fun _ _=>True)/\(∀b,bD w0 F0 s w ι Z b->ae.apart b d->bD w0 F0 an w a' Z b)/\∀id,(s.o id).live->an.o id=s.o id/\a' id=ι id
def rv(h:Inv w0 F0 Z0 n s a w ι Z)(b:ae):mn w0 F0 Z0 n s a w ι Z s b:=
 ⟨ι,h,⟨fun _ _ h=>h,fun _ _ h=>h,fun _ _ h=>h,fun _ _ _ h=>⟨h,rfl⟩,fun h=>by simp at h,bS.refl _ _,bS.refl _ _,fun _ _ h=>h,fun _ _ _ h=>h⟩,fun _ h _=>h,fun _ _=>⟨rfl,rfl⟩⟩
def HL(h:Inv w0 F0 Z0 n s a w ι Z){id:Nat}{o:b9}{i:bz}(k:¬(s.o id).live)(l:∀o',o≠.b7 o')(ht:gf (s.o id) (ι id) o i)
  (m:d_ w Z s ι w Z (s.bA id o) (bF ι id i)->gd w Z (s.bA id o) (bF ι id i) i o) (p:bD w0 F0 s w ι Z i.F):
  Inv w0 F0 Z0 n (s.bA id o) a w (bF ι id i) Z/\gg false w Z s ι w Z (s.bA id o) (bF ι id i) (fun _ _=>True)/\(∀X,bD w0 F0 s w ι Z X->ae.apart X i.F->bD w0 F0 (s.bA id o) w (bF ι id i) Z X) ∧
  ∀j,(s.o j).live->(s.bA id o).o j=s.o j/\bF ι id i j=ι j:=by
 obtain⟨h1,hm⟩:=h.ZA k ht m p;refine⟨h1,⟨fun _ _=>aR.move hm,fun _ _=>cd.move hm,fun _ _ h=>h,fun j o' _ q=>?_,fun h=>by simp at h,bS.refl _ _,bS.refl _ _,fun _ _ h=>h,fun _ _ _ h=>h⟩,fun X g r=>⟨g.own,fun j hl=>?_,g.cB⟩,fun j hl=>?_⟩
 ·have d:bF s.o id o j=.b7 o':=q;by_cases b:id=j
  ·subst b;rw[b6]at d;exact absurd d (l o')
  ·rw[ca b]at d;exact⟨d,ca b⟩
 ·by_cases b:id=j
  ·subst b;rw[b6];exact r
  ·rw[ca b];have u:(s.o j).live:=by have:(bF s.o id _ j).live:=hl;rwa[ca b]at this
   exact g.apart j u
 ·have b:id≠j:=fun e=>k (e▸hl)
  exact⟨ca b,ca b⟩
def wz(h:Inv w0 F0 Z0 n s a w ι Z){id:Nat}{o:b9}{i:bz}(b:¬(s.o id).live)(d:∀o',o≠.b7 o')(ht:gf (s.o id) (ι id) o i)
  (e:d_ w Z s ι w Z (s.bA id o) (bF ι id i)->gd w Z (s.bA id o) (bF ι id i) i o) (g:bD w0 F0 s w ι Z i.F):mn w0 F0 Z0 n s a w ι Z (s.bA id o) i.F:=⟨_,HL h b d ht e g⟩
mutual
def cS.len:∀(t:U) (m:a8) {cs:List a7}{vs:List Value}{H:ae},cS g w Z s ι t m cs vs H->vs.length=t.size
 |.int _,_,_,_,_,hk=>by simp only[cS]at hk;rw[hk.2];rfl
 |.bool,_,_,_,_,hk=>by simp only[cS]at hk;rw[hk.2];rfl
 |.str,_,_,_,_,hk=>by simp only[cS]at hk;rw[hk.2];rfl
 |.raw,_,_,_,_,hk=>by simp only[cS]at hk;rw[hk.2];rfl
 |.sl t,.R,_,_,_,hk=>by simp only[cS]at hk
 |.sl t,.S _,_,_,_,hk=>by simp only[cS]at hk
 |.sl t,.O e,_,_,_,hk=>by simp only[cS]at hk;obtain⟨c,v,_,rfl,_⟩:=hk;rfl
 |.st ah,m,_,_,_,hk=>by simp only[cS]at hk;simpa only[U.size]using fl.len ah m.parts hk
def fl.len:∀(ah:aw) (m:cA) {cs:List a7}{vs:List Value}{H:ae},fl g w Z s ι ah m cs vs H->vs.length=ah.size
 |.nil,_,_,_,_,hk=>by simp only[fl]at hk;rw[hk.2];rfl
 |.cons t ah,m,_,_,_,hk=>by simp only[fl]at hk;obtain⟨b,d,v1,h,i,j,_,rfl,h1,a,_⟩:=hk;rw[bZ,cS.len t m.aa h1,fl.len ah m.dq a];rfl
end
mutual
def U.wA:∀(t:U) (m:a8) (x:t.D) (d rest:List a7) (s:av) (ι:Nat->bz) (r:List a7×av) (us:List Value) (F H:ae),t.back x (d++rest) s=some r->Inv w0 F0 Z0 n s a w ι Z →
  cS false w Z s ι t m d us H->t.al w Z m x us F->bD w0 F0 s w ι Z F->bD w0 F0 s w ι Z H->ae.apart F H->r.1=rest/\mn w0 F0 Z0 n s a w ι Z r.2 (F.or H)
 |.int k,m,x,d,rest,s,ι,r,us,F,H,hb,h,hk,hr,u,y,l=>by
  simp only[cS]at hk;obtain⟨hk,_⟩:=hk
  match d,hk with
  | [c],_=>simp only[U.back,jF,jH,cQ]at hb;subst hb;exact⟨rfl,rv h _⟩
 |.bool,m,x,d,rest,s,ι,r,us,F,H,hb,h,hk,hr,u,y,l=>by
  simp only[cS]at hk;obtain⟨hk,_⟩:=hk
  match d,hk with
  | [c],_=>simp only[U.back,jF,jH,cQ]at hb;subst hb;exact⟨rfl,rv h _⟩
 |.str,m,x,d,rest,s,ι,r,us,F,H,hb,h,hk,hr,u,y,l=>by
  simp only[cS]at hk;obtain⟨hk,_⟩:=hk
  match d,hk with
  | [c],_=>simp only[U.back,jF,jH,cQ]at hb;subst hb;exact⟨rfl,rv h _⟩
 |.raw,m,x,d,rest,s,ι,r,us,F,H,hb,h,hk,hr,u,y,l=>by
  simp only[cS]at hk;obtain⟨hk,_⟩:=hk
  match d,hk with
  | [c],_=>simp only[U.back,jF,jH,cQ]at hb;subst hb;exact⟨rfl,rv h _⟩
 |.sl t,.R,x,d,rest,s,ι,r,us,F,H,hb,h,hk,hr,u,y,l=>by simp only[cS]at hk
 |.sl t,.S _,x,d,rest,s,ι,r,us,F,H,hb,h,hk,hr,u,y,l=>by simp only[cS]at hk
 |.sl t,.O e,x,d,rest,s,ι,r,us,F,H,hb,h,hk,hr,u,y,l=>by
  simp only[cS]at hk;obtain⟨c,v,rfl,rfl,hk⟩:=hk
  cases c with
  |nil az=>simp only[U.back,jF,jH,cQ]at hb;subst hb;exact⟨rfl,rv h _⟩
  |aa id sub=>
   cases sub with
   |some=>exact hk.elim
   |none=>
    simp only at hk;obtain⟨ver,xs,A,k,aA,_,hl,hv,hk⟩:=hk;simp only[U.back,jF,jH]at hb
    cases B:s.o id with
    |b7 Q=>
     rw[B]at hb;obtain⟨rfl,C,ba⟩:=hl Q B;simp only at hb;obtain⟨aB,aC,V⟩:=a6 hb;obtain⟨af,W⟩:=gx aC;have W:x=aB:=W.symm;subst W;obtain rfl:=aS V;refine⟨rfl,?_⟩;simp only[U.al]at hr;obtain⟨bb,k',X,hr⟩:=hr;rw[hv]at X;simp only[jI,Value.slice.injEq,fK]at X;obtain⟨rfl,hlen,rfl⟩:=X;have aD:=wz h (id:=id) (o:=.row t e (ver+1) x) (i:=⟨(ι id).base,(ι id).cap,F.or H⟩) (by rw[B];exact fun h=>h) (fun o'=>by simp) (by rw[B];exact .pL _ _ _ _ _ _ _ _ _ (by omega) hlen.symm rfl rfl) ?_ (u.or y)
     ·exact aD
     intro hm;rcases hk with⟨rfl,aE⟩|⟨b,o,Y,aF,bc,J,ab,D⟩
     ·left;refine⟨lq (by rw[<-hlen];rfl),?_⟩;show(ι id).cap=0;rw[C,aE]
     ·right;refine⟨at_ b o,Y _ B,?_⟩;rcases hr with⟨rfl,rfl⟩|⟨⟨bd,o',be⟩,aG,hr⟩
      ·refine⟨rfl,mc _,?_,?_,ae.none,trivial,fun _ _ h=>h,fun _ _ h=>h.elim⟩
       ·show ∀j,j<(ι id).cap*t.size->_
        rw[C];exact ab
       ·show ∀j,j<(ι id).cap*t.size->_
        rw[C];exact fun j I=>.inr (D j (by omega) I)
      ·have bg:=hr.cap;by_cases aj:k=0
       ·subst aj;have:x=[]:=lq (by omega);subst this;refine⟨rfl,mc _,?_,?_,ae.none,trivial,fun _ _ h=>h,fun _ _ h=>h.elim⟩
        ·show ∀j,j<(ι id).cap*t.size->_
         rw[C];exact ab
        ·show ∀j,j<(ι id).cap*t.size->_
         rw[C];exact fun j I=>.inr (D j (by omega) I)
       ·have J:=J.resolve_left aj;rw[aG]at J;simp only[at_,cQ,Addr.mk.injEq]at J;obtain⟨rfl,rfl,rfl⟩:=J;obtain⟨G,aH,aI,ak⟩:=hr.row;refine⟨rfl,?_,?_,?_,G,aH,?_,fun b o K=>.inl (ak b o K)⟩
        ·show x.length<=(ι id).cap;rw[C,<-hlen];exact aF
        ·show ∀j,j<(ι id).cap*t.size->_
         rw[C];exact ab
        ·show ∀j,j<(ι id).cap*t.size->_
         rw[C];intro j I;by_cases ac:j<k*t.size
         ·exact .inl (hr.inF j ac)
         ·exact .inr (D j (by omega) I)
        ·show ∀j,j<(ι id).cap*t.size->_
         rw[C];intro j I K;by_cases ac:j<k*t.size
         ·exact aI j ac K
         ·exact l _ _ (ak _ _ K) (D j (by omega) I)
    |_=>rw[B]at hb;simp at hb
  |bq az dp bh xs=>
   simp only at hk;obtain⟨p,i,T,ver,aJ,b,o,aA,rfl,aK,_,hl,bi,rfl,aL⟩:=hk;simp only[U.back,jF,jH]at hb;obtain⟨bj,E,V⟩:=a6 hb;obtain rfl:=aS V;simp only[tU,aK]at E
   cases B:s.o p.id with
   |b7 Q=>
    rw[B]at E;obtain⟨rfl,Y,C⟩:=hl Q B;simp only at E;obtain⟨z,aM,E⟩:=a6 E;obtain rfl:=aS E;refine⟨rfl,?_⟩
    exact wz h (id:=p.id) (o:=.row T T.own (ver+1) (aJ.set i z)) (i:=⟨(ι p.id).base,(ι p.id).cap,F.or H⟩) (by rw[B];exact fun h=>h) (fun o'=>by simp) (by rw[B];exact .pL _ _ _ _ _ _ _ _ _ (by omega) (by simp) rfl rfl)
     (fun hm=>.inr ⟨at_ b o,Y,by
      have:=aL w Z F x z (bS.refl _ _) hr l aM;rw[<-C]at this
      exact this⟩) (u.or y)
   |_=>rw[B]at E;simp at E
  |_=>exact hk.elim
 |.st ah,m,x,d,rest,s,ι,r,us,F,H,hb,h,hk,hr,u,y,l=>by simp only[U.back]at hb;simp only[cS]at hk;simp only[U.al]at hr;exact aw.wA ah m.parts x d rest s ι r us F H hb h hk hr u y l
def aw.wA:∀(ah:aw) (m:cA) (x:ah.D) (d rest:List a7) (s:av) (ι:Nat->bz) (r:List a7×av) (us:List Value) (F H:ae),ah.back x (d++rest) s=some r->Inv w0 F0 Z0 n s a w ι Z →
  fl false w Z s ι ah m d us H->ah.al w Z m x us F->bD w0 F0 s w ι Z F->bD w0 F0 s w ι Z H->ae.apart F H->r.1=rest/\mn w0 F0 Z0 n s a w ι Z r.2 (F.or H)
 |.nil,m,x,d,rest,s,ι,r,us,F,H,hb,h,hk,hr,u,y,l=>by simp only[fl]at hk;obtain⟨rfl,rfl⟩:=hk;simp only[aw.back,jH,cQ]at hb;subst hb;exact⟨rfl,rv h _⟩
 |.cons t ah,m,x,d,rest,s,ι,r,us,F,H,hb,h,hk,hr,u,y,l=>by
  simp only[fl]at hk;obtain⟨aN,al,v1,aO,aQ,an,rfl,rfl,ao,k2,aR,L,D⟩:=hk;simp only[aw.al]at hr;obtain⟨aT,bk,aU,aq,he,ar,aV,aW,M,N⟩:=hr;have hlen:v1.length=aT.length:=by rw[cS.len t m.aa ao,(U.al.len t m.aa ar).1]
  obtain⟨rfl,rfl⟩:=List.append_inj he hlen;simp only[aw.back,dW]at hb;obtain⟨q,aX,hb⟩:=a6 hb;obtain⟨af,aY,aZ,au,ad,a0⟩:=U.wA t m.aa x.1 aN (al++rest) s ι q v1 aU aQ aX h ao ar (u.sub M) (y.sub L) (fun b o h1 g=>l b o (M b o h1) (L b o g));rw[af]at hb
  obtain⟨a1,dY,i2,a2,a3,a4⟩:=aw.wA ah m.dq x.2 al rest q.2 aY r aO aq an hb aZ (fl.move (au.mono fun _ _ _=>trivial) (fun _ _ h=>h) ah m.dq k2) aV
   (ad aq (u.sub N) (by rintro b o h1 (g|g);exact aW b o g h1;exact l b o (N b o h1) (L b o g)))
   (ad an (y.sub D) (by rintro b o h1 (g|g);exact l b o (M b o g) (D b o h1);exact aR b o g h1))
   (fun b o h1 g=>l b o (N b o h1) (D b o g))
  refine⟨a1,dY,i2,au.trans a2,fun ax a5 P=>a3 ax (ad ax a5 ?_) ?_,fun id hl=>?_⟩
  ·rintro b o h1 (g|g)
   ·exact P b o h1 (.inl (M b o g))
   ·exact P b o h1 (.inr (L b o g))
  ·rintro b o h1 (g|g)
   ·exact P b o h1 (.inl (N b o g))
   ·exact P b o h1 (.inr (D b o g))
  ·obtain⟨ay,a9⟩:=a0 id hl;obtain⟨a_,a'⟩:=a4 id (ay▸hl);exact⟨a_.trans ay,a'.trans a9⟩
end
end
end Go.LM
namespace Go.LM
section
variable{P:Program}{Q:Exit->Act->World->Prop}
variable{g:Bool}{w0:World}{F0 Z0:ae}{n:cl}{s an:av}{a b0:Act}{w w' b5:World}{ι a' dY:Nat->bz}{Z Z' bK:ae}
def kl.held(h:kl s ι an a')(H:ae):gg false w Z s ι w Z an a' H:=by
 have hm:d_ w Z s ι w Z an a':=h.d';refine⟨fun _ _=>aR.move hm,fun _ _=>cd.move hm,fun _ _ h=>h,fun id o' _ a=>?_,fun h=>by simp at h,bS.refl _ _,bS.refl _ _,fun _ _ h=>h,fun _ _ _ h=>h⟩;by_cases hn:s.o id=.none
 ·exact absurd a (h.nl id o' hn)
 ·obtain⟨h1,b⟩:=h.o id hn;exact⟨by rw[<-h1,a],b⟩
def wB{dp:List (Nat×Nat)}(hl:∀d,d∈dp->(s.o d.1).live)(hk:∀id,(s.o id).live->an.o id=s.o id/\a' id=ι id):(∀d,d∈dp->(an.o d.1).live)/\db a' dp=db ι dp:=by
 refine⟨fun d aa=>by rw[(hk d.1 (hl d aa)).1];exact hl d aa,?_⟩
 funext b o
 apply propext;constructor
 ·rintro⟨d,aa,a⟩;exact⟨d,aa,by rw[<-(hk d.1 (hl d aa)).2];exact a⟩
 ·rintro⟨d,aa,a⟩;exact⟨d,aa,by rw[(hk d.1 (hl d aa)).2];exact a⟩
def kl.keeps(h:kl s ι an a'):∀id,(s.o id).live->an.o id=s.o id/\a' id=ι id:=fun id hl=>h.o id (fun e=>by rw[e]at hl;exact hl)
def bD.db{F:ae}{dp:List (Nat×Nat)}(a:bD w0 F0 s w ι Z F)(hl:∀d,d∈dp->(s.o d.1).live):ae.apart F (LM.db ι dp):=by
 rintro b o h ⟨d,aa,e⟩
 exact a.apart d.1 (hl d aa) b o h e
def mn.trans{d h:av}{e:Nat->bz}{i j l:ae}(h1:Inv w0 F0 Z0 n d a w e Z)(u:gg false w Z s ι w Z d e (fun _ _=>True))(v:∀X,bD w0 F0 s w ι Z X->ae.apart X i->bD w0 F0 d w e Z X)
  (hl:∀id,(s.o id).live->d.o id=s.o id/\e id=ι id) (k:mn w0 F0 Z0 n d a w e Z h j) (m:ae.sub (i.or j) l):mn w0 F0 Z0 n s a w ι Z h l:=by
 obtain⟨dY,i2,y,z,A⟩:=k;refine⟨dY,i2,u.trans y,fun X B p=>z X (v X B fun b o x g=>p b o x (m b o (.inl g))) fun b o x g=>p b o x (m b o (.inr g)),fun id q=>?_⟩;obtain⟨r,C⟩:=hl id q;obtain⟨D,E⟩:=A id (r▸q);exact⟨D.trans r,E.trans C⟩
def hC.mono(g:ae.sub Z Z'):∀(ps:List bt) {us:List Value}{x:(bt.dP ps).D}{F F':ae},ae.sub F F'->hC w Z ps us x F->hC w Z' ps us x F'
 | [],_,_,_,_,_,_=>trivial
 |.mut t m m'::ps,_,_,_,_,a,⟨b,o,vs,d,G,H,h1,e,j,k,l,n,p,q⟩=>⟨b,o,vs,d,G,H,h1,e,U.al.mono g _ _ (fun _ _ h=>h) j,hC.mono g ps (fun _ _ h=>h) k,l,n,fun b o h=>a b o (p b o h),fun b o h=>a b o (q b o h)⟩
 |.gu t m::ps,_,_,_,_,a,⟨vs,d,G,H,h1,e,j,k,l,n⟩=>⟨vs,d,G,H,h1,U.al.mono g _ _ (fun _ _ h=>h) e,hC.mono g ps (fun _ _ h=>h) j,k,fun b o h=>a b o (l b o h),fun b o h=>a b o (n b o h)⟩
 |.val _ _::ps,_,_,_,_,a,⟨i,d,h1,e⟩=>⟨i,d,h1,hC.mono g ps a e⟩
 |.gJ _::ps,_,_,_,_,a,⟨i,d,h1,e⟩=>⟨i,d,h1,hC.mono g ps a e⟩
 |.ref _::ps,_,_,_,_,a,⟨i,d,h1,e⟩=>⟨i,d,h1,hC.mono g ps a e⟩
 |.fn _ _::ps,_,_,_,_,a,⟨i,d,h1,e⟩=>⟨i,d,h1,hC.mono g ps a e⟩
def pR{dp:List (Nat×Nat)}:∀(ps:List bt) (vs:List aY) (us:List Value) (x:(bt.dP ps).D) (s:av) (ι:Nat->bz) (j:Nat) (q:av×Nat) (F H:ae),kM dp ps vs x s j=some q->Inv w0 F0 Z0 n s a w ι Z →
  ez false w Z s ι ps vs us H->hC w (Z.or (db ι dp)) ps us x F->bD w0 F0 s w ι Z F->bD w0 F0 s w ι Z H->ae.apart F H->(∀d,d∈dp->(s.o d.1).live/\ee s d)->mn w0 F0 Z0 n s a w ι Z q.1 (F.or H)
 | [],vs,us,x,s,ι,j,q,F,H,g,h,hk,hr,l,u,k,aa=>by simp only[kM,cQ]at g;subst g;exact rv h _
 |.val t m::ps,vs,us,x,s,ι,j,q,F,H,g,h,hk,hr,l,u,k,aa=>by obtain⟨v,B,Y,C,rfl,rfl,hk⟩:=hk;obtain⟨aE,ab,he,hr⟩:=hr;simp only[jI]at he;obtain⟨rfl,rfl⟩:=he;exact pR ps B C x s ι j q F H (by simpa only[kM]using g) h hk hr l u k aa
 |.gJ t::ps,vs,us,x,s,ι,j,q,F,H,g,h,hk,hr,l,u,k,aa=>by obtain⟨v,B,Y,C,rfl,rfl,hk⟩:=hk;obtain⟨aE,ab,he,hr⟩:=hr;simp only[jI]at he;obtain⟨rfl,rfl⟩:=he;exact pR ps B C x s ι j q F H (by simpa only[kM]using g) h hk hr l u k aa
 |.ref t::ps,vs,us,x,s,ι,j,q,F,H,g,h,hk,hr,l,u,k,aa=>by obtain⟨v,B,Y,C,rfl,rfl,hk⟩:=hk;obtain⟨aE,ab,he,hr⟩:=hr;simp only[jI]at he;obtain⟨rfl,rfl⟩:=he;exact pR ps B C x s ι j q F H (by simpa only[kM]using g) h hk hr l u k aa
 |.fn _ _::ps,vs,us,x,s,ι,j,q,F,H,g,h,hk,hr,l,u,k,aa=>by obtain⟨v,B,Y,C,rfl,rfl,hk⟩:=hk;obtain⟨aE,ab,he,hr⟩:=hr;simp only[jI]at he;obtain⟨rfl,rfl⟩:=he;exact pR ps B C x s ι j q F H (by simpa only[kM]using g) h hk hr l u k aa
 |.gu t m::ps,vs,us,x,s,ι,j,q,F,H,g,h,hk,hr,l,u,k,aa=>by
  obtain⟨v,B,Y,C,cs,I,N,rfl,rfl,aF,rfl,J,k2,ao,y,z⟩:=hk;obtain⟨L,ab,aq,ar,he,P,au,aw,D,A⟩:=hr;simp only[jI]at he;obtain⟨rfl,rfl⟩:=he;simp only[kM,aF]at g;obtain⟨r,hb,g⟩:=a6 g;have hl:=U.al.len t _ P;rw[zi hl.1 hl.2]at J;have aG:t.al w Z t.own x.1 L aq:=rn t P;obtain⟨aT,V,ax,aU,Q,aH⟩:=U.wA t t.own x.1 cs [] s ι r L aq I (by rw[dn];exact hb) h J aG (l.sub D) (u.sub y) (fun b o x e=>k b o (D b o x) (y b o e));have M:=wB (dp:=dp) (fun d hm=>(aa d hm).1) aH
  have ac:=pR ps B C x.2 r.2 V j q ar N g ax (ez.move (aU.mono fun _ _ _=>trivial) (fun _ _ h=>h) ps k2) (by rw[M.2];exact au)
   (Q ar (l.sub A) (by rintro b o x (e|e);exact aw b o e x;exact k b o (A b o x) (y b o e)))
   (Q N (u.sub z) (by rintro b o x (e|e);exact k b o (D b o e) (z b o x);exact ao b o e x))
   (fun b o x e=>k b o (A b o x) (z b o e)) (fun d hm=>⟨M.1 d hm,by have:=(aa d hm).2;unfold ee known jK at *;rw[(aH d.1 (aa d hm).1).1];exact this⟩)
  refine mn.trans ax aU Q aH ac ?_
  rintro b o ((e|e)|(e|e))
  ·exact .inl (D b o e)
  ·exact .inr (y b o e)
  ·exact .inl (A b o e)
  ·exact .inr (z b o e)
 |.mut t m m'::ps,vs,us,x,s,ι,j,q,F,H,g,h,hk,hr,l,u,k,aa=>by
  obtain⟨p,B,Y,C,I,N,rfl,rfl,J,k2,ao,y,z⟩:=hk;obtain⟨b,o,L,ab,G,ay,he,aV,P,au,aw,aW,D,A⟩:=hr;simp only[jI]at he;obtain⟨rfl,rfl⟩:=he;have W:ae.sub G F:=fun b o x=>D b o (.inl x)
  have bc:ae.sub (ae.run b o t.size) F:=fun b o x=>D b o (.inr x)
  have aX:=U.al.len t _ P;simp only[kM]at g
  cases K:s.o p.id with
  |b7 aZ=>
   rw[K]at g
   cases ad:p.eH with
   |none=>
    rw[ad]at g
    cases aZ with
    |var ver old=>
     simp only at g;obtain⟨r,bd,g⟩:=a6 g;rcases J with J|⟨_,_,_,_,_,_,_,_,_,_,_,_,af,_⟩
     case inr=>rw[ad]at af;simp at af
     obtain⟨be,bA,bh,o',az,_,hl,_,ah,hle,a0,aI,aA,a1⟩:=J;obtain⟨aj,aJ⟩:=hl _ K;simp only[b9.var.injEq]at aj;obtain⟨rfl,rfl⟩:=aj;simp only[Value.pointer.injEq,cQ,at_,Addr.mk.injEq,fK]at ah;obtain⟨rfl,rfl⟩:=ah;obtain⟨V,ax,aB,a2,Q⟩:=U.lv t m' dp x.1 s ι j r L G bd h P (l.sub W) ((l.sub W).db fun d hm=>(aa d hm).1) (fun d hm=>(aa d hm).2);obtain⟨a3,bi⟩:=aB.o p.id (by rw[K];simp);have bB:=a2.len;have bC:=a0.len;have bE:=aX.1;have bj:=aB.keeps;have aK:bD w0 F0 r.2.1 w V Z ((ae.run b (o'+p.off) t.size).or I):=(Q _ (l.sub bc) (fun b o x e=>aW b o e x)).or (Q _ (u.sub y) (fun b o x e=>k b o (W b o e) (y b o x)))
     have aL:=wz ax (id:=p.id) (o:=.var (ver+1) (old.take p.off++r.1++old.drop (p.off+t.size))) (i:=⟨(V p.id).base,(V p.id).cap,(ae.run b (o'+p.off) t.size).or I⟩)
      (by rw[a3,K];exact fun h=>h) (fun o'=>by simp) (by rw[a3,K];exact .wi _ _ _ _ _ _ (by omega) rfl) (fun hm=>by
       refine⟨at_ b o',c9 az p.off L,by rw[bi];exact aJ,rfl,?_,?_,?_⟩
       ·have bk:bG w Z r.2.1 V old az:=a0.move aB.d';have:=(bG.c9 bk a2 p.off).move hm;rwa[show p.off+r.1.length=p.off+t.size by omega]at this
       ·intro i v hv;unfold c9 at hv;show w.cell? (at_ b (o'+i))=some v;by_cases h1:i<p.off
        ·rw[dW,List.getElem?_append_left (by simp;omega),List.getElem?_take,bg h1]at hv;exact a1 i v hv (.inl h1)
        ·by_cases bF:i<p.off+t.size
         ·rw[List.getElem?_append_left (by simp;omega),List.getElem?_append_right (by simp;omega)]at hv;simp only[dX]at hv;have:=aV _ v hv;rwa[show o'+p.off +(i-min p.off az.length)=o'+i by omega]at this
         ·rw[List.getElem?_append_right (by simp;omega)]at hv;simp only[bZ,dX,List.getElem?_drop]at hv;rw[show p.off+L.length +(i-(min p.off az.length+L.length))=i by omega]at hv;exact a1 i v hv (.inr (by omega))
       ·intro i aM;have a4:i<old.length:=by simp only[bZ,dX,fS]at aM;omega
        refine⟨aI i a4,?_⟩;show(ae.run b (o'+p.off) t.size).or I b (o'+i);by_cases T:i<p.off\/p.off+t.size<=i
        ·exact .inr (aA i a4 T)
        ·exact .inl ⟨rfl,by omega,by omega⟩) aK
     obtain⟨dY,i2,aC,ak,al⟩:=aL;have aN:∀id,(s.o id).live->(r.2.1.bA p.id (.var (ver+1) (old.take p.off++r.1++old.drop (p.off+t.size)))).o id=s.o id/\dY id=ι id:=fun id a5=>by obtain⟨a7,bl⟩:=bj id a5;obtain⟨bm,bn⟩:=al id (a7▸a5);exact⟨bm.trans a7,bn.trans bl⟩
     have a9:gg false w Z s ι w Z (r.2.1.bA p.id (.var (ver+1) (old.take p.off++r.1++old.drop (p.off+t.size)))) dY (fun _ _=>True):=(aB.held _).trans aC
     have aO:∀X,bD w0 F0 s w ι Z X->ae.apart X ((G.or (ae.run b (o'+p.off) t.size)).or I)->bD w0 F0 (r.2.1.bA p.id (.var (ver+1) (old.take p.off++r.1++old.drop (p.off+t.size)))) w dY Z X:=fun X bo aQ=>by
      refine ak X (Q X bo fun b o x e=>aQ b o x (.inl (.inl e))) ?_
      rintro b o x (e|e)
      ·exact aQ b o x (.inl (.inr e))
      ·exact aQ b o x (.inr e)
     have M:=wB (dp:=dp) (fun d hm=>(aa d hm).1) aN
     have ac:=pR ps B C x.2 _ dY r.2.2 q ay N g i2 (ez.move (a9.mono fun _ _ _=>trivial) (fun _ _ h=>h) ps k2) (by rw[M.2];exact au)
      (aO ay (l.sub A) (by rintro b o x (e|e);exact aw b o e x;exact k b o (A b o x) (y b o e)))
      (aO N (u.sub z) (by rintro b o x (e|e);exact k b o (D b o e) (z b o x);exact ao b o e x))
      (fun b o x e=>k b o (A b o x) (z b o e)) (fun d hm=>⟨M.1 d hm,by have:=(aa d hm).2;unfold ee known jK at *;rw[(aN d.1 (aa d hm).1).1];exact this⟩)
     refine mn.trans i2 a9 aO aN ac ?_
     rintro b o ((e|e)|(e|e))
     ·exact .inl (D b o e)
     ·exact .inr (y b o e)
     ·exact .inl (A b o e)
     ·exact .inr (z b o e)
    |_=>simp at g
   |some i=>
    rw[ad]at g
    cases aZ with
    |row bH em ver xs=>
     simp only at g;obtain⟨e,bp,g⟩:=a6 g;obtain⟨aT,aR⟩:=y7 bp;subst aT;have aR:x.1=e:=aR.symm;subst aR;rcases J with⟨_,_,_,_,_,_,_,af,_⟩|⟨br,bs,J⟩
     ·rw[ad]at af;simp at af
     obtain⟨be,et,cW,bh,o',c,aq,ar,_,hl,a_,aM,ah,bu,aI,aA,bv,bw,bx,a',ba,bb⟩:=J;obtain⟨aj,aJ,aD⟩:=hl _ K;simp only[b9.row.injEq,heq_eq_eq,true_and]at aj;obtain⟨rfl,rfl,rfl⟩:=aj;rw[ad]at a_;obtain rfl:=aS a_;simp only[Value.pointer.injEq,cQ,at_,Addr.mk.injEq,fK]at ah;obtain⟨rfl,rfl⟩:=ah;subst br;have aG:t.al w Z m' x.1 L G:=by rw[bs]at P⊢;exact rn t P
     have aF:(i+1)*t.size<=c*t.size:=c3 _ (by omega);rw[de]at aF;have aK:bD w0 F0 s w ι Z ((G.or (ae.run b (o'+i*t.size) t.size)).or I):=(l.sub D).or (u.sub y)
     have aL:=wz h (id:=p.id) (o:=.row t m' (ver+1) (xs.set i x.1)) (i:=⟨(ι p.id).base,(ι p.id).cap,(G.or (ae.run b (o'+i*t.size) t.size)).or I⟩)
      (by rw[K];exact fun h=>h) (fun o'=>by simp) (by rw[K];exact .pL _ _ _ _ _ _ _ _ _ (by omega) (by simp) rfl rfl) (fun hm=>by
       right;refine⟨at_ b o',aJ,rfl,?_,?_,?_,?_⟩
       ·show(xs.set i x.1).length<=(ι p.id).cap;rw[bL,aD];exact bu
       ·show ∀j,j<(ι p.id).cap*t.size->_
        rw[aD];exact aI
       ·show ∀j,j<(ι p.id).cap*t.size->_
        rw[aD];intro j an;show((G.or (ae.run b (o'+i*t.size) t.size)).or I) b (o'+j);by_cases T:j<i*t.size\/(i+1)*t.size<=j
        ·exact .inr (aA j an T)
        ·rw[de]at T;exact .inl (.inr ⟨rfl,by omega,by omega⟩)
       ·refine⟨aq.or (G.or ar),Row.um i aM bv aG aX.1 aV bw (fun b o x e=>k b o (W b o e) (y b o (a' b o x))) bx (fun b o x e=>k b o (W b o x) (y b o (ba b o e))),?_,?_⟩
        ·show ∀j,j<(ι p.id).cap*t.size->_
         rw[aD]
         rintro j an (E|E|E)
         ·exact(bb j an).1 E
         ·by_cases T:j<i*t.size\/(i+1)*t.size<=j
          ·exact k _ _ (W _ _ E) (y _ _ (aA j an T))
          ·rw[de]at T;exact aW _ _ E ⟨rfl,by show o'+i*t.size<=o'+j;omega,by show o'+j<_;omega⟩
         ·exact(bb j an).2 E
        ·rintro b o (E|E|E)
         ·exact .inr (a' b o E)
         ·exact .inl (.inl E)
         ·exact .inr (ba b o E)) aK
     obtain⟨dY,i2,aC,ak,al⟩:=aL;have M:=wB (dp:=dp) (fun d hm=>(aa d hm).1) al
     have ac:=pR ps B C x.2 _ dY j q ay N g i2 (ez.move (aC.mono fun _ _ _=>trivial) (fun _ _ h=>h) ps k2) (by rw[M.2];exact au)
      (ak ay (l.sub A) (by rintro b o x (e|e);exact aw b o e x;exact k b o (A b o x) (y b o e)))
      (ak N (u.sub z) (by rintro b o x (e|e);exact k b o (D b o e) (z b o x);exact ao b o e x))
      (fun b o x e=>k b o (A b o x) (z b o e)) (fun d hm=>⟨M.1 d hm,by have:=(aa d hm).2;unfold ee known jK at *;rw[(al d.1 (aa d hm).1).1];exact this⟩)
     refine mn.trans i2 aC ak al ac ?_
     rintro b o ((e|e)|(e|e))
     ·exact .inl (D b o e)
     ·exact .inr (y b o e)
     ·exact .inl (A b o e)
     ·exact .inr (z b o e)
    |_=>simp at g
  |_=>rw[K]at g;simp at g
end
end Go.LM
namespace Go.LM
section
variable{P:Program}{Q:Exit->Act->World->Prop}
variable{g:Bool}{w0:World}{F0 Z0:ae}{n:cl}{s an:av}{a b0:Act}{w w' b5:World}{ι a' dY:Nat->bz}{Z Z' bK:ae}
variable{E:Env}{o:Oper}{bn:Type}{K:av->Option bn}{r:bn}{id:Nat}
def zu:∀{dp:List (Nat×Nat)},alive s dp=true->∀d,d∈dp->(s.o d.1).live
 | [],_,d,aa=>by simp at aa
 |(i,v)::dp,h,d,aa=>by
  unfold alive at h;rcases List.mem_cons.1 aa with rfl|aa
  ·cases a:s.o i with
   |row=>trivial
   |var=>trivial
   |_=>rw[a]at h;simp at h
  ·cases a:s.o i with
   |row t em ver xs=>
    rw[a]at h;simp only at h;cases hb:Nat.beq ver v
    ·rw[hb]at h;simp at h
    ·rw[hb]at h;exact zu h d aa
   |var ver cs=>
    rw[a]at h;simp only at h;cases hb:Nat.beq ver v
    ·rw[hb]at h;simp at h
    ·rw[hb]at h;exact zu h d aa
   |_=>rw[a]at h;simp at h
def aX.append:∀{x y:List aY}{us vs:List Value},aX w Z s ι x us->aX w Z s ι y vs->aX w Z s ι (x++y) (us++vs)
 | [],_,_,_,h,k=>by simp only[aX]at h;subst h;exact k
 |_::_,_,_,_,h,k=>by simp only[aX]at h;obtain⟨a,d,rfl,h1,b⟩:=h;simp only[jF,aX];exact⟨a,_,rfl,h1,b.append k⟩
def HM:∀{x:List aY}{us:List Value},mi x=true->aX w Z s ι x us->aX w Z s ι (kj x) (fI us)
 | [],_,_,h=>by simp only[aX]at h;subst h;simp only[kj,fI,aX]
 |v::l,_,hn,h=>by
  simp only[aX]at h;obtain⟨g,k,rfl,h1,e⟩:=h;have hl:mi l=true:=by cases v<;>simp_all[mi]
  have d:=HM hl e
  cases v with
  |fn f a b=>simp only[aR]at h1;obtain⟨xs,m,rfl,i,j⟩:=h1;simp only[kj,fI];exact(i.append j).append d
  |bf=>simp[mi]at hn
  |aP c=>
   simp only[kj]
   have:∀f a b,g≠.func f a b:=by
    rintro f a b rfl
    simp only[aR]at h1
    cases c with
    |bq=>obtain⟨_,⟨_,_,_,h⟩,_⟩:=h1;simp at h
    |aa=>obtain⟨_,_,_,_,h,_⟩:=h1;simp at h
    |str=>obtain⟨_,h,_⟩:=h1;simp at h
    |raw=>obtain⟨h,_,_,_,e⟩:=h1;rw[e]at h;simp at h
    |_=>simp[cd]at h1
   cases g<;>first|exact d|exact absurd rfl (this _ _ _)
  |hJ cs=>simp only[aR]at h1;obtain⟨_,rfl,_⟩:=h1;exact d
  |ptr p=>simp only[aR]at h1;obtain⟨_,_,rfl,_⟩:=h1;exact d
  |c2=>simp only[aR]at h1;obtain⟨_,_,_,_,rfl,_⟩:=h1;exact d
  |gone=>simp[mi]at hn
  |pB=>simp[mi]at hn
  |jl=>simp only[aR]at h1;subst h1;exact d
  |jX=>simp only[aR]at h1;subst h1;exact d
  |may=>simp only[aR]at h1;rcases h1 with⟨_,rfl⟩|⟨_,_,_,_,_,rfl,_⟩<;>exact d
  |opt=>simp only[aR]at h1;rcases h1.2 with⟨_,rfl⟩|⟨_,_,rfl,_⟩<;>exact d
  |mZ=>simp only[aR]at h1;obtain⟨_,rfl,_⟩:=h1;exact d
mutual
def cS.kP:∀(t:U) (m:a8) {cs:List a7}{vs:List Value}{H:ae},cS true w Z s ι t m cs vs H->cS false w Z s ι t m cs vs H
 |.int _,_,_,_,_,hk=>by simp only[cS]at hk⊢;exact hk
 |.bool,_,_,_,_,hk=>by simp only[cS]at hk⊢;exact hk
 |.str,_,_,_,_,hk=>by simp only[cS]at hk⊢;exact hk
 |.raw,_,_,_,_,hk=>by simp only[cS]at hk⊢;exact hk
 |.sl t,.R,_,_,_,hk=>by simp only[cS]at hk
 |.sl t,.S _,_,_,_,hk=>by simp only[cS]at hk
 |.sl t,.O e,_,_,_,hk=>by
  simp only[cS]at hk⊢;obtain⟨c,v,h1,a,hk⟩:=hk;refine⟨c,v,h1,a,?_⟩
  cases c with
  |nil=>exact hk
  |aa id sub=>
   cases sub with
   |some=>exact hk
   |none=>obtain⟨ver,xs,A,k,c,_,h⟩:=hk;exact⟨ver,xs,A,k,c,fun h=>by simp at h,h⟩
  |bq z dp B xs=>obtain⟨p,i,T,ver,d,b,o,c,h1,a,_,h⟩:=hk;exact⟨p,i,T,ver,d,b,o,c,h1,a,fun h=>by simp at h,h⟩
  |_=>exact hk
 |.st ah,m,_,_,_,hk=>by simp only[cS]at hk⊢;exact fl.kP ah m.parts hk
def fl.kP:∀(ah:aw) (m:cA) {cs:List a7}{vs:List Value}{H:ae},fl true w Z s ι ah m cs vs H->fl false w Z s ι ah m cs vs H
 |.nil,_,_,_,_,hk=>by simp only[fl]at hk⊢;exact hk
 |.cons t ah,m,_,_,_,hk=>by simp only[fl]at hk⊢;obtain⟨g,j,v1,l,n,q,h1,a,r,u,y⟩:=hk;exact⟨g,j,v1,l,n,q,h1,a,cS.kP t m.aa r,fl.kP ah m.dq u,y⟩
end
def ez.kP:∀(ps:List bt) {vs:List aY}{us:List Value}{H:ae},ez true w Z s ι ps vs us H->ez false w Z s ι ps vs us H
 | [],_,_,_,_=>trivial
 |.mut t m m'::ps,_,_,_,⟨p,g,i,j,n,o,h1,k,l,q,r⟩=>⟨p,g,i,j,n,o,h1,k,l.imp (fun⟨a,b,c,d,e,_,h⟩=>⟨a,b,c,d,e,fun h=>by simp at h,h⟩) (fun⟨u,y,a,b,c,d,e,f,z,A,_,h⟩=>⟨u,y,a,b,c,d,e,f,z,A,fun h=>by simp at h,h⟩),ez.kP ps q,r⟩
 |.gu t m::ps,_,_,_,⟨v,g,i,j,cs,n,o,h1,k,l,B,q,r,C⟩=>⟨v,g,i,j,cs,n,o,h1,k,l,B,cS.kP t m q,ez.kP ps r,C⟩
 |.val _ _::ps,_,_,_,⟨v,g,i,j,h1,k,l⟩=>⟨v,g,i,j,h1,k,ez.kP ps l⟩
 |.gJ _::ps,_,_,_,⟨v,g,i,j,h1,k,l⟩=>⟨v,g,i,j,h1,k,ez.kP ps l⟩
 |.ref _::ps,_,_,_,⟨v,g,i,j,h1,k,l⟩=>⟨v,g,i,j,h1,k,ez.kP ps l⟩
 |.fn _ _::ps,_,_,_,⟨v,g,i,j,h1,k,l⟩=>⟨v,g,i,j,h1,k,ez.kP ps l⟩
def gW.mono(g:ae.sub Z Z'){ps:List bt}{us:List Value}:∀(rs:List cN) {x:(cN.outs rs (bt.dP ps)).D}{dg:List Value}{F F':ae},ae.sub F F'->gW w Z ps us rs x dg F->gW w Z' ps us rs x dg F'
 | [],_,_,_,_,d,⟨h1,e⟩=>⟨h1,hC.mono g ps d e⟩
 |.val t m::rs,_,_,_,_,d,⟨vs,i,G,H,h1,e,k,l,n,p⟩=>⟨vs,i,G,H,h1,U.al.mono g _ _ (fun _ _ h=>h) e,gW.mono g rs (fun _ _ h=>h) k,l,fun b o h=>d b o (n b o h),fun b o h=>d b o (p b o h)⟩
 |.opt a off t::rs,_,_,_,_,d,⟨v,i,h1,e,k⟩=>⟨v,i,h1,e,gW.mono g rs d k⟩
 |.any t::rs,_,_,_,_,d,⟨v,i,h1,e,k⟩=>⟨v,i,h1,e,gW.mono g rs d k⟩
 |.m1 t::rs,_,_,_,_,d,⟨v,i,h1,e,k⟩=>⟨v,i,h1,e.imp (fun h=>h) fun⟨q,b,o,vs,r,k2,k3,aZ,a_⟩=>⟨q,b,o,vs,r,k2,k3,U.al.mono g _ _ (fun _ _ h=>h) aZ,fun j s=>g _ _ (a_ j s)⟩,gW.mono g rs d k⟩
 |.new t m::rs,_,_,_,_,d,⟨b,o,vs,i,G,H,h1,e,u,k,l,n,p,y,z⟩=>⟨b,o,vs,i,G,H,h1,e,u,U.al.mono g _ _ (fun _ _ h=>h) k,gW.mono g rs (fun _ _ h=>h) l,n,p,fun b o h=>d b o (y b o h),fun b o h=>d b o (z b o h)⟩
def iG.plus{p:Place}{b o:Nat}(k:Nat)(h:iG s ι p (at_ b o)):iG s ι { p with off:=p.off+k } (at_ b (o+k)):=by
 obtain⟨_,h⟩:=h;refine⟨rfl,?_⟩;show match (s.o p.id).core with|.var _ _=>_|.row .. => _|_=>_
 cases hc:(s.o p.id).core with
 |var ver cs=>rw[hc]at h;obtain⟨h1,d,e,a⟩:=h;simp only[at_,Addr.mk.injEq,fK]at a;exact⟨h1,d,e,by simp only[at_,Addr.mk.injEq,fK];exact⟨a.1,by omega⟩⟩
 |row t em ver xs=>rw[hc]at h;obtain⟨i,h1,e,d,a,g⟩:=h;simp only[at_,Addr.mk.injEq,fK]at g;exact⟨i,h1,e,d,a,by simp only[at_,Addr.mk.injEq,fK];exact⟨g.1,by omega⟩⟩
 |_=>trivial
def aX.get:∀{x:List aY}{us:List Value} (i:Nat) {v:aY},aX w Z s ι x us->x[i]?=some v->∃u,us[i]?=some u/\aR w Z s ι v u
 | [],_,i,_,_,h=>by simp at h
 |b::l,_,0,v,h,hv=>by simp only[aX]at h;obtain⟨u,d,rfl,h1,a⟩:=h;simp at hv;subst hv;exact⟨u,rfl,h1⟩
 |b::l,_,i+1,v,h,hv=>by simp only[aX]at h;obtain⟨u,d,rfl,h1,a⟩:=h;simp only[List.getElem?_cons_succ]at hv⊢;exact a.get i hv
def aX.held{g:Bool}{H:ae}(h:gg g w Z s ι w' Z' an a' H):∀{x:List aY}{us:List Value},aX w Z s ι x us->aX w' Z' an a' x us
 | [],_,a=>by simp only[aX]at a⊢;exact a
 |j::l,_,a=>by simp only[aX]at a⊢;obtain⟨b,d,e,h1,i⟩:=a;exact⟨b,d,e,h.aH _ _ h1,aX.held h i⟩
def uw{G:List (Nat×Nat)}{ps:List bt}{vs:List aY}{us:List Value}:∀(rs:List cN) (x:(cN.outs rs (bt.dP ps)).D) (dg:List Value) (s:av) (ι:Nat->bz) (j:Nat) (q:List aY×av) (F H:ae),ki vs ps G rs x s j=some q →
  Inv w0 F0 Z0 n s a w ι Z->ez false w Z s ι ps vs us H->gW w (Z.or (db ι G)) ps us rs x dg F->bD w0 F0 s w ι Z F->bD w0 F0 s w ι Z H->ae.apart F H->(∀d,d∈G->(s.o d.1).live/\ee s d)->aX w Z s ι vs us →
  ∃ a',Inv w0 F0 Z0 n q.2 a w a' Z/\(∀x u,aR w Z s ι x u->aR w Z q.2 a' x u)/\aX w Z q.2 a' q.1 dg
 | [],x,dg,s,ι,j,q,F,H,e,h,hk,hr,l,C,B,aa,hv=>by simp only[ki]at e;obtain⟨r,J,e⟩:=a6 e;obtain rfl:=aS e;obtain⟨rfl,hr⟩:=hr;obtain⟨a',cW,held,_⟩:=pR ps vs us x s ι j r F H J h hk hr l C B aa;exact⟨a',cW,held.aH,by simp only[aX]⟩
 |.val t m::rs,x,dg,s,ι,j,q,F,H,e,h,hk,hr,l,C,B,aa,hv=>by
  simp only[ki]at e;obtain⟨r,J,e⟩:=a6 e
  cases al:iX t r.1 with
  |none=>rw[al]at e;simp at e
  |some v=>
   rw[al]at e;simp only at e;obtain⟨p,ai,e⟩:=a6 e;obtain rfl:=aS e;obtain⟨Q,y,X,Y,rfl,aj,K,an,M,ab⟩:=hr;obtain⟨T,ao,N,ac,ad⟩:=U.lv t m G x.1 s ι j r Q X J h aj (l.sub M) ((l.sub M).db fun d hm=>(aa d hm).1) (fun d hm=>(aa d hm).2);have aC:gg false w Z s ι w Z r.2.1 T (fun _ _=>True):=N.held _;have af:=wB (dp:=G) (fun d hm=>(aa d hm).1) N.keeps;have aq:aX w Z r.2.1 T vs us:=aX.move (N.d' (w:=w) (Z:=Z)) hv
   obtain⟨dY,i2,E,L⟩:=uw rs x.2 y r.2.1 T r.2.2 p Y H ai ao (ez.move (aC.mono fun _ _ _=>trivial) (fun _ _ h=>h) ps hk) (by rw[af.2];exact K)
    (ad Y (l.sub ab) (fun b o x g=>an b o g x)) (ad H C (fun b o x g=>B b o (M b o g) x)) (fun b o x g=>B b o (ab b o x) g)
    (fun d hm=>⟨af.1 d hm,by have:=(aa d hm).2;unfold ee known jK at *;rw[(N.keeps d.1 (aa d hm).1).1];exact this⟩) aq
   refine⟨dY,i2,fun x u J=>E x u (aC.aH x u J),?_⟩;simp only[aX];exact⟨_,y,rfl,E _ _ (ml al ac),L⟩
 |.new t m::rs,x,dg,s,ι,j,q,F,H,e,h,hk,hr,l,C,B,aa,hv=>by
  simp only[ki]at e;obtain⟨r,J,e⟩:=a6 e;obtain⟨bl,hm,e⟩:=a6 e;obtain⟨p,ai,e⟩:=a6 e;obtain rfl:=aS e;obtain⟨aD,rfl⟩:=n_ hm;obtain⟨b,o,Q,y,X,Y,rfl,aV,aW,aj,K,an,aZ,M,ab⟩:=hr;have aE:ae.sub X F:=fun b o x=>M b o (.inl x)
  have a0:ae.sub (ae.run b o t.size) F:=fun b o x=>M b o (.inr x)
  obtain⟨T,ao,N,ac,ad⟩:=U.lv t m G x.1 s ι j r Q X J h aj (l.sub aE) ((l.sub aE).db fun d hm=>(aa d hm).1) (fun d hm=>(aa d hm).2);have hl:=(U.al.len t _ aj).1;have bm:=ac.len;have a1:=ad _ (l.sub a0) (fun b o x g=>aZ b o g x);obtain⟨i2,a2,a3,a4⟩:=HL ao (id:=r.2.2) (o:=.var 0 r.1) (i:=⟨some (at_ b o),0,ae.run b o t.size⟩) (by rw[aD];exact fun h=>h) (fun o'=>by simp) (by rw[aD];exact .made _ _ _) (fun hm=>by refine⟨at_ b o,Q,rfl,rfl,ac.move hm,aV,fun k hk=>⟨aW k (by omega),rfl,by simp[at_],by simp[at_];omega⟩⟩) a1;have held:gg false w Z s ι w Z _ _ (fun _ _=>True):=(N.held _).trans a2;have aF:∀id,(s.o id).live->(r.2.1.bA r.2.2 (.var 0 r.1)).o id=s.o id/\bF T r.2.2 ⟨some (at_ b o),0,ae.run b o t.size⟩ id=ι id:=fun id aG=>by obtain⟨h1,D⟩:=N.keeps id aG;obtain⟨ah,V⟩:=a4 id (by rw[h1];exact aG);exact⟨ah.trans h1,V.trans D⟩
  have af:=wB (dp:=G) (fun d hm=>(aa d hm).1) aF;have aq:aX w Z _ _ vs us:=aX.held held hv;have aH:∀W,bD w0 F0 s w ι Z W->ae.apart W (X.or (ae.run b o t.size))->bD w0 F0 (r.2.1.bA r.2.2 (.var 0 r.1)) w (bF T r.2.2 ⟨some (at_ b o),0,ae.run b o t.size⟩) Z W:=fun W a5 aI=>a3 W (ad W a5 fun b o x g=>aI b o x (.inl g)) fun b o x g=>aI b o x (.inr g)
  obtain⟨a7,a9,aJ,L⟩:=uw rs x.2 y _ _ _ p Y H ai i2 (ez.move (held.mono fun _ _ _=>trivial) (fun _ _ h=>h) ps hk) (by rw[af.2];exact K)
   (aH Y (l.sub ab) (fun b o x g=>an b o g x)) (aH H C (fun b o x g=>B b o (M b o g) x)) (fun b o x g=>B b o (ab b o x) g)
   (fun d hm=>⟨af.1 d hm,by have:=(aa d hm).2;unfold ee known jK at *;rw[(aF d.1 (aa d hm).1).1];exact this⟩) aq
  refine⟨a7,a9,fun x u J=>aJ x u (held.aH x u J),?_⟩;simp only[aX];refine⟨_,y,rfl,aJ _ _ ?_,L⟩;simp only[aR];refine⟨by show bF r.2.1.o r.2.2 _ r.2.2≠_;rw[b6];simp,_,rfl,rfl,?_⟩;show match (bF r.2.1.o r.2.2 _ r.2.2).core with|.var _ _=>_|.row .. => _|_=>_
  rw[b6];exact⟨rfl,at_ b o,by rw[b6],by simp[at_]⟩
 |.any t::rs,x,dg,s,ι,j,q,F,H,e,h,hk,hr,l,C,B,aa,hv=>by simp only[ki]at e;obtain⟨p,ai,e⟩:=a6 e;obtain rfl:=aS e;obtain⟨v,y,rfl,a_,K⟩:=hr;obtain⟨dY,i2,E,L⟩:=uw rs x y s ι j p F H ai h hk K l C B aa hv;refine⟨dY,i2,E,?_⟩;simp only[aX];exact⟨_,y,rfl,by simp only[aR];exact a_,L⟩
 |.m1 t::rs,x,dg,s,ι,j,q,F,H,e,h,hk,hr,l,C,B,aa,hv=>by
  simp only[ki]at e;obtain⟨p,ai,e⟩:=a6 e;obtain rfl:=aS e;obtain⟨v,y,rfl,ar,K⟩:=hr;obtain⟨dY,i2,E,L⟩:=uw rs x.2 y s ι j p F H ai h hk K l C B aa hv;refine⟨dY,i2,E,?_⟩;simp only[aX];refine⟨v,y,rfl,E _ _ ?_,L⟩;simp only[aR];rcases ar with⟨h1,D⟩|⟨g,b,o,aK,h1,D,ah,V,aw⟩
  ·exact .inl ⟨by rw[h1];rfl,D⟩
  ·right;rw[h1];refine⟨rfl,fun d hm=>(aa d hm).2,b,o,aK,D,fun _=>?_⟩;have hc:bG w Z s ι (t.cells G none g) aK:=U.n8 t G none (fun d hm=>(aa d hm).2) (fun _=>V) ⟨_,_,_,V⟩ .none;refine⟨hc,ah,fun j ba=>?_⟩;have hl:=(U.al.len t _ V).1;have bn:=hc.len;exact aw j (by rw[show(I t [g] 0)=g from rfl]at ba;omega)
 |.opt ax off t::rs,x,dg,s,ι,j,q,F,H,e,h,hk,hr,l,C,B,aa,hv=>by
  simp only[ki]at e;obtain⟨p,ai,e⟩:=a6 e
  cases z:n3 p.2 vs ax off with
  |none=>rw[z]at e;simp at e
  |some id=>
   rw[z]at e;simp only at e;cases P:n4 p.2 t id
   ·rw[P]at e;cases e
   rw[P]at e;simp only[au]at e;obtain rfl:=aS e;obtain⟨v,y,rfl,ar,K⟩:=hr;obtain⟨dY,i2,E,L⟩:=uw rs x.2 y s ι j p F H ai h hk K l C B aa hv;refine⟨dY,i2,E,?_⟩;simp only[aX];refine⟨v,y,rfl,?_,L⟩;unfold n3 at z
   cases ay:vs[ax]? with
   |none=>rw[ay]at z;simp at z
   |some bb=>
    rw[ay]at z
    cases bb with
    |ptr aL=>
     simp only at z
     cases az:kL p.2 1 { aL with off:=aL.off+off }with
     |none=>rw[az]at z;simp at z
     |some cs=>
      rw[az]at z
      have bc:cs=[.aa id none]:=by
       split at z
       ·rename_i h;obtain rfl:=aS z;exact aS h
       ·simp at z
      subst bc;obtain⟨u,bd,ak⟩:=hv.get ax ay;have ak:=E _ _ ak;simp only[aR]at ak;obtain⟨bo,A,rfl,aM⟩:=ak;obtain⟨b,o,bp⟩:=A;have aN:=aM.1;simp only at aN;subst aN;obtain⟨br,bs,Q,aO,aA,be,bu⟩:=wk i2 az (iG.plus (b:=b) (o:=o) off aM);simp only[at_,Addr.mk.injEq,fK]at aO;obtain⟨rfl,rfl⟩:=aO
      match Q,aA with
      | [v0],aA=>
       obtain⟨bg,A,m,k,rfl,bh⟩:=aA.1;simp only[aR];refine⟨bg,?_⟩;rcases ar with⟨h1,D⟩|⟨h1,bv,bw,bx,bA,bi,ac,D,ah,V,aw⟩
       ·exact .inl ⟨h1,D⟩
       ·right;refine⟨h1,_,aw,rfl,?_⟩;rw[bd]at D;simp only[cQ,Value.pointer.injEq,at_,Addr.mk.injEq,fK]at D;obtain⟨rfl,rfl⟩:=D;have:=be.head;rw[ah]at this;simp only[cQ,Value.slice.injEq]at this;obtain⟨rfl,rfl,rfl⟩:=this;show match (p.2.o id).core with|.var _ _=>_|.row .. => _|_=>_
        unfold n4 at P
        cases aB:p.2.o id with
        |row u em ver xs=>
         rw[aB]at P;have:=U.eq_of_beq _ _ P;subst this;obtain⟨aQ,bB,bC,bE,aT⟩:=bh u em ver xs (kk aB);have aQ:bi=xs.length:=aQ;rcases aT with aT|⟨bj,bk,aU⟩
         ·omega
         ·simp only[dz,Nat.zero_mul,cz,cQ,at_,Addr.mk.injEq,fK]at aU;refine⟨_,rfl,by omega,bj,bk,?_⟩;simp only[at_,Addr.mk.injEq,fK];exact⟨aU.1,by omega⟩
        |_=>rw[aB]at P;cases P
    |_=>simp at z
end
end Go.LM
namespace Go.LM
section
variable{P:Program}{Q:Exit->Act->World->Prop}
variable{g:Bool}{w0:World}{F0 Z0:ae}{n:cl}{s an:av}{a b0:Act}{w w' b5:World}{ι a' dY:Nat->bz}{Z Z' bK:ae}
variable{E:Env}{o:Oper}{bn:Type}{K:av->Option bn}{r:bn}{id:Nat}
def zv:List aY->aY
 | [v]=>v
 |l=>.mZ l
def Calls.mono{P:Program}{f:FuncId}{args:Array Value}{w:World}{R ie:Ending->World->Prop}(h:Calls P f args w R)(a:∀e w',R e w'->ie e w'):Calls P f args w ie:=by intro cs;obtain⟨e,w',b,h1,d⟩:=h cs;exact⟨e,w',b,a e w' h1,d⟩
def uq.mono{P:Program}{f:FuncId}{args:Array Value}{w:World}{R ie:Ending->World->Prop}(h:uq P f args w R)(b:∀e w',R e w'->ie e w'):uq P f args w ie:=by
 rcases h with⟨h1,a⟩|⟨v,w',h1,a⟩
 ·exact .inl ⟨h1,Calls.mono a b⟩
 ·exact .inr ⟨v,w',h1,b _ _ a⟩
def zw(P:Program)(E:Env):Prop:=∀f key e,E.fns f key=some e->gR P f key e
def ZB{f:FuncId}{vs:List aY}{us:List Value}{K:aY->av->Option bn}(ao:zw P E)(h:Inv w0 F0 Z0 n s a w ι Z)(hv:aX w Z s ι vs us)(hk:GU E id s f vs K=some r):
  ∃(T:aY->av->Prop),(∀v an,T v an->K v an=some r)/\(∃v an,T v an)/\uq P f us.toArray w fun e w'=>∃u,e=.returned u/\∀v an,T v an->∃ a' Z',Inv w0 F0 Z0 n an a w' a' Z'/\aR w' Z' an a' v u:=by
 unfold GU at hk
 cases g:E.fns f (m3 vs)with
 |none=>rw[g]at hk;simp at hk
 |some e=>
  rw[g]at hk;simp only at hk
  cases hm:fL (m3 vs) s e.ps (vs++kj vs) []with
  |none=>rw[hm]at hk;simp at hk
  |some q=>
   obtain⟨x,j,J⟩:=q;rw[hm]at hk;simp only at hk;cases B:(alive j J&&mi vs)
   ·rw[B]at hk;simp at hk
   rw[B]at hk;simp only[bs]at B;obtain⟨B,aq⟩:=B;simp only[au]at hk;obtain⟨L,ar,hk⟩:=a6 hk
   cases C:ki (vs++kj vs) e.ps J e.rs L j id with
   |none=>rw[C]at hk;simp at hk
   |some q=>
    obtain⟨l,U⟩:=q;rw[C]at hk;have aw:=ao f _ e g;have V:=hv.append (HM aq hv);obtain⟨F,H,m,p,W,X,Y,y,h1,M,_,ab,_⟩:=ob e.ps _ _ s Z [] _ hm h V (by simp);simp only at p W X Y y h1 ab;have D:=zu B
    have ax:=aw.calls w (m.or (db ι J)) F x us L
     (by
      rintro b o (i|⟨d,aa,g⟩)
      ·exact p.hK b o i
      ·exact(p.own d.1 (D d aa) b o g).2)
     (fun b o g=>(y.own b o g).2)
     (by
      rintro b o g (i|i)
      ·exact y.cB b o g i
      ·exact y.db D b o g i) X ar
    refine⟨fun di an=>di=zv l/\an=U,?_,⟨_,U,rfl,rfl⟩,ax.mono ?_⟩
    ·rintro di an ⟨rfl,rfl⟩
     clear C
     match l,hk with
     | [],hk=>exact hk
     | [_],hk=>exact hk
     |_::_::_,hk=>exact hk
    ·rintro end_ w' ⟨u,rfl,⟨dg,Z',F',rfl,A,aK,ac,ad,ay,az⟩⟩
     refine⟨_,rfl,?_⟩
     rintro di an ⟨rfl,rfl⟩
     let S:ae:=fun b o=>Z' b o/\(F b o\/w.heap.size<=b)
     have aA:=p.zo y A
     have af:∀(N:ae),(∀b o,N b o->(F b o\/w.heap.size<=b)/\b<w'.heap.size)->bD w0 F0 j w' ι m N:=by
      intro N G;have aB:=p.ext.size;refine⟨fun b o hb=>⟨?_,(G b o hb).2⟩,fun id hl b o hb ah=>?_,fun b o hb i=>?_⟩
      ·rcases (G b o hb).1 with g|g
       ·exact(y.own b o g).1
       ·exact .inr (by omega)
      ·rcases (G b o hb).1 with g|g
       ·exact y.apart id hl b o g ah
       ·have:=(p.own id hl b o ah).2;omega
      ·rcases (G b o hb).1 with g|g
       ·exact y.cB b o g i
       ·have:=p.hK b o i;omega
     have aC:bD w0 F0 j w' ι m S:=af S (by
      rintro b o ⟨i,g⟩
      refine⟨g,?_⟩;rcases ac b o i with h1|h1
      ·have aB:=A.size;rcases h1 with h1|⟨d,aa,h1⟩
       ·have:=p.hK b o h1;omega
       ·have:=(p.own d.1 (D d aa) b o h1).2;omega
      ·exact h1.2)
     have eA:=aA.freeze aC;have aD:bD w0 F0 j w' ι (m.or S) F':=(af F' ad).freeze (fun b o hb hs=>ay b o hb hs.1)
     have aE:bD w0 F0 j w' ι (m.or S) H:=(h1.ext A).freeze (by
      rintro b o hb ⟨_,g|g⟩
      ·exact M b o g hb
      ·have:=(h1.own b o hb).2;omega)
     have aj:ae.apart m F:=fun b o i g=>y.cB b o g i
     have I:d_ w m j ι w' (m.or S) j ι :=by
      refine⟨fun id=>.stay _ _,fun _ _ h=>.inl h,bS.gw A p.pN ?_⟩
      rintro b o (i|⟨id,hl,_,_,g⟩) hs
      ·exact aj b o i hs
      ·exact y.apart id hl b o hs g
     have aF:gg false w m j ι w' (m.or S) j ι H:=
      ⟨fun _ _=>aR.move I,fun _ _=>cd.move I,I.dt,fun _ _ _ h=>⟨h,rfl⟩,fun h=>by simp at h,bS.gw A (fun b o hb=>(h1.own b o hb).2) (fun b o hb g=>M b o g hb),bS.gw A p.hK aj,fun b o Q=>A.nU Q,fun z b o Q=>A.iz Q⟩
     have aG:aX w' (m.or S) j ι (vs++kj vs) (us++fI us):=aX.move I (aX.move W.d' V)
     obtain⟨dY,i2,_,k⟩:=uw e.rs L dg j ι id (l,an) F' H C eA (ez.move aF (fun _ _ h=>h) e.ps Y.kP) (gW.mono (by
      intro b o i;by_cases hc:(F b o\/w.heap.size<=b)
      ·exact .inl (.inr ⟨i,hc⟩)
      ·rcases ac b o i with h1|h1
       ·rcases h1 with h1|h1
        ·exact .inl (.inl h1)
        ·exact .inr h1
       ·exact absurd h1.1 hc) e.rs (fun _ _ h=>h) az) aD aE (by
      intro b o hb ak;rcases (ad b o hb).1 with g|g
      ·exact M b o g ak
      ·have:=(h1.own b o ak).2;omega) (fun d aa=>⟨D d aa,ab d aa⟩) aG
     refine⟨dY,_,i2,?_⟩;show aR w' _ an dY (zv l) (mm dg);simp only at k;clear hk C
     match l,k with
     | [],k=>simp only[aX]at k;subst k;simp only[zv,aR,mm];exact⟨[],rfl,by simp only[aX]⟩
     | [v0],k=>simp only[aX]at k;obtain⟨aH,aI,rfl,al,rfl⟩:=k;exact al
     |v0::v1::l,k=>have aJ:=k;simp only[aX]at k;obtain⟨aH,aI,rfl,al,aL,aM,rfl,h1,aN⟩:=k;simp only[zv,aR,mm];exact⟨_,rfl,aJ⟩
def PE{m:Nat}{n:Int}{k:Nat}(a:ax m n=some k):0<=n/\k=n.toNat:=by
 unfold ax at a;by_cases hc:0<=n/\n<(m:Int)
 ·rw[bg hc]at a;exact⟨hc.1,(aS a).symm⟩
 ·rw[bd hc]at a;cases a
def zx{bn:Type}{r:bn}:∀{vs:List aY}{us:List Value}{K:List aY->Option bn},pE s vs K=some r->aX w Z s ι vs us->∃a,K a=some r/\aX w Z s ι a us
 | [],us,K,hk,hv=>⟨[],hk,hv⟩
 |v::l,us,K,hk,hv=>by
  simp only[aX]at hv;obtain⟨e,g,rfl,h1,h⟩:=hv;have keep:(pE s l fun l'=>K (v::l'))=some r->∃a,K a=some r/\aX w Z s ι a (e::g):=fun hk=>by obtain⟨l',d,k2⟩:=zx (K:=fun l'=>K (v::l')) hk h;exact⟨v::l',d,by simp only[aX];exact⟨e,g,rfl,h1,k2⟩⟩
  cases v with
  |opt i n=>
   simp only[pE]at hk;obtain⟨k,j,hk⟩:=a6 hk;obtain⟨l',d,k2⟩:=zx (K:=fun l'=>K (.ptr ⟨i,some k,0⟩::l')) hk h;refine⟨_,d,?_⟩;simp only[aX];refine⟨e,g,rfl,?_,k2⟩;simp only[aR]at h1⊢;obtain⟨u,rfl⟩:=PE j;obtain⟨m,⟨o,_⟩|⟨o,p,rfl,q⟩⟩:=h1
   ·omega
   ·exact⟨m,p,rfl,q⟩
  |may b dp cs=>
   simp only[pE]at hk;cases b
   ·cases hk
   obtain⟨l',d,k2⟩:=zx (K:=fun l'=>K (.c2 dp cs 0::l')) hk h;refine⟨_,d,?_⟩;simp only[aX];refine⟨e,g,rfl,?_,k2⟩;simp only[aR]at h1⊢;rcases h1 with⟨h1,_⟩|⟨_,h1⟩
   ·cases h1
   ·exact h1
  |_=>exact keep hk
def ZC{f:FuncId}{vs:List aY}{us:List Value}{K:aY->av->Option bn}(b:zw P E)(h:Inv w0 F0 Z0 n s a w ι Z)(hv:aX w Z s ι vs us)(hk:GV E id s f vs K=some r):
  ∃(T:aY->av->Prop),(∀v an,T v an->K v an=some r)/\(∃v an,T v an)/\uq P f us.toArray w fun e w'=>∃u,e=.returned u/\∀v an,T v an->∃ a' Z',Inv w0 F0 Z0 n an a w' a' Z'/\aR w' Z' an a' v u:=by
 unfold GV at hk;obtain⟨i,d,g⟩:=zx hk hv;exact ZB b h g d
def ZD{c:Call}{d:Operand}(y:zw P E)(h:Inv w0 F0 Z0 n s a w ι Z)(aa:∀k,o.dst=some k->k<n)(q:o.op=.call c)(hc:c.callee=.value d)(hk:cK E id o s K=some r):
  ∃an,K an=some r/\o.wp P a w (cO w0 F0 Z0 n an) Q:=by
 unfold cK at hk;rw[q]at hk;simp only[hc]at hk;have z:=rr h c.args.toList;have g:=ew h d
 cases u:bP s d with
 |fn i first kh=>
  rw[u]at hk g;simp only at hk;simp only[aR]at g;obtain⟨b,cs,A,B,C⟩:=g;have D:aX w Z s ι (first++c.args.toList.map (bP s)++kh) (b++c.args.toList.map a.eval++cs):=(B.append z).append C;obtain⟨T,F,⟨v,an,j⟩,l⟩:=ZC y h D hk;refine⟨_,F v an j,?_⟩;unfold Oper.wp;have G:(execOp a.eval o).run P w=(callFunc i (b++c.args.toList.map a.eval++cs).toArray).run P w:=by unfold execOp;rw[q];simp only[run_bind,resolve,hc,A,Deferred.ofValue,run_pure,invoke];congr 2;apply Array.ext';simp
  rw[G];rcases l with⟨⟨fn,H,I,J⟩,l⟩|⟨L,w',M,V,N,m⟩
  ·have U:(callFunc i (b++c.args.toList.map a.eval++cs).toArray).run P w=.ok (.enter i (b++c.args.toList.map a.eval++cs).toArray) w:=by
    simp only[callFunc,run_bind,run_pure,program,Sem.run,H];rw[bd (by rw[J];simp),bd (by rw[I];simp)];simp only[run_pure]
   rw[U,Oper.upon_enter];refine l.mono ?_
   rintro e w' ⟨L,rfl,m⟩
   obtain⟨a',Z',hinv,p⟩:=m v an j;exact⟨a',Z',hinv.dst p aa⟩
  ·rw[M,Oper.upon_value];cases N;obtain⟨a',Z',hinv,p⟩:=m v an j;exact⟨a',Z',hinv.dst p aa⟩
 |_=>rw[u]at hk;simp at hk
structure iI(P:Program)(E:Env):Prop where
 ty:fU P E
 eq:Pg P E
 fns:zw P E
 mix:P.follows .mixedOrders=true
def ZE(e:iI P E)(h:Inv w0 F0 Z0 n s a w ι Z)(aa:∀k,o.dst=some k->k<n)(hk:cK E id o s K=some r):
  ∃an,K an=some r/\o.wp P a w (cO w0 F0 Z0 n an) Q:=by
 have g:(∃an,K an=some r/\Pure P o a w (cO w0 F0 Z0 n an))->∃an,K an=some r/\o.wp P a w (cO w0 F0 Z0 n an) Q:=fun⟨an,h1,p⟩=>⟨an,h1,p.wp⟩
 cases d:o.op with
 |move x=>exact g (zj h aa (.inl d) hk)
 |assign x=>exact g (zj h aa (.inr d) hk)
 |pick c x j=>exact g (O2 h aa d hk)
 |alloc t=>exact Za e.ty h aa d hk
 |box t x=>exact Zb e.ty h aa d hk
 |build t ps=>exact g (Pt e.ty h aa d hk)
 |buildSlice t m ps=>exact Zs e.ty h aa d hk
 |load t x=>exact Zc e.ty h aa d hk
 |store t x j=>exact Ze e.ty h aa d hk
 |nilCheck x=>exact g (O3 h aa d hk)
 |binOp op t x j q=>exact g (Pj e.ty e.eq h aa d hk)
 |unOp op t x=>exact g (Pf h aa d hk)
 |convert st u x=>exact Zo e.ty h aa d hk
 |makeFunc f first kh=>
  cases f with
  |func f=>exact g (O8 h aa d hk)
  |_=>unfold cK at hk;rw[d]at hk;simp at hk
 |makeSlice t x j=>exact Zk e.ty h aa d hk
 |slice t x v y e6=>exact g (Pc e.ty h aa d hk)
 |fieldAddr t x f=>exact g (O5 e.ty h aa d hk)
 |field t x f=>exact g (O6 e.ty h aa d hk)
 |indexAddr t x i=>exact g (O9 e.ty h aa d hk)
 |index t x i=>exact g (O_ e.ty h aa d hk)
 |extract x i=>exact g (O7 h aa d hk)
 |call c=>
  cases hc:c.callee with
  |builtin b=>
   by_cases hb:b=.append
   ·subst hb;exact Zv e.ty h aa d hc hk
   ·by_cases l:b=.clear
    ·subst l;exact Zy e.ty h aa d hc hk
    ·exact g (Pn e.ty h aa d hc hb l hk)
  |value f=>exact ZD e.fns h aa d hc hk
  |invoke x m=>unfold cK at hk;rw[d]at hk;simp[hc]at hk
 |_=>unfold cK at hk;rw[d]at hk;simp at hk
end
end Go.LM
namespace Go.LM
mutual
def U.beq_refl:∀t:U,U.beq t t=true
 |.int k=>by simp[U.beq]
 |.bool=>rfl
 |.str=>rfl
 |.raw=>rfl
 |.sl t=>by simp only[U.beq];exact U.beq_refl t
 |.st ah=>by simp only[U.beq];exact aw.beq_refl ah
def aw.beq_refl:∀t:aw,aw.beq t t=true
 |.nil=>rfl
 |.cons t ah=>by simp only[aw.beq,U.beq_refl t,aw.beq_refl ah,au]
end
def ZF(a:U)(x:a.D):ej a a x=some x:=by unfold ej;rw[dif_pos (U.beq_refl a)]
section
variable{w b5:World}{Z bK:ae}
def PF(w:World)(Z:ae)(t:U)(z:List t.D)(v:Value)(H1 a:ae)(R:World->ae->List t.D->Value->ae->Prop):Prop:=
 (U.sl t).al w Z (.O t.own) z [v] H1/\ae.apart H1 a/\∀(b5:World) (bK b:ae) (d:List t.D) (e:Value),bS w b5 a->(U.sl t).al b5 bK (.O t.own) d [e] b->ae.apart b a->R b5 bK d e (b.or a)
mutual
def U.ry:∀(T:U) (off:Nat) (t:U) {x:T.D}{z:List t.D}{us:List Value}{G:ae},T.al w Z T.own x us G->T.getAt off t x=some z →
  ∃v H1 a,us[off]?=some v/\ae.sub H1 G/\ae.sub a G/\PF w Z t z v H1 a (fun b5 bK y u C=>∀d,T.setAt off t y x=some d->T.al b5 bK T.own d (us.set off u) C)
 |.int _,_,_,_,_,_,_,_,h=>by simp[U.getAt]at h
 |.bool,_,_,_,_,_,_,_,h=>by simp[U.getAt]at h
 |.str,_,_,_,_,_,_,_,h=>by simp[U.getAt]at h
 |.raw,_,_,_,_,_,_,_,h=>by simp[U.getAt]at h
 |.sl u,off,t,x,z,us,G,hr,h=>by
  simp only[U.getAt]at h;cases hb:Nat.beq off 0
  ·rw[hb]at h;cases h
  rw[hb]at h;obtain rfl:=cG hb;obtain⟨e,rfl⟩:=gx h;subst e;have P:=hr;simp only[U.own,U.al]at hr;obtain⟨A,c,rfl,_⟩:=hr;refine⟨_,G,ae.none,rfl,fun _ _ h=>h,fun _ _ h=>h.elim,P,fun _ _ _ h=>h.elim,fun b5 bK i y j _ g _ d hs=>?_⟩;simp only[U.setAt]at hs;obtain⟨e,rfl⟩:=gx (show ej (.sl u) (.sl u) y=some d from hs);exact U.al.mono (fun _ _ h=>h) _ _ (fun _ _ h=>.inl h) g
 |.st ah,off,t,x,z,us,G,hr,h=>by
  have I:ah.flat=false:=by
   cases Q:ah.flat
   ·rfl
   ·exact(U.uo (.st ah) (by simpa only[U.flat]using Q) h).elim
  simp only[U.own,I,gq,fT,U.al,a8.parts]at hr;simp only[U.getAt]at h;obtain⟨v,H1,a,h1,g,k,n,r,s⟩:=aw.ry ah off t hr h;refine⟨v,H1,a,h1,g,k,n,r,fun b5 bK i y j l k2 k3 d hs=>?_⟩;simp only[U.setAt]at hs;simp only[U.own,I,gq,fT,U.al,a8.parts];exact s b5 bK i y j l k2 k3 d hs
def aw.ry:∀(ah:aw) (off:Nat) (t:U) {x:ah.D}{z:List t.D}{us:List Value}{G:ae},ah.al w Z ah.own x us G->ah.getAt off t x=some z →
  ∃v H1 a,us[off]?=some v/\ae.sub H1 G/\ae.sub a G/\PF w Z t z v H1 a (fun b5 bK y u C=>∀d,ah.setAt off t y x=some d->ah.al b5 bK ah.own d (us.set off u) C)
 |.nil,_,_,_,_,_,_,_,h=>by simp[aw.getAt]at h
 |.cons T ah,off,t,x,z,us,G,hr,h=>by
  simp only[aw.own,aw.al,cA.aa,cA.dq]at hr;obtain⟨J,K,L,M,rfl,D,N,B,E,hb⟩:=hr;have hl:=(U.al.len T _ D).1;simp only[aw.getAt]at h;cases m:Nat.blt off T.size
  ·rw[m]at h
   have V:T.size<=off:=by
    rcases ff off T.size with h1|h1
    ·have:Nat.blt off T.size=true:=Nat.ble_eq_true_of_le h1;rw[this]at m;cases m
    ·exact h1
   obtain⟨v,H1,a,h1,g,k,n,r,s⟩:=aw.ry ah (off-T.size) t N h;refine⟨v,H1,L.or a,?_,fun b o x=>hb b o (g b o x),?_,n,?_,fun b5 bK i y j l k2 k3 d hs=>?_⟩
   ·rw[List.getElem?_append_right (by omega),hl];exact h1
   ·rintro b o (y|y)
    ·exact E b o y
    ·exact hb b o (k b o y)
   ·rintro b o y (q|q)
    ·exact B b o q (g b o y)
    ·exact r b o y q
   ·simp only[aw.setAt,m,ay]at hs;obtain⟨F,H,hs⟩:=a6 hs;obtain rfl:=aS hs;simp only[aw.own,aw.al,cA.aa,cA.dq];refine⟨J,K.set (off-T.size) j,L,i.or a,by rw[List.set_append_right _ _ (by omega),hl],oa T (l.mono fun _ _ h=>.inl h) D,s b5 bK i y j (l.mono fun _ _ h=>.inr h) k2 (fun b o p q=>k3 b o p (.inr q)) F H,?_,fun _ _ h=>.inr (.inl h),?_⟩
    ·rintro b o p (q|q)
     ·exact k3 b o q (.inl p)
     ·exact B b o p (k b o q)
    ·rintro b o (q|q)
     ·exact .inl q
     ·exact .inr (.inr q)
  ·rw[m]at h;have V:off<T.size:=fc m;obtain⟨v,H1,a,h1,g,k,n,r,s⟩:=U.ry T off t D h;refine⟨v,H1,a.or M,?_,fun b o x=>E b o (g b o x),?_,n,?_,fun b5 bK i y j l k2 k3 d hs=>?_⟩
   ·rw[List.getElem?_append_left (by omega)];exact h1
   ·rintro b o (y|y)
    ·exact E b o (k b o y)
    ·exact hb b o y
   ·rintro b o y (q|q)
    ·exact r b o y q
    ·exact B b o (g b o y) q
   ·simp only[aw.setAt,m,au]at hs;obtain⟨F,H,hs⟩:=a6 hs;obtain rfl:=aS hs;simp only[aw.own,aw.al,cA.aa,cA.dq];refine⟨J.set off j,K,i.or a,M,by rw[List.set_append_left _ _ (by omega)],s b5 bK i y j (l.mono fun _ _ h=>.inl h) k2 (fun b o p q=>k3 b o p (.inl q)) F H,PB ah (l.mono fun _ _ h=>.inr h) N,?_,?_,fun _ _ h=>.inr (.inr h)⟩
    ·rintro b o (p|p) q
     ·exact k3 b o p (.inr q)
     ·exact B b o (k b o p) q
    ·rintro b o (q|q)
     ·exact .inl q
     ·exact .inr (.inl q)
end
def iA.ry{T:U}{e:List T.D}{a:Addr}{c:Nat}{F:ae}{i off:Nat}{t:U}{z:List t.D}(h:iA w (T.al w Z T.own) T.size e a c F)(m:i<e.length)(ac:T.getAt off t (I T e i)=some z):
  ∃v H1,w.cell? (at_ a.block (a.off+i*T.size+off))=some v/\(U.sl t).al w Z (.O t.own) z [v] H1/\ae.sub H1 F/\ae.diff F H1 a.block (a.off+i*T.size+off)/\fb w T.size a.block (a.off+i*T.size+off) ∧
   ∀(b5:World) (bK X:ae) (y:List t.D) (n:T.D) (u:Value),bS w b5 (fun b o=>ae.diff F H1 b o/\¬(b=a.block/\o=a.off+i*T.size+off))->b5.cell? (at_ a.block (a.off+i*T.size+off))=some u →
    fb b5 T.size a.block (a.off+i*T.size+off)->(U.sl t).al b5 bK (.O t.own) y [u] X->ae.apart X (ae.diff F H1)->T.setAt off t y (I T e i)=some n →
    iA b5 (T.al b5 bK T.own) T.size (e.set i n) a c (X.or (ae.diff F H1)):=by
 rw[cC m]at ac⊢;obtain⟨G,al,g,ad⟩:=h.row;obtain⟨C,aF,D,vs,an,ao,aq,af,ar,ah,au,aj,E,r,H⟩:=al.uk i m;obtain⟨v,H1,J,hv,K,k2,k3,aZ,a_⟩:=U.ry T off t ao ac;have ak:ae.sub H1 G:=fun b o x=>r b o (K b o x)
 have hle:e.length*T.size<=c*T.size:=c3 _ h.cap;have av:(i+1)*T.size<=e.length*T.size:=c3 _ m;rw[de]at av
 have aG:off<T.size:=by
  rcases ff off T.size with h1|h1
  ·exact h1
  ·rw[List.getElem?_eq_none (by omega)]at hv;cases hv
 have L:∀{A:ae},ae.sub A G->ae.apart A H1->ae.sub A (ae.diff F H1):=fun M ai b o x=>⟨ad b o (M b o x),fun y=>ai b o x y⟩
 have N:ae.sub C (ae.diff F H1):=L E fun b o x y=>ah b o x (K b o y)
 have P:ae.sub D (ae.diff F H1):=L H fun b o x y=>aj b o (K b o y) x
 have Q:ae.sub J (ae.diff F H1):=L (fun b o x=>r b o (k2 b o x)) fun b o x y=>aZ b o y x
 have l:∀j,j<c*T.size->ae.diff F H1 a.block (a.off+j):=fun j d=>⟨h.inF j d,fun y=>g j d (ak _ _ y)⟩
 have V:i*T.size+off<c*T.size:=by omega
 have W:∀{A:ae},ae.sub A G->∀b o,A b o->¬(b=a.block/\o=a.off+i*T.size+off):=by
  rintro A M b o x ⟨rfl,rfl⟩
  have:=g (i*T.size+off) V;rw[<-dQ]at this;exact this (M _ _ x)
 refine⟨v,H1,af off v hv,k3,fun b o x=>ad b o (ak b o x),by have:=l _ V;rwa[<-dQ]at this,by have:=h.wr _ V;rwa[<-dQ]at this,fun b5 bK X y n u hs aw ax hr s ay=>?_⟩;have az:bS w b5 C:=fun b o x=>hs b o ⟨N b o x,W E b o x⟩
 have hL:bS w b5 D:=fun b o x=>hs b o ⟨P b o x,W H b o x⟩
 have aA:bS w b5 J:=fun b o x=>hs b o ⟨Q b o x,W (fun b o x=>r b o (k2 b o x)) b o x⟩
 have Y:∀j,j<c*T.size->j≠i*T.size+off->b5.cell? (at_ a.block (a.off+j))=w.cell? (at_ a.block (a.off+j)):=fun j d B=>(hs _ _ ⟨l j d,fun h=>B (by omega)⟩).1
 have aB:∀j,j<c*T.size->fb b5 T.size a.block (a.off+j):=by
  intro j d;by_cases B:j=i*T.size+off
  ·subst B;rwa[dQ]at ax
  ·exact hs.iz ⟨l j d,fun h=>B (by omega)⟩ (h.wr j d)
 have eH:=a_ b5 bK X y u aA hr (fun b o p q=>s b o p (Q b o q)) n ay;refine⟨h.spot,by simpa using h.cap,aB,fun j d=>.inr (l j d),C.or ((X.or J).or D),?_,?_,?_⟩
 ·refine Row.um i m (an.imp (fun y us aC ab hr=>oa T (az.mono fun b o p=>ab b o p) hr) fun j d=>Y j ?_ ?_) eH (by simpa using aq) ?_ (ar.imp (fun y us aC ab hr=>oa T (hL.mono fun b o p=>ab b o p) hr) fun j d=>?_) ?_ au ?_
  ·simp only[dX]at d;have:min i e.length*T.size<=e.length*T.size:=c3 _ (Nat.min_le_right _ _);omega
  ·simp only[dX]at d;have:min i e.length*T.size<=i*T.size:=c3 _ (Nat.min_le_left _ _);omega
  ·intro k q hk;by_cases aD:k=off
   ·subst aD;rw[List.getElem?_set_self (by omega)]at hk;rw[<-aS hk];exact aw
   ·rw[List.getElem?_set_ne (by omega)]at hk
    have aH:k<vs.length:=by
     rcases ff k vs.length with h1|h1
     ·exact h1
     ·rw[List.getElem?_eq_none h1]at hk;cases hk
    have:=Y (i*T.size+k) (by omega) (by omega);rw[<-dQ]at this;rw[this];exact af k q hk
  ·simp only[fS]at d;have aE:(e.length-(i+1))*T.size=e.length*T.size-(i*T.size+T.size):=by rw[Nat.sub_mul,de]
   rw[aE]at d;have:=Y ((i+1)*T.size+j) (by rw[de];omega) (by rw[de];omega);rwa[<-dQ]at this
  ·rintro b o p (q|q)
   ·exact s b o q (N b o p)
   ·exact ah b o p (k2 b o q)
  ·rintro b o (p|p) q
   ·exact s b o p (P b o q)
   ·exact aj b o (k2 b o p) q
 ·rintro j d (p|(p|p)|p)
  ·exact g j d (E _ _ p)
  ·exact s _ _ p (l j d)
  ·exact g j d (r _ _ (k2 _ _ p))
  ·exact g j d (H _ _ p)
 ·rintro b o (p|(p|p)|p)
  ·exact .inr (N b o p)
  ·exact .inl p
  ·exact .inr (Q b o p)
  ·exact .inr (P b o p)
end
section
variable{P:Program}{Q:Exit->Act->World->Prop}
variable{w0:World}{F0 Z0:ae}{n:cl}{s an:av}{a b0:Act}{w w':World}{ι a':Nat->bz}{Z Z':ae}
variable{E:Env}{bn:Type}{r:bn}
def wC(a:Act){d:Nat}(v:Value)(aa:d<a.tmps.size):(a.put (some d) v).eval (.tmp d)=v:=by show(a.tmps.setIfInBounds d v).getD d undef=v;rw[He _ _ _ _ aa,bg rfl]
def pS(a:Act){d k:Nat}(v:Value)(aa:d<a.tmps.size)(hk:d≠k):(a.put (some d) v).eval (.tmp k)=a.eval (.tmp k):=by show(a.tmps.setIfInBounds d v).getD k undef=a.tmps.getD k undef;rw[He _ _ _ _ aa,bd hk]
def HN(a:Act)(d:Nat)(v:Value):(a.put (some d) v).tmps.size=a.tmps.size:=by show(a.tmps.setIfInBounds d v).size=_;simp
def PG{u t:U}{dp:List (Nat×Nat)}{p:Place}{xs:List u.D}{v:Value}{z:List t.D}{s0:av}(h:Inv w0 F0 Z0 n s a w ι Z)(hc:cd w Z s ι (.bq u dp (some p) xs) v)
  (hl:rf t t.own s dp (some p)=some (z,s0)):
  ∃(i:Nat) (T:U) (ver:Nat) (d:List T.D) (e g:Nat) (H1:ae),p.eH=some i/\s.o p.id=.row T T.own ver d/\s0=s.bA p.id (.b7 (.row T T.own ver d))/\i<d.length/\(ι p.id).base=some (at_ e g) ∧
   Inv w0 F0 Z0 n s0 a w ι Z/\fg s ι Z s0 Z/\bD w0 F0 s0 w ι Z H1/\bD w0 F0 s0 w ι Z (ae.diff (ι p.id).F H1)/\(U.sl t).al w Z (.O t.own) z [v] H1/\ae.sub H1 (ι p.id).F ∧
   ae.diff (ι p.id).F H1 e (g+i*T.size+p.off)/\fb w T.size e (g+i*T.size+p.off) ∧
   ∀(b5:World) (bK X:ae) (y:List t.D) (A:T.D) (q:Value),bS w b5 (fun b o=>ae.diff (ι p.id).F H1 b o/\¬(b=e/\o=g+i*T.size+p.off))->b5.cell? (at_ e (g+i*T.size+p.off))=some q →
    fb b5 T.size e (g+i*T.size+p.off)->(U.sl t).al b5 bK (.O t.own) y [q] X->ae.apart X (ae.diff (ι p.id).F H1)->T.setAt p.off t y (I T d i)=some A →
    iA b5 (T.al b5 bK T.own) T.size (d.set i A) (at_ e g) (ι p.id).cap (X.or (ae.diff (ι p.id).F H1)):=by
 simp only[rf]at hl
 cases l:p.eH with
 |none=>rw[l]at hl;simp at hl
 |some i=>
  rw[l]at hl
  cases j:s.o p.id with
  |row T em ver d=>
   rw[j]at hl;simp only at hl;cases hb:(alive s dp&&a8.beq em T.own&&a8.beq t.own t.own)
   ·rw[hb]at hl;simp at hl
   rw[hb]at hl;simp only[au]at hl;simp only[bs]at hb;obtain rfl:=a8.eq_of_beq _ _ hb.1.2;obtain⟨x,M,hl⟩:=a6 hl;simp only[cQ,fj]at hl;obtain⟨rfl,rfl⟩:=hl;obtain⟨_,_,_,m⟩:=hc;obtain⟨_,m⟩:=m _ rfl;obtain⟨aj,ak,⟨_,B⟩,N,al⟩:=m hb.1.1;simp only[j,b9.core]at B;obtain⟨cW,C,k,P,D,Q⟩:=B;rw[l]at C;obtain rfl:=aS C;have E:(s.o p.id).live:=by rw[j];trivial
   have F:fg s ι Z (s.bA p.id (.b7 (.row T T.own ver d))) Z:=by have:=wu (s:=s) (ι :=ι) (Z:=Z) E;rw[j]at this;exact this
   have G:bD w0 F0 (s.bA p.id (.b7 (.row T T.own ver d))) w ι Z (ι p.id).F:=by have:=h.wv E;rw[j]at this;exact this
   have H:=h.eU p.id;rw[j]at H;rcases H with⟨V,_⟩|⟨an,J,hr⟩
   ·rw[V]at k;simp at k
   rw[D]at J;obtain rfl:=aS J;obtain⟨W,Y,ao⟩:=P;have K:=hr.spot;simp only at K;subst K;obtain⟨di,H1,r,ab,L,ac,ad,af⟩:=hr.ry k M;rw[<-Q]at r;have ah:di=v:=by rw[N]at r;exact(aS r).symm
   subst ah;exact⟨i,T,ver,d,W,Y,H1,rfl,rfl,rfl,k,D,h.kO F,F,G.sub L,G.sub fun _ _ h=>h.1,ab,L,ac,ad,af⟩
  |_=>rw[j]at hl;simp at hl
def ZG{v:aY}{K:Place->Option bn}(hk:G4 s v K=some r):∃a,K a=some r/\∀{w':World}{Z':ae}{an:av}{a':Nat->bz}{x:Value},aR w' Z' an a' v x->∃A,x=.pointer (some A)/\iG an a' a A:=by
 unfold G4 at hk;cases v<;>simp only at hk<;>try (cases hk;done)
 ·exact⟨_,hk,fun hv=>by simp only[aR]at hv;exact hv.2⟩
 ·obtain⟨k,h1,hk⟩:=a6 hk;obtain⟨d,rfl⟩:=PE h1;refine⟨_,hk,fun hv=>?_⟩;simp only[aR]at hv;rcases hv.2 with⟨b,_⟩|⟨_,b⟩
  ·omega
  ·exact b
def ZH{l:Oper}{T:U}{b e i ver g h:Nat}{p d:Place}{r:List T.D}{hv:Value}{j:av}(s:l.op=.nilCheck (.tmp b))(u:b≠e)(v:e<n.n)(w:d.id=p.id)(m:d.eH=some i)(o:Inv w0 F0 Z0 n j a w' ι Z)
  (y:∀{w':World}{Z':ae}{an:av}{a':Nat->bz}{x:Value},aR w' Z' an a' (j.t b) x->∃A,x=.pointer (some A)/\iG an a' d A)
  (z:j.o p.id=.b7 (.row T T.own ver r)) (B:(ι p.id).base=some (at_ g h)):(execOp (a.put (some e) hv).eval l).run P w'=.ok (.value (.pointer (some (at_ g (h+i*T.size+d.off))))) w':=by
 obtain⟨F,C,G,k⟩:=y (o.tmps b);rw[w,z]at k;simp only[b9.core]at k;obtain⟨cW,D,_,H,q,E⟩:=k;rw[D]at m;obtain rfl:=aS m;rw[B]at q;obtain rfl:=aS q;subst E;have:(a.put (some e) hv).eval (.tmp b)=.pointer (some (at_ g (h+cW*T.size+d.off))):=by rw[pS _ _ (by rw[o.size];exact v) (Ne.symm u)];exact C
 unfold execOp;rw[s];simp only[this];rfl
def PH{aj W Y:Oper}{ah:aw}{t T u:U}{e g l ak al aB k i ver d m:Nat}{p:Place}{po:Nat}{H:List T.D}{y:List t.D}{hv:Value}{G B:ae}{s aC:av}{A:Option Addr}{aU aV:Nat}{K:av->Option bn}(aD:iI P E)
  (aW:W.op=.fieldAddr ak (.tmp g) aB) (aX:Y.op=.store al (.tmp l) (.tmp e)) (aY:aj.dst=some g) (aZ:W.dst=some l) (aE:Y.dst=none)
  (a0:e≠g) (a1:e≠l) (aF:e<n.n) (ao:g<n.n) (aq:l<n.n) (a2:E.ty ak=some (.st ah)) (a3:E.ty al=some (.sl t)) (a4:ah.off aB=some (k,u)) (a5:u.size≠0)
  (a7:po+k=p.off) (a9:p.eH=some i) (bA:i<H.length) (aG:Inv w0 F0 Z0 n s a w' ι Z)
  (a_:(execOp (a.put (some e) hv).eval aj).run P w'=.ok (.value (.pointer (some (at_ d (m+i*T.size+po))))) w')
  (a':s.o p.id=.b7 (.row T T.own ver H)) (ba:(ι p.id).base=some (at_ d m)) (aH:hv=.slice A aV aU) (bb:(U.sl t).al w' Z (.O t.own) y [hv] G)
  (J:bD w0 F0 s w' ι Z G) (ar:bD w0 F0 s w' ι Z B) (aI:ae.apart G B) (aJ:B d (m+i*T.size+p.off)) (ab:fb w' T.size d (m+i*T.size+p.off))
  (aK:∀(b5:World) (bK X:ae) (y:List t.D) (aL:T.D) (q:Value),bS w' b5 (fun b o=>B b o/\¬(b=d/\o=m+i*T.size+p.off))->b5.cell? (at_ d (m+i*T.size+p.off))=some q->fb b5 T.size d (m+i*T.size+p.off) →
   (U.sl t).al b5 bK (.O t.own) y [q] X->ae.apart X B->T.setAt p.off t y (I T H i)=some aL->iA b5 (T.al b5 bK T.own) T.size (H.set i aL) (at_ d m) (ι p.id).cap (X.or B))
  (L:tU t y (((s.set e .bf).set g .bf).set l .bf) (some p)=some aC) (hk:K aC=some r):
  aj.wp P (a.put (some e) hv) w' (fun a w=>W.wp P a w (fun a w=>Y.wp P a w (fun a w=>∃an,K an=some r/\cO w0 F0 Z0 n an a w) Q) Q) Q:=by
 have ac:hv.cells = #[hv]:=by rw[aH];rfl
 have bc:dD hv=true:=by rw[aH];rfl
 have aM:=aG.size;have bd:Inv w0 F0 Z0 n (s.set e .bf) (a.put (some e) hv) w' ι Z:=aG.set (by simp only[aR]) aF;have au:(a.put (some e) hv).tmps.size=n.n:=by rw[HN];exact aM
 unfold Oper.wp;rw[a_,Oper.upon_value,aY];obtain⟨D,V⟩:∃D,D=(a.put (some e) hv).put (some g) (.pointer (some (at_ d (m+i*T.size+po)))):=⟨_,rfl⟩
 rw[<-V];have aN:D.tmps.size=n.n:=by rw[V,HN];exact au
 have be:D.eval (.tmp g)=.pointer (some (at_ d (m+i*T.size+po))):=by rw[V];exact wC _ _ (by rw[au];exact ao)
 have bh:D.eval (.tmp e)=hv:=by rw[V,pS _ _ (by rw[au];exact ao) (Ne.symm a0)];exact wC _ _ (by rw[aM];exact aF)
 obtain⟨pos,aO⟩:∃pos,pos=m+i*T.size+p.off:=⟨_,rfl⟩
 rw[<-aO]at aJ ab aK;have bi:(execOp D.eval W).run P w'=.ok (.value (.pointer (some (at_ d pos)))) w':=by obtain⟨bB,ad,bj⟩:=Hr (aD.ty.ty ak _ a2);obtain⟨bC,h1,bk,bl⟩:=aw.zk bj a4;rw[Array.getElem?_toList]at h1;unfold execOp;rw[aW];refine e8 ?_;simp only[Instr.fieldAt,run_bind,run_underlying ad,h1,Instr.sureAddr,be,run_pure,O4 bl a5,bk,bE];rw[aO,<-a7,dQ]
 rw[bi,Oper.upon_value,aZ];obtain⟨F,af⟩:∃F,F=D.put (some l) (.pointer (some (at_ d pos))):=⟨_,rfl⟩
 rw[<-af];have bm:F.eval (.tmp l)=.pointer (some (at_ d pos)):=by rw[af];exact wC _ _ (by rw[aN];exact aq)
 have bo:F.eval (.tmp e)=hv:=by rw[af,pS _ _ (by rw[aN];exact aq) (Ne.symm a1)];exact bh
 have bp:Inv w0 F0 Z0 n (((s.set e .bf).set g .bf).set l .bf) F w' ι Z:=by rw[af,V];exact(bd.set (by simp only[aR]) ao).set (by simp only[aR]) aq
 have aQ:(execOp F.eval Y).run P w'=.ok .skip (setCells w' d pos [hv]):=by
  unfold execOp;rw[aX]
  have:=zh (P:=P) (w:=w') (aD.ty.ty al _ a3) (b:=d) (o:=pos) (v:=hv) (by rw[ac];rfl) (by rw[ac];intro u ad;simp at ad;rw[ad];exact bc) (fun j M=>by
   rw[ac]at M;have:j=0:=by simp at M;omega
   subst this;exact ab.1)
  rw[ac]at this;simp only[Instr.storeAt,Instr.sureAddr,bm,bo,run_bind,run_pure,this]
 have ax:bD w0 F0 (((s.set e .bf).set g .bf).set l .bf) w' ι Z B:=⟨ar.own,ar.apart,ar.cB⟩;have J:bD w0 F0 (((s.set e .bf).set g .bf).set l .bf) w' ι Z G:=⟨J.own,J.apart,J.cB⟩;obtain⟨C,ay⟩:∃C,C=setCells w' d pos [hv]:=⟨_,rfl⟩
 rw[<-ay]at aQ
 have N:Ext w' C (ae.run d pos 1):=by
  rw[ay]
  exact lp d [hv] w' pos fun j M=>by
   have:j=0:=by simp at M;omega
   subst this;exact⟨rfl,by omega,by omega⟩
 have aT:ae.sub (ae.run d pos 1) B:=by
  rintro b o ⟨rfl,k2,k3⟩
  rw[show o=pos by omega];exact aJ
 have br:Inv w0 F0 Z0 n (((s.set e .bf).set g .bf).set l .bf) F C ι Z:=bp.zo (ax.sub aT) N
 have bs:C.cell? (at_ d pos)=some hv:=by
  rw[ay,t' d [hv] w' pos (fun j M=>by
   have:j=0:=by simp at M;omega
   subst this;exact ab.1.1),bg ⟨rfl,by omega,by simp⟩]
  simp
 have bt:bS w' C G:=bS.gw N (fun b o az=>(J.own b o az).2) fun b o az hr=>aI b o az (aT b o hr)
 have bu:(U.sl t).al C Z (.O t.own) y [hv] G:=oa (.sl t) bt bb
 have bv:bS w' C (fun b o=>B b o/\¬(b=d/\o=pos)):=by
  refine bS.gw N (fun b o hb=>(ax.own b o hb.1).2) ?_
  rintro b o ⟨_,bw⟩ ⟨rfl,k2,k3⟩
  exact bw ⟨rfl,by omega⟩
 have aA:(((s.set e .bf).set g .bf).set l .bf).o p.id=.b7 (.row T T.own ver H):=a';simp only[tU,a9]at L;rw[aA]at L;simp only at L;obtain⟨z,bx,L⟩:=a6 L;obtain rfl:=aS L
 obtain⟨bF,bz,_⟩:=wz br (id:=p.id) (o:=.row T T.own (ver+1) (H.set i z)) (i:=⟨(ι p.id).base,(ι p.id).cap,G.or B⟩) (by rw[aA];exact fun h=>h) (fun o'=>by simp) (by rw[aA];exact .pL _ _ _ _ _ _ _ _ _ (by omega) (by simp) rfl rfl)
  (fun hm=>.inr ⟨at_ d m,ba,aK C Z G y z hv bv bs (N.iz ab) bu aI bx⟩) ((J.ext N).or (ax.ext N))
 refine Oper.wp_mono (fun a w hs=>⟨_,hk,?_⟩) (wp_skip aQ bz (fun k hk=>by rw[aE]at hk;cases hk));rw[aE]at hs;exact hs
def ux(s:av)(ι:Nat->bz)(X:ae):ae:=fun b o=>X b o\/∃id,(s.o id).live/\(ι id).F b o
def Inv.here(h:Inv w0 F0 Z0 n s a w ι Z)(X:ae):Inv w (ux s ι X) Z n s a w ι Z:=
 ⟨Ext.refl _ _,fun _ _ e=>.inl e,fun _ _ h=>h,h.hK,h.eU,fun id hl b o d=>⟨.inl (.inr ⟨id,hl,d⟩),(h.own id hl b o d).2⟩,h.apart,h.cB,h.tmps,h.size,h.ghost,h.seen,h.defers⟩
def zy(h:Inv w0 F0 Z0 n s a w ι Z){X:ae}(e:bD w0 F0 s w ι Z X){b o:Nat}(d:ux s ι X b o\/w.heap.size<=b):F0 b o\/w0.heap.size<=b:=by
 have g:=h.ext.size;rcases d with(d|⟨id,hl,d⟩)|d
 ·exact(e.own b o d).1
 ·exact(h.own id hl b o d).1
 ·exact .inr (by omega)
def Inv.ZI(h:Inv w0 F0 Z0 n s a w ι Z){X:ae}(g:bD w0 F0 s w ι Z X)(d:Inv w (ux s ι X) Z n an b0 w' a' Z'):Inv w0 F0 Z0 n an b0 w' a' Z':=by
 refine⟨h.ext.trans' d.ext fun i o e=>zy h g (.inl e),fun b o j=>?_,fun b o j=>d.pK b o (h.pK b o j),d.hK,d.eU,fun id hl b o e=>⟨zy h g (d.own id hl b o e).1,(d.own id hl b o e).2⟩,d.apart,d.cB,d.tmps,d.size,d.ghost,d.seen,d.defers⟩;rcases d.dt b o j with h1|h1
 ·exact h.dt b o h1
 ·exact .inr (zy h g h1)
def ZJ{o ac ad af:Oper}{c:Call}{ah:aw}{t u ul:U}{v H I aH aI aJ k i id:Nat}{p:Place}{po:Nat}{dp:List (Nat×Nat)}{aK:List ul.D}{aL:aY}{aj:a7}{ak:av->Bool}{K:av->Option bn}(aM:iI P E)(h:Inv w0 F0 Z0 n s a w ι Z)
  (bd:o.op=.call c) (hc:c.callee=.builtin .append) (be:c.args.toList.map (bP s)=[.aP (.bq ul dp (some p) aK),aL]) (bg:tW E c.argTypes.toList=some t) (bh:oneCell t aL=some aj) (bi:o.dst=some v)
  (bj:ad.op=.fieldAddr aH (.tmp H) aJ) (bk:af.op=.store aI (.tmp I) (.tmp v)) (bl:ac.dst=some H) (bm:ad.dst=some I) (bo:af.dst=none)
  (bp:v≠H) (br:v≠I) (aN:v<n.n) (bs:H<n.n) (bt:I<n.n) (bu:E.ty aH=some (.st ah)) (bv:E.ty aI=some (.sl t)) (bw:ah.off aJ=some (k,u)) (bx:u.size≠0)
  (bA:po+k=p.off) (aO:p.eH=some i)
  (bB:∀{T:U}{ver V W:Nat}{l:List T.D}{z:av}{aQ:Nat->bz}{bC:ae}{al:World}{hv:Value},Inv w0 F0 Z0 n z a al aQ bC->z.t=s.t->z.o p.id=.b7 (.row T T.own ver l)->s.o p.id=.row T T.own ver l->(aQ p.id).base=some (at_ V W) →
   (execOp (a.put (some v) hv).eval ac).run P al=.ok (.value (.pointer (some (at_ V (W+i*T.size+po))))) al)
  (hk:G8 id t p dp s aj v H I ak K=some r):
  o.wp P a w (fun a w=>(∃aT,ak aT=true/\cO w0 F0 Z0 n aT a w)/\ac.wp P a w (fun a w=>ad.wp P a w (fun a w=>af.wp P a w (fun a w=>∃an,K an=some r/\cO w0 F0 Z0 n an a w) Q) Q) Q) Q:=by
 have ao:=rr h c.args.toList;have aU:(c.args.map a.eval).toList=c.args.toList.map a.eval:=by simp
 rw[be]at ao;simp only[aX]at ao;obtain⟨bE,_,he,aV,cw,_,rfl,bG,rfl⟩:=ao;simp only[aR]at aV;obtain⟨cx,cy,rest,e,aW,bH,bI,bJ⟩:=PA aM.ty bg;have bL:=HF bh bG;unfold G8 at hk
 cases aq:added s t aj with
 |none=>rw[aq]at hk;cases hk
 |some q=>
 obtain⟨bM,l,z⟩:=q;rw[aq]at hk;simp only at hk;cases ar:a8.beq bM t.own
 ·rw[ar]at hk;cases hk
 rw[ar]at hk;simp only[au]at hk;obtain rfl:=a8.eq_of_beq _ _ ar;obtain⟨⟨B,d⟩,bN,hk⟩:=a6 hk;obtain⟨bO,bQ,hk⟩:=a6 hk;obtain⟨aZ,hk⟩:=pQ hk;cases ax:ak (bO.set v .bf)
 ·rw[ax]at hk;cases hk
 rw[ax]at hk;simp only[au]at hk;obtain⟨cz,a0,bR⟩:=a6 hk;obtain⟨J,rfl⟩:=n_ bQ;simp only at J a0 aZ;obtain⟨vs,L,hlen,bT,bU,h1,ay,az⟩:=Px (P:=P) aq h bL;have bV:cd w Z z ι (.bq ul dp (some p) aK) bE:=cd.move ay.d' aV;obtain⟨cW,T,ver,M,V,W,m,a1,X,aA,bW,bX,aB,bY,Y,C,bZ,b0,b1,b2,b3⟩:=PG h1 bV bN;rw[a1]at aO;obtain rfl:=aS aO;have ab:=az.ru bY;have a2:(z.o p.id).live:=by rw[X];trivial
 have b4:ae.apart m L:=fun b o x D=>az.apart p.id a2 b o D (b0 b o x)
 have a3:=Y.or ab;have b8:bD w (ux d ι (m.or L)) d w ι Z m:=⟨fun b o x=>⟨.inl (.inl (.inl x)),(Y.own b o x).2⟩,Y.apart,Y.cB⟩;have b_:bD w (ux d ι (m.or L)) d w ι Z L:=⟨fun b o x=>⟨.inl (.inl (.inr x)),(ab.own b o x).2⟩,ab.apart,ab.cB⟩
 obtain⟨di,w',N,b',hinv,ca⟩:=Pz (P:=P) (id:=id) (ty:=o.type) (ats:=c.argTypes) (args:=c.args.map a.eval) (by rw[<-Array.getElem?_toList,aW];rfl) (by rw[<-Array.getElem?_toList,aW];rfl)
  (by rw[<-Array.getElem?_toList,aU,he];rfl) (by rw[<-Array.getElem?_toList,aU,he];rfl) bH bI bJ (fc aZ) (aB.here _) J bZ bU b8 b_ b4 hlen bT
 have cb:taken (d.bA id (.row t t.own 0 (B++l))) t (.aa id none)=some (t.own,B++l,(d.bA id (.row t t.own 0 (B++l))).bA id .dead):=by simp only[taken];rw[show(d.bA id (.row t t.own 0 (B++l))).o id=.row t t.own 0 (B++l) from b6 _ _ _];simp only[jY];rw[ZF];rfl
 obtain⟨G,a4,a5,cA,F,cB⟩:=Py cb hinv ca
 have cc:(d.bA id (.row t t.own 0 (B++l))).bA id .dead=d.bA id .dead:=by
  show { d with o:=bF (bF d.o id _) id b9.dead }={ d with o:=bF d.o id b9.dead };congr 1
  funext j
  by_cases g:j=id
  ·subst g;rw[b6,b6]
  ·rw[pC g,pC g,pC g]
 rw[cc]at a5 F;have a9:p.id≠id:=by intro cf;rw[aA]at J;rw[show(z.bA p.id (.b7 (.row T T.own ver M))).o id=.b7 (.row T T.own ver M) from by rw[cf];exact b6 _ _ _]at J;cases J
 have a_:bF ι id N p.id=ι p.id:=pC a9;have aC:=aB.ZI a3 a5
 have cg:∀j,((d.bA id .dead).o j).live->j≠id/\(d.o j).live:=by
  intro j g;by_cases aD:j=id
  ·subst aD;rw[show(d.bA j .dead).o j=.dead from b6 _ _ _]at g;exact g.elim
  ·rw[show(d.bA id .dead).o j=d.o j from pC aD]at g;exact⟨aD,g⟩
 have aE:=hinv.ext
 have a':∀b o,ae.diff (ι p.id).F m b o->ux d ι (m.or L) b o->False:=by
  rintro b o aa ((y|y)|⟨j,g,y⟩)
  ·exact aa.2 y
  ·exact az.apart p.id a2 b o y aa.1
  ·exact C.apart j g b o aa y
 have ch:bD w0 F0 (d.bA id .dead) w' (bF ι id N) Z G:=⟨fun b o x=>⟨zy aB a3 (F.own b o x).1,(F.own b o x).2⟩,F.apart,F.cB⟩;have cj:bD w0 F0 (d.bA id .dead) w' (bF ι id N) Z (ae.diff (ι p.id).F m):=by refine⟨(C.ext aE).own,fun j g b o x D=>?_,C.cB⟩;obtain⟨ck,cl⟩:=cg j g;rw[pC ck]at D;exact C.apart j cl b o x D
 have cm:ae.apart G (ae.diff (ι p.id).F m):=by
  intro b o cn aa;rcases (F.own b o cn).1 with y|y
  ·exact a' b o aa y
  ·have:=(C.own b o aa).2;omega
 have cp:bS w w' (ae.diff (ι p.id).F m):=bS.gw aE (fun b o hb=>(C.own b o hb).2) a';have ba:=a4;simp only[U.al]at ba;obtain⟨A,cq,aF,_⟩:=ba;have aF:di=.slice A (B++l).length cq:=by simpa using aF
 have cr:(execOp a.eval o).run P w=.ok (.value di) w':=by unfold execOp;rw[bd];simp only[run_bind,resolve,hc,run_pure,invoke];unfold builtin;exact e8 b'
 have ht:(d.bA id .dead).t=s.t:=by show d.t=s.t;rw[aA];exact ay.t
 unfold Oper.wp;rw[cr,Oper.upon_value,bi];have cs:d.o p.id=.b7 (.row T T.own ver M):=by rw[aA];exact b6 _ _ _
 have bb:(d.bA id .dead).o p.id=.b7 (.row T T.own ver M):=by rw[show(d.bA id .dead).o p.id=d.o p.id from pC a9];exact cs
 have bc:(bF ι id N p.id).base=some (at_ V W):=by rw[a_];exact bX
 have ct:s.o p.id=.row T T.own ver M:=by
  rcases ay.o p.id with aG|⟨_,aG⟩
  ·rw[<-aG];exact X
  ·rw[aG]at X;cases X
 refine⟨⟨_,ax,bF ι id N,Z,aC.set (by simp only[aR]) aN⟩,?_⟩
 exact PH aM bj bk bl bm bo bp br aN bs bt bu bv bw bx bA a1 bW aC (bB aC ht bb ct bc) bb bc aF a4 ch cj cm b1 (aE.iz b2)
  (by rw[a_];exact fun b5 bK cu D cv q hs=>b3 b5 bK cu D cv q ((cp.mono fun _ _ h=>h.1).trans hs)) a0 bR
set_option maxHeartbeats 1000000 in
def ZK{o:Oper}{l:List Oper}{K:av->Option bn}(aW:iI P E)(hn:E.n=n)(h:Inv w0 F0 Z0 n s a w ι Z)(hk:G5 E s o l K=some r):
  ∃z B C l',l=z::B::C::l'/\o.guard=none/\z.guard=none/\B.guard=none/\C.guard=none ∧
   o.wp P a w (fun a w=>z.wp P a w (fun a w=>B.wp P a w (fun a w=>C.wp P a w (fun a w=>∃an,K an=some r/\cO w0 F0 Z0 n an a w) Q) Q) Q) Q:=by
 unfold G5 at hk;split at hk
 case h_2=>cases hk
 rename_i z B C l';refine⟨z,B,C,l',rfl,?_⟩;split at hk
 case h_2=>cases hk
 rename_i c aZ cM bu cP cR bv bw bx bz bA bB;split at hk
 case h_2=>cases hk
 rename_i bC ab az aA hc bE bF bG;cases hb:t_ E o z B C aZ bu bv bw ab az aA
 ·rw[hb]at hk;cases hk
 rw[hb]at hk;simp only[au]at hk;unfold t_ at hb;simp only[bs,eT,Option.isNone_iff_eq_none]at hb;obtain⟨bH,ak,bI,aB,aC,aD,bJ,bL,bM,bN,bO,al,aE,aF⟩:=hb;obtain rfl:=cG bH;obtain rfl:=cG ak;obtain rfl:=cG bI;have aB:aZ≠ab:=nX aB;have aC:ab≠az:=nX aC;have aD:ab≠aA:=nX aD;have al:ab<n.n:=by rw[<-hn];exact fc al
 have aE:az<n.n:=by rw[<-hn];exact fc aE
 have aF:aA<n.n:=by rw[<-hn];exact fc aF
 refine⟨bJ,bL,bM,bN,?_⟩;split at hk
 case h_2=>cases hk
 rename_i g ah t bQ bR bU;split at hk
 case h_2=>cases hk
 rename_i e k a0 p a1 bV D;obtain⟨ao,hk,bW⟩:=ZG hk;cases aq:(!(Nat.beq a0.size 0)&&(Nat.beq ao.id p.id&&Nat.beq (ao.off+k) p.off))
 ·rw[aq]at hk;cases hk
 rw[aq]at hk;simp only[au]at hk;simp only[bs,eT]at aq;obtain⟨u,aG,aH⟩:=aq;have u:a0.size≠0:=nX u;have aG:ao.id=p.id:=cG aG;have aH:ao.off+k=p.off:=cG aH;split at hk
 case h_2=>cases hk
 rename_i bX bY bZ a2;cases aI:Nat.beq bX bY
 ·rw[aI]at hk;cases hk
 rw[aI]at hk;simp only[au]at hk;have aJ:=rr h c.args.toList;have j:=ew h bC;rw[bQ]at j;simp only[aR]at j;obtain⟨cS,cs,b0,a3,a4⟩:=j;simp only[aX]at a3 a4;subst a3 a4
 cases aK:c.args.toList.map (bP s)with
 |nil=>rw[aK]at D;cases D
 |cons v0 L=>
  rw[aK]at D hk aJ
  cases v0 with
  |aP b1=>
   cases b1 with
   |bq dq dp cT xs=>
    simp only[tY]at D;subst D;simp only[aX]at aJ;obtain⟨ac,ar,b2,aw,a5⟩:=aJ;simp only[aR]at aw;rw[aK]at a1;obtain⟨ps,rs,f⟩:=e
    cases hm:tZ (m3 (aY.aP (a7.bq dq dp (some p) xs)::L)) s t ps (aY.aP (a7.bq dq dp (some p) xs)::L++kj (aY.aP (a7.bq dq dp (some p) xs)::L))with
    |none=>rw[hm]at hk;cases hk
    |some F=>
     obtain⟨x,M,ax⟩:=F;rw[hm]at hk;simp only at hk;cases N:(alive M ax&&mi (aY.aP (a7.bq dq dp (some p) xs)::L))
     ·rw[N]at hk;cases hk
     rw[N]at hk;simp only[au]at hk;simp only[bs]at N;obtain⟨N,b3⟩:=N;obtain⟨bT,b4,hk⟩:=a6 hk;obtain⟨ad,v,hk⟩:=a6 hk;obtain⟨cU,b8,b9⟩:=a6 hk;have b_:=aW.fns g _ _ a1
     cases ps with
     |nil=>simp[tZ]at hm
     |cons b' ps=>
      cases b' with
      |val T m=>
       cases T with
       |sl a9=>
        simp only[jF,tZ]at hm;cases ay:(a8.beq m (.O a9.own)&&(U.beq t a9&&G0 ps))
        ·rw[ay]at hm;cases hm
        rw[ay]at hm;simp only[au]at hm;simp only[bs]at ay;obtain⟨ca,cb,cV⟩:=ay;obtain rfl:=a8.eq_of_beq _ _ ca;obtain rfl:=U.eq_of_beq _ _ cb;obtain⟨⟨a_,s0⟩,cc,hm⟩:=a6 hm;obtain⟨q,cd,hm⟩:=a6 hm;obtain⟨ak,cW,cX⟩:=q;simp only[cQ,fj]at hm;obtain⟨rfl,rfl,rfl⟩:=hm;obtain⟨i,T,ver,a',cY,cZ,H,ba,c0,cf,cg,bb,ch,bc,be,aL,cj,c1,ck,cl,cm⟩:=PG h aw cc;have bg:s0.o p.id=.b7 (.row T T.own ver a'):=by rw[cf];exact b6 _ _ _
        have cn:aX w Z s ι (kj (aY.aP (a7.bq dq dp (some p) xs)::L)) (fI (ac::ar)):=HM b3 (by simp only[aX];exact⟨ac,ar,rfl,by simpa only[aR]using aw,a5⟩);have c3:∃A m' c',ac=.slice A m' c':=aw.2.1
        obtain⟨V,eA,W,I,X,bh,_,bi,_,_,_,cp,src⟩:=ob ps _ _ s0 Z [] _ cd ch (aX.move bc.d' (a5.append cn)) (by simp);simp only at I X bh bi cp src;have cq:=be.ru X;have aM:=aL.ru X;have bj:=zu N;have J:bD w0 F0 M w ι W (H.or V):=cq.or bi;have aN:∀{F:ae},bD w0 F0 s0 w ι Z F->∀b o,F b o->V b o->False:=by intro F cr b o Y ct;obtain⟨id,hl,j⟩:=src b o (.inl ct);exact cr.apart id hl b o Y j
        have cu:fV w (W.or (db ι ax)) (m3 (aY.aP (a7.bq dq dp (some p) xs)::L)) (.val (.sl t) (.O t.own)::ps) (a_,ak) (c.args.toList.map a.eval++fI (c.args.toList.map a.eval)) (H.or V):=by rw[b2];exact⟨[ac],ar++fI (ac::ar),H,V,rfl,U.al.mono (fun b o u=>.inl (X.dt b o u)) _ _ (fun _ _ h=>h) cj,bh,fun b o x ad=>aN be b o x ad,fun _ _ h=>.inl h,fun _ _ h=>.inr h⟩
        obtain⟨rfl,rfl⟩:∃e:rs=[.val (.sl t) (.O t.own)],ad=(e▸bT:(cN.outs [.val (.sl t) (.O t.own)] (bt.dP (.val (.sl t) (.O t.own)::ps))).D).1:=by
         cases rs with
         |nil=>simp[wg]at v
         |cons cv rs=>
          cases cv with
          |val c4 cw=>
           cases rs with
           |cons=>simp[wg]at v
           |nil=>
            simp only[wg]at v;cases aO:a8.beq cw (.O t.own)
            ·rw[aO]at v;cases v
            rw[aO]at v;obtain rfl:=a8.eq_of_beq _ _ aO;obtain⟨e,rfl⟩:=y7 v;subst e;exact⟨rfl,rfl⟩
          |_=>simp[wg]at v
        have aQ:=b_.calls w (W.or (db ι ax)) (H.or V) (a_,ak) (c.args.toList.map a.eval) bT
         (by
          rintro b o (u|⟨d,aa,j⟩)
          ·exact I.hK b o u
          ·exact(I.own d.1 (bj d aa) b o j).2)
         (fun b o j=>(J.own b o j).2)
         (by
          rintro b o j (u|u)
          ·exact J.cB b o j u
          ·exact J.db bj b o j u) cu b4
        suffices key:∀(di:Value) (w':World),Ends w (W.or (db ι ax)) (H.or V) ⟨.val (.sl t) (.O t.own)::ps,[.val (.sl t) (.O t.own)],f⟩ (c.args.toList.map a.eval) bT di w' →
          z.wp P (a.put o.dst di) w' (fun a w=>B.wp P a w (fun a w=>C.wp P a w (fun a w=>∃an,K an=some r/\cO w0 F0 Z0 n an a w) Q) Q) Q by
         unfold Oper.wp;have cx:(execOp a.eval o).run P w=(callFunc g (c.args.toList.map a.eval).toArray).run P w:=by unfold execOp;rw[bx];simp only[run_bind,resolve,hc,b0,Deferred.ofValue,run_pure,invoke];congr 2;apply Array.ext';simp
         rw[cx];rcases aQ with⟨⟨fn,cy,cz,cA⟩,aQ⟩|⟨c5,w',cB,c6,cC,aT⟩
         ·have cD:(callFunc g (c.args.toList.map a.eval).toArray).run P w=.ok (.enter g (c.args.toList.map a.eval).toArray) w:=by
           simp only[callFunc,run_bind,run_pure,program,Sem.run,cy];rw[bd (by rw[cA];simp),bd (by rw[cz];simp)];simp only[run_pure]
          rw[cD,Oper.upon_enter];refine aQ.mono ?_
          rintro c7 w' ⟨cE,rfl,aT⟩
          exact key cE w' aT
         ·rw[cB,Oper.upon_value];cases cC;exact key _ w' aT
        rintro di w' ⟨⟨dg,Z',F',rfl,Y,c9,c_,af,da,bk⟩⟩
        simp only[gW]at bk;obtain⟨dc,dd,G,de,rfl,aU,⟨rfl,_⟩,_,cF,_⟩:=bk;have bl:=aU;simp only[U.al]at bl;obtain⟨A,bm,rfl,_⟩:=bl;obtain⟨hv,aV⟩:∃hv,hv=Value.slice A bT.1.length bm:=⟨_,rfl⟩
        rw[<-aV]at aU;rw[show mm [c8 (.sl t) [Value.slice A bT.1.length bm]]=hv from aV.symm];have bo:Inv w0 F0 Z0 n M a w' ι W:=I.zo J Y;rw[bE];have cH:M.t=s.t:=X.t.trans bc.t
        have bp:M.o p.id=.b7 (.row T T.own ver a'):=by
         rcases X.o p.id with h1|⟨h1,_⟩
         ·rw[h1,bg]
         ·rw[bg]at h1;exact h1.elim
        rw[ba]at a2;obtain rfl:=aS a2;obtain rfl:=cG aI;have aj:ae.sub G F':=cF
        have cI:ae.apart G (ae.diff (ι p.id).F H):=by
         intro b o y aa;rcases (af b o (aj b o y)).1 with(j|j)|j
         ·exact aa.2 j
         ·exact aN aL b o aa j
         ·have:=(aM.own b o aa).2;omega
        have cJ:bD w0 F0 M w' ι W G:=by
         have df:=I.ext.size;refine⟨fun b o y=>⟨?_,(af b o (aj b o y)).2⟩,fun id hl b o y br=>?_,fun b o y u=>?_⟩
         ·rcases (af b o (aj b o y)).1 with j|j
          ·exact(J.own b o j).1
          ·exact .inr (by omega)
         ·rcases (af b o (aj b o y)).1 with j|j
          ·exact J.apart id hl b o j br
          ·have:=(I.own id hl b o br).2;omega
         ·rcases (af b o (aj b o y)).1 with j|j
          ·exact J.cB b o j u
          ·have:=I.hK b o u;omega
        have cK:bS w w' (ae.diff (ι p.id).F H):=bS.gw Y (fun b o hb=>(aM.own b o hb).2) (by
         rintro b o aa (j|j)
         ·exact aa.2 j
         ·exact aN aL b o aa j)
        exact PH aW bA bB bF bG bO aC aD al aE aF bR bU bV u aH ba cg bo (ZH bz aB al aG bZ bo (by rw[cH];exact bW) bp bb) bp bb aV (oa (.sl t) (bS.refl _ _) aU) cJ (aM.ext Y) cI ck (Y.iz cl)
         (fun b5 bK F ad cL q hs=>cm b5 bK F ad cL q ((cK.mono fun _ _ h=>h.1).trans hs)) b8 b9
       |_=>simp[tZ]at hm
      |_=>simp[tZ]at hm
   |_=>simp[tY]at D
  |_=>simp[tY]at D
def ZL{z:Oper}{T:U}{v d k2 g i m ver j r:Nat}{p:Place}{sub:Option (Nat×Nat)}{s:List T.D}{q:Int}{hv:Value}{u:av}(G:fU P E)(H:E.ty v=some (.sl T))(I:z.op=.indexAddr v (.tmp d) (.tmp k2))(J:d≠g)(K:k2≠g)(B:g<n.n)
  (L:u.t d=.aP (.aa p.id sub)) (M:iY (u.t k2)=some q) (hm:ax (iF sub s) q=some m) (N:dz sub+m=i) (h:Inv w0 F0 Z0 n u a w ι Z)
  (Q:u.o p.id=.b7 (.row T T.own ver s)) (V:(ι p.id).base=some (at_ j r)):(execOp (a.put (some g) hv).eval z).run P w=.ok (.value (.pointer (some (at_ j (r+i*T.size+0))))) w:=by
 obtain⟨e,W,X⟩:=j2 (G.ty v _ H);have h1:=h.tmps d;have y:=h.tmps k2;rw[L]at h1;simp only[aR]at h1;obtain⟨_,A,len,c,Y,ab⟩:=h1;obtain⟨C,ah,aj,ak,D⟩:=ab T T.own ver s (by rw[Q];rfl);obtain⟨cX,ac⟩:=n' M y
 have hl:iF sub s=len:=by
  cases sub with
  |none=>simp[iF,C]
  |some p=>obtain⟨al,l⟩:=p;simp[iF,C]
 rw[hl]at hm;obtain⟨y,ad,rfl,an⟩:=uf hm;rcases D with D|⟨ao,F,rfl⟩
 ·omega
 rw[V]at F;obtain rfl:=aS F;unfold execOp;rw[I];refine e8 ?_;rw[pS _ _ (by rw[h.size];exact B) (Ne.symm J),pS _ _ (by rw[h.size];exact B) (Ne.symm K)];have ae:a.eval (.tmp d)=a.tmps.getD d undef:=rfl;have af:a.eval (.tmp k2)=a.tmps.getD k2 undef:=rfl;rw[ae,af,Y,ac];have:=zl (P:=P) (w:=w) (A:=at_ j (r+dz sub*T.size)) (b:=j) (o:=r+dz sub*T.size) (c:=c) (k:=cX) W X y ad;rw[<-N,cz,jJ,<-dQ];exact this
def ZM{o d e g:Oper}{id:Nat}{C:av->Bool}{K:av->Option bn}(D:iI P E)(hn:E.n=n)(h:Inv w0 F0 Z0 n s a w ι Z)(hk:G9 E id s o d e g C K=some r):
  o.guard=none/\d.guard=none/\e.guard=none/\g.guard=none ∧
   o.wp P a w (fun a w=>(∃F,C F=true/\cO w0 F0 Z0 n F a w)/\d.wp P a w (fun a w=>e.wp P a w (fun a w=>g.wp P a w (fun a w=>∃an,K an=some r/\cO w0 F0 Z0 n an a w) Q) Q) Q) Q:=by
 unfold G9 at hk;split at hk
 case h_2=>cases hk
 rename_i c aW L k2 aX M aY aZ N V W X Y ab;split at hk
 case h_2=>cases hk
 rename_i y G H hc ac ad ae;cases hb:(t_ E o d e g L M N V y G H && !(Nat.beq k2 y))
 ·rw[hb]at hk;cases hk
 rw[hb]at hk;simp only[au]at hk;unfold t_ at hb;simp only[bs,eT,Option.isNone_iff_eq_none]at hb;obtain⟨⟨af,aj,ak,al,ao,aq,ar,aw,ax,ay,az,l,z,A⟩,aA⟩:=hb;obtain rfl:=cG af;obtain rfl:=cG aj;obtain rfl:=cG ak;have l:y<n.n:=by rw[<-hn];exact fc l
 have z:G<n.n:=by rw[<-hn];exact fc z
 have A:H<n.n:=by rw[<-hn];exact fc A
 refine⟨ar,aw,ax,ay,?_⟩;split at hk
 case h_2=>cases hk
 rename_i aB ah t aC ul dp p a0 a1 aD aE aF aG aH;split at hk
 case h_2=>cases hk
 rename_i k aI a2 i sub q v em ver xs j aJ aK aL aM aN aO;cases u:(U.beq aC t&&(U.beq aB v&&(!(Nat.beq aI.size 0)&&(Nat.beq i p.id&&Nat.beq k p.off))))
 ·rw[u]at hk;cases hk
 rw[u]at hk;simp only[au]at hk;simp only[bs,eT]at u;obtain⟨ht,aQ,aR,aS,aT⟩:=u;obtain rfl:=U.eq_of_beq _ _ ht;obtain rfl:=U.eq_of_beq _ _ aQ;obtain rfl:=cG aS;obtain⟨m,hm,hk⟩:=a6 hk;cases b:Nat.beq (dz sub+m) j
 ·rw[b]at hk;cases hk
 rw[b]at hk;simp only[au]at hk;have b:=cG b;refine ZJ (po:=0) D h W hc aH aG aK ac Y ab ad ae az (nX ao) (nX aq) l z A aE aF aJ (nX aR) (by rw[bE];exact cG aT) aO ?_ hk;intro T a3 a4 a5 a7 a9 a_ a' ba hv h1 I aU J aV;rw[aN]at J;obtain⟨rfl,_,_,B⟩:=b9.row.inj J;have B:=eq_of_heq B;subst B;exact ZL D.ty aD X (nX al) (nX aA) l (by rw[I];exact aL) (by rw[I];exact aM) hm b h1 aU aV
end
end Go.LM
namespace Go.LM
def Row.map{α a:Type}{w:World}{R:a->List Value->ae->Prop}{size:Nat}(f:α->a):∀{x:List α}{b o:Nat}{F:ae},Row w R size (x.map f) b o F↔Row w (fun y=>R (f y)) size x b o F
 | [],_,_,_=>Iff.rfl
 |y::x,b,o,F=>by simp only[dh,Row,Row.map f]
section
variable{w w':World}{Z Z':ae}
def iA.n7{t:U}{em:a8}{xs:List t.D}{a:Addr}{c:Nat}{F:ae}{k:Nat}(h:iA w (t.al w Z em) t.size xs a c F)(hk:k<xs.length):
  ∃vs G,t.al w Z em xs[k] vs G/\vs.length=t.size/\bV w a.block (a.off+k*t.size) vs/\ae.sub G F/\iA w (Hc w Z t em) t.size (mj xs k) a c (ae.diff F G):=by
 obtain⟨G,r,e,g⟩:=h.row;obtain⟨s,u,v,vs,z,i,l,m,A,B,C,D,n,p,q⟩:=r.uk k hk;refine⟨vs,u,i,l,m,fun b o x=>g b o (p b o x),h.spot,by rw[zd];exact h.cap,h.wr,fun j d=>⟨h.inF j d,fun x=>e j d (p _ _ x)⟩,s.or (ae.none.or v),?_,?_,?_⟩
 ·unfold mj;refine Row.um (y:=none) (vs:=vs) k (by simpa using hk) ?_ (U.al.len t em i).2 l m ?_ (fun _ _ _ x=>x) C (fun _ _ x _=>x)
  ·rw[<-List.map_take];exact(Row.map some).2 z
  ·rw[<-List.map_drop];exact(Row.map some).2 A
 ·rintro j d (x|x|x)
  ·exact e j d (n _ _ x)
  ·exact x
  ·exact e j d (q _ _ x)
 ·rintro b o (x|x|x)
  ·exact⟨g _ _ (n _ _ x),fun y=>B b o x y⟩
  ·exact x.elim
  ·exact⟨g _ _ (q _ _ x),fun y=>D b o y x⟩
def iA.fill{t:U}{em:a8}{xs:List t.D}{a:Addr}{c:Nat}{F:ae}{k:Nat}{x:t.D}{us:List Value}{G:ae}(h:iA w (Hc w Z t em) t.size (mj xs k) a c F)(hk:k<xs.length)
  (hs:bS w w' (fun b o=>F b o/\¬(b=a.block/\a.off+k*t.size<=o/\o<a.off+k*t.size+t.size))) (u:bS w w' Z)
  (B:bV w' a.block (a.off+k*t.size) us) (C:∀j,j<t.size->fb w' t.size a.block (a.off+k*t.size+j)) (hr:t.al w' Z em x us G) (m:ae.apart G F):
  iA w' (t.al w' Z em) t.size (xs.set k x) a c (G.or F):=by
 obtain⟨H,D,n,e⟩:=h.row;obtain⟨E,Y,I,vs,v,ab,ac,ad,y,af,J,ah,g,aj,i⟩:=D.uk k (by rw[zd];exact hk);have hl:=h.cap;rw[zd]at hl;have hle:xs.length*t.size<=c*t.size:=c3 _ hl;have K:(k+1)*t.size<=xs.length*t.size:=c3 _ hk;rw[de]at K;have r:(mj xs k).take k=(xs.take k).map some:=by unfold mj;rw[List.take_set_of_le (bu _),List.map_take]
 have L:(mj xs k).drop (k+1)=(xs.drop (k+1)).map some:=by unfold mj;rw[List.drop_set_of_lt (by omega),List.map_drop]
 rw[r]at v;rw[L]at y;have M:=(Row.map some).1 v;have N:=(Row.map some).1 y
 have P:∀{R:ae},ae.sub R H->∀b o,R b o->¬(b=a.block/\a.off+k*t.size<=o/\o<a.off+k*t.size+t.size):=by
  rintro R l b o hb ⟨rfl,ak,al⟩
  exact n (o-a.off) (by omega) (by rw[show a.off +(o-a.off)=o by omega];exact l _ _ hb)
 have z:∀j,j<c*t.size->¬(k*t.size<=j/\j<k*t.size+t.size)->w'.cell? (at_ a.block (a.off+j))=w.cell? (at_ a.block (a.off+j)):=
  fun j d Q=>(hs _ _ ⟨h.inF j d,fun T=>Q (by omega)⟩).1
 have A:∀{R:ae},ae.sub R H->bS w w' R:=fun l b o hb=>hs b o ⟨e _ _ (l _ _ hb),P l b o hb⟩
 refine⟨h.spot,by simpa using hl,fun j d=>?_,fun j d=>.inr (h.inF j d),E.or (G.or I),?_,?_,?_⟩
 ·by_cases V:k*t.size<=j/\j<k*t.size+t.size
  ·have:=C (j-k*t.size) (by omega);rwa[show a.off+k*t.size +(j-k*t.size)=a.off+j by omega]at this
  ·exact hs.iz ⟨h.inF j d,fun T=>V (by omega)⟩ (h.wr j d)
 ·refine Row.um k hk (M.imp (fun W vs X s hr=>U.al.same u _ _ ((A g).mono s) hr) fun j d=>z j ?_ ?_) hr (U.al.len t em hr).1 B
   (N.imp (fun W vs X s hr=>U.al.same u _ _ ((A i).mono s) hr) fun j d=>?_) (fun b o p q=>m b o q (e _ _ (g _ _ p))) J (fun b o p q=>m b o p (e _ _ (i _ _ q)))
  ·simp only[dX]at d;have:min k xs.length*t.size<=xs.length*t.size:=c3 _ (Nat.min_le_right _ _);omega
  ·simp only[dX]at d;have:min k xs.length*t.size<=k*t.size:=c3 _ (Nat.min_le_left _ _);omega
  ·simp only[fS]at d;have r:(xs.length-(k+1))*t.size=xs.length*t.size-(k*t.size+t.size):=by rw[Nat.sub_mul,de]
   rw[r]at d;have:=z ((k+1)*t.size+j) (by rw[de];omega) (by rw[de];omega);rwa[<-dQ]at this
 ·rintro j d (p|p|p)
  ·exact n j d (g _ _ p)
  ·exact m _ _ p (h.inF j d)
  ·exact n j d (i _ _ p)
 ·rintro b o (p|p|p)
  ·exact .inr (e _ _ (g _ _ p))
  ·exact .inl p
  ·exact .inr (e _ _ (i _ _ p))
end
section
variable{P:Program}{Q:Exit->Act->World->Prop}
variable{w0:World}{F0 Z0:ae}{n:cl}{s an:av}{a b0:Act}{w w':World}{ι a':Nat->bz}{Z Z':ae}
variable{E:Env}{o:Oper}{bn:Type}{K:av->Option bn}{r:bn}{id:Nat}
def Inv.n7(h:Inv w0 F0 Z0 n s a w ι Z){i:Nat}{u:U}{em:a8}{ver:Nat}{xs:List u.D}(l:s.o i=.row u em ver xs){k:Nat}(hk:k<xs.length):
  ∃e vs G a',(ι i).base=some e/\e.spot=none/\u.al w Z em (I u xs k) vs G/\vs.length=u.size/\bV w e.block (e.off+k*u.size) vs ∧
   Inv w0 F0 Z0 n (s.bA i (.hole u em ver xs k)) a w a' Z/\bD w0 F0 (s.bA i (.hole u em ver xs k)) w a' Z G:=by
 have g:(s.o i).live:=by rw[l];trivial
 have z:=h.eU i;rw[l]at z;rcases z with⟨rfl,_⟩|⟨e,hb,hr⟩
 ·simp at hk
 obtain⟨vs,G,A,B,C,m,D⟩:=hr.n7 hk
 have hm:d_ w Z s ι w Z (s.bA i (.hole u em ver xs k)) (bF ι i ⟨(ι i).base,(ι i).cap,ae.diff (ι i).F G⟩):=by
  refine⟨fun j=>?_,fun _ _ h=>h,bS.refl _ _⟩;show gf (s.o j) (ι j) (bF s.o i _ j) (bF ι i _ j);by_cases d:i=j
  ·subst d;rw[b6,b6,l];exact .n7 _ _ _ _ _ _ _ _ (bu _) rfl rfl
  ·rw[ca d,ca d];exact .stay _ _
 have r:∀{j},i≠j->((s.bA i (.hole u em ver xs k)).o j).live->(s.o j).live:=by intro j d hl;have:(bF s.o i _ j).live:=hl;rwa[ca d]at this
 refine⟨e,vs,G,_,hb,hr.spot,by rw[cC hk];exact A,B,C,h.next hm (Ext.refl _ ae.none) (fun _ _ h=>h.elim) (fun _ _ h=>.inl h) ?_ ?_ (fun k=>(h.tmps k).move hm) h.size h.defers,?_⟩
 ·intro j hl E;by_cases d:i=j
  ·subst d;rw[b6];refine⟨?_,fun b o v=>h.own i g b o v.1,fun F H y b o p q=>?_⟩
   ·show gd _ _ _ _ _ (bF s.o i _ i);rw[b6];exact⟨e,hb,D⟩
   ·rw[ca y]at q;exact h.apart i F g (r y H) y b o p.1 q
  ·exact absurd ⟨ca d,ca d⟩ E
 ·intro j hl;by_cases d:i=j
  ·subst d;rw[b6];exact fun b o p q=>h.cB i g b o p.1 q
  ·rw[ca d];exact h.cB j (r d hl)
 ·refine⟨fun b o v=>h.own i g b o (m b o v),fun j hl b o p q=>?_,fun b o p q=>h.cB i g b o (m b o p) q⟩;by_cases d:i=j
  ·subst d;rw[b6]at q;exact q.2 p
  ·rw[ca d]at q;exact h.apart i j g (r d hl) d b o (m b o p) q
def ZN(u:fU P E)(h:Inv w0 F0 Z0 n s a w ι Z)(aa:∀k,o.dst=some k->k<n)(hk:GX E id o s K=some r):∃an,K an=some r/\o.wp P a w (cO w0 F0 Z0 n an) Q:=by
 unfold GX at hk;split at hk
 case h_2=>cases hk
 rename_i t x y;have g:=ew h x;split at hk
 case h_2=>cases hk
 rename_i T p z B;split at hk
 case h_2=>cases hk
 rename_i e em ver xs k j C;cases hb:(U.beq e T&&Nat.beq p.off 0)
 ·rw[hb]at hk;cases hk
 rw[hb]at hk;simp only[au]at hk;simp only[bs]at hb;obtain rfl:=U.eq_of_beq _ _ hb.1;have D:=cG hb.2;obtain⟨q,F,hk⟩:=a6 hk;obtain⟨v,hv,hk⟩:=a6 hk;rw[B]at g;simp only[aR]at g;obtain⟨_,A,he,V,i⟩:=g;rw[j]at i;simp only[b9.core]at i;obtain⟨k',l,H,W,m,rfl⟩:=i;rw[C]at l;obtain rfl:=aS l;obtain⟨X,vs,G,a',I,Y,hr,hl,J,L,M⟩:=h.n7 j H;rw[I]at m;obtain rfl:=aS m;rw[D,cz]at he;obtain⟨dY,N,_,hc,_⟩:=U.lv e em [] _ _ a' id q vs G F L (U.al.mono (fun _ _ h=>.inl h) _ _ (fun _ _ h=>h) hr) M (fun b o _ ⟨d,aa,_⟩=>by simp at aa) (by simp);refine⟨_,hk,ko (v:=c8 e vs) ?_ N (ml hv hc) aa⟩;unfold execOp;rw[y];refine e8 ?_;simp only[Instr.loadAt,Instr.sureAddr,he,run_bind,run_pure,wm (u.ty t e z) J hl]
def bV.uniq{b o:Nat}{us vs:List Value}(h:bV w b o us)(k:bV w b o vs)(hl:us.length=vs.length):us=vs:=by
 refine List.ext_getElem hl fun i h1 d=>?_
 have e:=h i us[i] (List.getElem?_eq_getElem h1);have a:=k i vs[i] (List.getElem?_eq_getElem d);rw[e]at a;exact aS a
def Inv.fill(h:Inv w0 F0 Z0 n s a w ι Z){i:Nat}{u:U}{em:a8}{ver:Nat}{xs:List u.D}{k:Nat}(y:s.o i=.hole u em ver xs k)(hk:k<xs.length){x:u.D}{vs:List Value}{G:ae}{d:Addr}(hb:(ι i).base=some d)
  (hr:u.al w Z em x vs G) (m:bD w0 F0 s w ι Z G):
  ∃ a',Inv w0 F0 Z0 n (s.bA i (.row u em (ver+1) (xs.set k x))) a (setCells w d.block (d.off+k*u.size) vs) a' Z/\(∀j,j≠i->a' j=ι j)/\(a' i).base=some d/\d.spot=none ∧
   (∀j,j<u.size->eS w d.block (d.off+k*u.size+j))/\∀j,j≠i->(s.o j).live->bS w (setCells w d.block (d.off+k*u.size) vs) (ι j).F:=by
 have l:(s.o i).live:=by rw[y];trivial
 have E:=h.eU i;rw[y]at E;obtain⟨V,F,v⟩:=E;rw[hb]at F;obtain rfl:=aS F;have W:=(U.al.len u em hr).1;have H:=v.cap;rw[zd]at H;have hle:xs.length*u.size<=(ι i).cap*u.size:=c3 _ H;have N:(k+1)*u.size<=xs.length*u.size:=c3 _ hk;rw[de]at N;have B:∀j,j<u.size->fb w u.size d.block (d.off+k*u.size+j):=fun j g=>by have:=v.wr (k*u.size+j) (by omega);rwa[<-dQ]at this
 have r:Ext w (setCells w d.block (d.off+k*u.size) vs) (ae.run d.block (d.off+k*u.size) u.size):=lp d.block vs w _ fun j g=>⟨rfl,by omega,by omega⟩
 have z:ae.sub (ae.run d.block (d.off+k*u.size) u.size) (ι i).F:=by
  rintro b o ⟨rfl,X,Y⟩
  have:=v.inF (o-d.off) (by omega);rwa[show d.off +(o-d.off)=o by omega]at this
 have I:bV (setCells w d.block (d.off+k*u.size) vs) d.block (d.off+k*u.size) vs:=Hl fun j g=>(B j (by omega)).1
 obtain⟨w',P⟩:∃w',w'=setCells w d.block (d.off+k*u.size) vs:=⟨_,rfl⟩
 rw[<-P]at r I⊢;have J:∀j,j≠i->(s.o j).live->bS w w' (ι j).F:=fun j g hl=>bS.gw r (fun b o hb=>(h.own j hl b o hb).2) fun b o p q=>h.apart j i hl l g b o p (z b o q)
 have C:bS w w' Z:=bS.gw r h.hK fun b o p q=>h.cB i l b o (z b o q) p
 have hm:d_ w Z s ι w' Z (s.bA i (.row u em (ver+1) (xs.set k x))) (bF ι i ⟨(ι i).base,(ι i).cap,G.or (ι i).F⟩):=by
  refine⟨fun j=>?_,fun _ _ h=>h,?_⟩
  ·show gf (s.o j) (ι j) (bF s.o i _ j) (bF ι i _ j);by_cases g:i=j
   ·subst g;rw[b6,b6,y];exact .fill _ _ _ _ _ _ _ _ _ _ (by omega) (by simp) rfl rfl
   ·rw[ca g,ca g];exact .stay _ _
  ·rintro b o (Q|⟨j,hl,hs,_,m⟩)
   ·exact C b o Q
   ·refine J j (fun e=>?_) hl b o m;subst e;have:bF s.o j _ j=s.o j:=hs;rw[b6,y]at this;cases this
 have D:∀{j},i≠j->((s.bA i (.row u em (ver+1) (xs.set k x))).o j).live->(s.o j).live:=by intro j g hl;have:(bF s.o i _ j).live:=hl;rwa[ca g]at this
 have K:=r.size;refine⟨_,h.next hm r (fun b o hb=>(h.own i l b o (z b o hb)).1) (fun _ _ h=>.inl h) ?_ ?_ (fun k=>(h.tmps k).move hm) h.size h.defers,fun j g=>ca (Ne.symm g),by rw[b6];exact hb,v.spot,fun j g=>(B j g).1,J⟩
 ·intro j hl T;by_cases g:i=j
  ·subst g;rw[b6];refine⟨?_,fun b o hb=>?_,fun L M A b o p q=>?_⟩
   ·show gd _ _ _ _ _ (bF s.o i _ i);rw[b6];refine .inr ⟨d,hb,v.fill hk (bS.gw r (fun b o hb=>(h.own i l b o hb.1).2) fun b o p q=>p.2 q) C I (fun j g=>r.iz (B j g)) ?_ (m.apart i l)⟩;exact U.al.same C _ _ (bS.gw r (fun b o hb=>(m.own b o hb).2) fun b o p q=>m.apart i l b o p (z b o q)) hr
   ·rcases hb with hb|hb
    ·exact⟨(m.own b o hb).1,jW (m.own b o hb).2 K⟩
    ·exact⟨(h.own i l b o hb).1,jW (h.own i l b o hb).2 K⟩
   ·rw[ca A]at q;rcases p with p|p
    ·exact m.apart L (D A M) b o p q
    ·exact h.apart i L l (D A M) A b o p q
  ·exact absurd ⟨ca g,ca g⟩ T
 ·intro j hl;by_cases g:i=j
  ·subst g;rw[b6]
   rintro b o (p|p) q
   ·exact m.cB b o p q
   ·exact h.cB i l b o p q
  ·rw[ca g];exact h.cB j (D g hl)
def Inv.ZO(h:Inv w0 F0 Z0 n s a w ι Z){p e:Nat}{cs d:List a7}(l:s.o p=.var e cs){g:Addr}{vs:List Value}(hb:(ι p).base=some g)(u:bV w g.block g.off vs)(hc:bG w Z s ι d vs)(hl:d.length=cs.length):
  Inv w0 F0 Z0 n (s.bA p (.var (e+1) d)) a w ι Z:=by
 have m:(s.o p).live:=by rw[l];trivial
 have o:=h.eU p;rw[l]at o;obtain⟨D,us,q,v,_,_,y⟩:=o;rw[hb]at q;obtain rfl:=aS q
 have hm:d_ w Z s ι w Z (s.bA p (.var (e+1) d)) ι :=by
  refine⟨fun j=>?_,fun _ _ h=>h,bS.refl _ _⟩;show gf (s.o j) (ι j) (bF s.o p _ j) (ι j);by_cases b:p=j
  ·subst b;rw[b6,l];exact .var _ _ _ _ _ (by omega) hl
  ·rw[ca b];exact .stay _ _
 have r:∀{j},((s.bA p (.var (e+1) d)).o j).live->(s.o j).live:=by
  intro j i;by_cases b:p=j
  ·subst b;exact m
  ·have:(bF s.o p _ j).live:=i;rwa[ca b]at this
 refine h.next hm (Ext.refl _ ae.none) (fun _ _ h=>h.elim) (fun _ _ h=>.inl h) ?_ ?_ (fun k=>(h.tmps k).move hm) h.size h.defers
 ·intro j i z;by_cases b:p=j
  ·subst b;refine⟨?_,h.own p m,fun A B C=>h.apart p A m (r B) C⟩;show gd _ _ _ _ _ (bF s.o p _ p);rw[b6];exact⟨g,vs,hb,v,hc.move hm,u,fun j b=>y j (by omega)⟩
  ·exact absurd ⟨ca b,rfl⟩ z
 ·intro j i;exact h.cB j (r i)
def ZP{y:Oper}{T:U}{em:a8}{u g k2 r i id m ver:Nat}{sub:Option (Nat×Nat)}{j:List T.D}{q:Int}{hv:Value}(D:fU P E)(F:E.ty u=some (.sl T))(G:y.op=.indexAddr u (.tmp g) (.tmp k2))(H:g≠r)(I:k2≠r)(z:r<n.n)
  (J:s.t g=.aP (.aa id sub)) (K:iY (s.t k2)=some q) (hm:ax (iF sub j) q=some m) (L:dz sub+m=i) (h:Inv w0 F0 Z0 n s a w ι Z)
  (M:(s.o id).core=.row T em ver j):i<j.length/\∃d,(ι id).base=some d/\(execOp (a.put (some r) hv).eval y).run P w'=.ok (.value (.pointer (some (at_ d.block (d.off+i*T.size))))) w':=by
 obtain⟨e,N,Q⟩:=j2 (D.ty u _ F);have h1:=h.tmps g;have v:=h.tmps k2;rw[J]at h1;simp only[aR]at h1;obtain⟨_,A,len,c,V,W⟩:=h1;obtain⟨B,ae,af,ah,C⟩:=W T em ver j M;obtain⟨cX,X⟩:=n' K v
 have hl:iF sub j=len:=by
  cases sub with
  |none=>simp[iF,B]
  |some p=>obtain⟨aj,l⟩:=p;simp[iF,B]
 rw[hl]at hm;obtain⟨v,Y,rfl,ak⟩:=uf hm;refine⟨by omega,?_⟩;rcases C with C|⟨d,ab,rfl⟩
 ·omega
 refine⟨d,ab,?_⟩;unfold execOp;rw[G];refine e8 ?_;rw[pS _ _ (by rw[h.size];exact z) (Ne.symm H),pS _ _ (by rw[h.size];exact z) (Ne.symm I)];have ac:a.eval (.tmp g)=a.tmps.getD g undef:=rfl;have ad:a.eval (.tmp k2)=a.tmps.getD k2 undef:=rfl;rw[ac,ad,V,X];have:=zl (P:=P) (w:=w') (A:=at_ d.block (d.off+dz sub*T.size)) (b:=d.block) (o:=d.off+dz sub*T.size) (c:=c) (k:=cX) N Q v Y;rw[<-L,jJ,<-dQ];exact this
def ZQ{l:List Oper}(ac:iI P E)(hn:E.n=n)(h:Inv w0 F0 Z0 n s a w ι Z)(hk:GZ E s o l K=some r):
  ∃D B l',l=D::B::l'/\o.guard=none/\D.guard=none/\B.guard=none ∧
   o.wp P a w (fun a w=>D.wp P a w (fun a w=>B.wp P a w (fun a w=>∃an,K an=some r/\cO w0 F0 Z0 n an a w) Q) Q) Q:=by
 unfold GZ at hk;split at hk
 case h_2=>cases hk
 rename_i D B l';refine⟨D,B,l',rfl,?_⟩;split at hk
 case h_2=>cases hk
 rename_i aZ aA t1 a0 k2 a1 X G a2 a3 a4;split at hk
 case h_2=>cases hk
 rename_i a5 a7 a9 a_;cases hb:GY E o D B a0 k2 X G a5 a7
 ·rw[hb]at hk;cases hk
 rw[hb]at hk;simp only[au]at hk;unfold GY at hb;simp only[bs,eT,Option.isNone_iff_eq_none]at hb;obtain⟨a',ba,ad,ae,af,bb,bc,bd,be,H,J⟩:=hb;obtain rfl:=cG a';obtain rfl:=cG ba;have ne:∀{x aB:Nat},Nat.beq x aB=false->x≠aB:=fun h e=>by subst e;simp at h
 have ad:=ne ad;have ae:=ne ae;have af:=ne af;have H:G<n.n:=by rw[<-hn];exact fc H
 have J:X<n.n:=by rw[<-hn];exact fc J
 refine⟨bb,bc,bd,?_⟩;split at hk
 case h_2=>cases hk
 rename_i T bg bh p i sub q bi bj bk bl bm bn;split at hk
 case h_2=>cases hk
 rename_i aC cs u em ver xs k L bU ah;cases hb:(U.beq T u&&(U.beq bg u&&(U.beq bh u&&(Nat.beq p.off 0&&Nat.beq cs.length u.size))))
 ·rw[hb]at hk;cases hk
 rw[hb]at hk;simp only[au]at hk;simp only[bs]at hb;obtain⟨aj,ak,al,ao,aD⟩:=hb;have aj:=U.eq_of_beq _ _ aj;have ak:=(U.eq_of_beq _ _ ak).symm;have al:=(U.eq_of_beq _ _ al).symm;subst aj;subst ak;subst al;have ao:=cG ao;have aD:=cG aD;obtain⟨m,hm,hk⟩:=a6 hk;cases M:Nat.beq (dz sub+m) k
 ·rw[M]at hk;cases hk
 rw[M]at hk;simp only[au]at hk;have M:=cG M;obtain⟨g,bo,hk⟩:=a6 hk;cases Y:(g.2.1.isEmpty&&(we (g.2.2.1.o p.id)&&we (g.2.2.1.o i)))
 ·rw[Y]at hk;cases hk
 rw[Y]at hk;simp only[au]at hk;simp only[bs,List.isEmpty_iff]at Y;obtain⟨bp,br,bt⟩:=Y;have aq:=h.tmps aA;rw[bl]at aq;simp only[aR]at aq;obtain⟨_,A,he,_,ar⟩:=aq;rw[L]at ar;simp only[b9.core]at ar;obtain⟨_,N,aE,rfl⟩:=ar;rw[ao,cz]at he;have aF:=h.eU p.id;rw[L]at aF;obtain⟨bW,vs,aG,bX,hc,aH,bu⟩:=aF;rw[aE]at aG;obtain rfl:=aS aG;have bv:=hc.len;obtain⟨us,aI,F,Z',aJ,h1,bw,aK,bx,ab,_,bz,_,_⟩:=U.j1 T false em cs s [] g vs Z bo h hc (by simp);rw[bp]at aK
 have bA:aI=[]:=by
  cases aI with
  |nil=>rfl
  |cons=>exact aK.elim
 subst bA;rw[dn]at aJ;subst aJ;rw[bz rfl]at ab;have ab:T.al w Z' em g.1 vs F:=U.al.mono (by rintro b o (bB|⟨d,aa,_⟩);exact bB;simp at aa) _ _ (fun _ _ h=>h) ab
 have aL:∀{j},we (g.2.2.1.o j)=true->g.2.2.1.o j=s.o j:=by
  intro j V;rcases bw.o j with C|⟨_,C⟩
  ·exact C
  ·rw[C]at V;cases V
 have aM:g.2.2.1.o p.id=.var aC cs:=(aL br).trans L;have bC:g.2.2.1.o i=.hole T em ver xs k:=(aL bt).trans ah;have av:p.id≠i:=fun e=>by rw[e,ah]at L;cases L
 obtain⟨aw,y,bD,bE⟩:=ZP (w':=w) (hv:=c8 T vs) ac.ty bj a3 ad ae H bm bn hm M h (by rw[ah];rfl);obtain⟨dY,C,bF,bG,bY,aN,aO⟩:=h1.fill bC aw bD ab bx;have aQ:bV (setCells w y.block (y.off+k*T.size) vs) y.block (y.off+k*T.size) vs:=Hl fun j V=>aN j (by omega)
 obtain⟨w',aT⟩:∃w',w'=setCells w y.block (y.off+k*T.size) vs:=⟨_,rfl⟩
 rw[<-aT]at C aO aQ;have bH:(g.2.2.1.bA i (.row T em (ver+1) (xs.set k g.1))).o i=.row T em (ver+1) (xs.set k g.1):=b6 _ _ _;obtain⟨bZ,z,aU,_,ax,bI,b0⟩:=Hj C bH (i:=k) (by simpa using aw);rw[bG]at aU;obtain rfl:=aS aU;have bJ:I T (xs.set k g.1) k=g.1:=by rw[cC (by simpa using aw)];simp
 rw[bJ]at ax;have bK:z=vs:=bI.uniq aQ (by omega);subst bK;have bL:(dY p.id).base=some N:=by rw[bF _ av];exact aE
 have bM:bV w' N.block N.off z:=(aO p.id av (by rw[aM];trivial)).wh (fun j V=>(bu j (by omega)).2) aH;have bN:(g.2.2.1.bA i (.row T em (ver+1) (xs.set k g.1))).o p.id=.var aC cs:=(ca (Ne.symm av)).trans aM;have bO:=C.ZO bN bL bM ax (by rw[<-ax.len,<-bv]);have aV:=(bO.set (v:=.bf) (u:=c8 T z) (by simp only[aR]) H).set (v:=.bf) (u:=.pointer (some (at_ y.block (y.off+k*T.size)))) (by simp only[aR]) J;have aW:∀v∈z,dD v=true:=hc.dD
 have ay:=zi (t:=T) (vs:=z) (by omega) aW;have bP:(c8 T z).cells.size=T.size:=by rw[<-lu,ay];omega
 have aX:=h.size;have aY:(a.put (some G) (c8 T z)).tmps.size=n.n:=by rw[HN];exact aX
 have bQ:(execOp a.eval o).run P w=.ok (.value (c8 T z)) w:=by unfold execOp;rw[a2];refine e8 ?_;have:a.eval (.tmp aA)=.pointer (some (at_ N.block N.off)):=he;simp only[Instr.loadAt,Instr.sureAddr,this,run_bind,run_pure,wm (ac.ty.ty aZ T bi) aH (by omega)]
 unfold Oper.wp;rw[bQ,Oper.upon_value,a9,bE,Oper.upon_value,a_];obtain⟨W,az⟩:∃W,W=(a.put (some G) (c8 T z)).put (some X) (.pointer (some (at_ y.block (y.off+k*T.size)))):=⟨_,rfl⟩
 rw[<-az]at aV⊢;have bR:W.eval (.tmp X)=.pointer (some (at_ y.block (y.off+k*T.size))):=by rw[az];exact wC _ _ (by rw[aY];exact J)
 have bS:W.eval (.tmp G)=c8 T z:=by rw[az,pS _ _ (by rw[aY];exact J) (Ne.symm af)];exact wC _ _ (by rw[aX];exact H)
 have bT:(execOp W.eval B).run P w=.ok .skip w':=by unfold execOp;rw[a4];have:=zh (P:=P) (w:=w) (ac.ty.ty a1 _ bk) (b:=y.block) (o:=y.off+k*T.size) (v:=c8 T z) bP (by rw[ay];exact aW) (fun j V=>aN j (by omega));rw[ay,<-aT]at this;simp only[Instr.storeAt,Instr.sureAddr,bR,bS,run_bind,run_pure,this]
 rw[bT,Oper.upon_skip,be];exact⟨_,hk,_,_,aV⟩
end
end Go.LM
