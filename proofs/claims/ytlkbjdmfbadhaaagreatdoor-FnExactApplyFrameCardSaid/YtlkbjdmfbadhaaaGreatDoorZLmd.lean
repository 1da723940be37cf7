/- Regions, loops and whole functions are what the interpreter says, and a law's reading fits them. Conditions: each theorem's own hypotheses. -/
import Derived.Test.YtlkbjdmfbadhaaaGreatDoorZLmc
import Derived.Orders
import Derived.OrdersHeld
import Derived.Laws.StructEq
import Derived.WalkKit
import Derived.ProofKit
import Derived.OpenShut
import Derived.ShutString
import Derived.ChangeOld
import Derived.Below
import Derived.JoinedCond
import Derived.Lib.Bytealg
set_option linter.unusedVariables false
set_option linter.defProp false
set_option linter.unusedSimpArgs false
namespace Go.LM
section
variable{P:Program}{Q:Exit->Act->World->Prop}
variable{w0:World}{F0 Z0:ae}{n:cl}{s an:av}{a b0:Act}{w w':World}{ι a':Nat->bz}{Z Z':ae}
variable{E:Env}{o:Oper}{bn:Type}{K:av->Option bn}{r:bn}{id:Nat}
def gh(w0:World)(F0 Z0:ae)(n:cl)(K:av->Option bn)(r:bn)(a:Act)(w:World):Prop:=∃s,K s=some r/\cO w0 F0 Z0 n s a w
def PI(hn:E.n=n)(h:wc E o=true):∀k,o.dst=some k->k<n:=by intro k hk;unfold wc at h;rw[hk]at h;rw[<-hn];exact fc h
def Inv.PJ(h:Inv w0 F0 Z0 n s a w ι Z){d:Nat}{b:Bool}(hb:s.t d=.aP (.bool b)):Inv w0 F0 Z0 n (s.set d (.aP (.bool b))) a w ι Z/\a.tmps.getD d undef=.bool b:=by
 have aa:=h.tmps d;rw[hb]at aa;have e:a.tmps.getD d undef=.bool b:=by simpa only[aR,cd]using aa
 refine⟨h.tmp rfl (fun k=>?_) h.size h.defers,e⟩;have hm:d_ w Z s ι w Z (s.set d (.aP (.bool b))) ι :=Hd rfl;show aR w Z (s.set d (.aP (.bool b))) ι (bF s.t d (.aP (.bool b)) k) (a.tmps.getD k undef);by_cases hk:d=k
 ·subst hk;rw[b6,e];simp only[aR,cd]
 ·rw[ca hk];exact(h.tmps k).move hm
def PK(h:Inv w0 F0 Z0 n s a w ι Z)(aa:∀k,o.dst=some k->k<n):cO w0 F0 Z0 n (s.dst o.dst .gone) (a.put o.dst undef) w:=
 ⟨ι,Z,h.dst (by simp only[aR]) aa⟩
def PL{ops:Array Oper}(B:iI P E)(hn:E.n=n)(h:Inv w0 F0 Z0 n s a w ι Z)(hk:rj E id ops.toList o s K=some r):
  if Region.wanted o (yielded ops a.tmps) then o.wp P a w (gh w0 F0 Z0 n K r) Q else gh w0 F0 Z0 n K r (a.put o.dst undef) w:=by
 unfold rj at hk;cases m:wc E o
 ·rw[m]at hk;cases hk
 rw[m]at hk;simp only[au]at hk;have aa:=PI hn m;have p:∀{g:av},Inv w0 F0 Z0 n g a w ι Z->cK E id o g K=some r->o.wp P a w (gh w0 F0 Z0 n K r) Q:=by intro g h1 q;obtain⟨an,e,u⟩:=ZE (Q:=Q) B h1 aa q;exact Oper.wp_mono (fun a w hs=>⟨an,e,hs⟩) u
 have y:∀{g:av},Inv w0 F0 Z0 n g a w ι Z->K (g.dst o.dst .gone)=some r->gh w0 F0 Z0 n K r (a.put o.dst undef) w:=fun h1 q=>⟨_,q,PK h1 aa⟩
 unfold guardOf at hk
 cases l:o.guard with
 |none=>
  rw[l]at hk;simp only at hk;rw[bg (by simp[Region.wanted,l])];cases C:ri E ops.toList s o
  ·rw[C]at hk;exact p h hk
  ·rw[C]at hk;obtain⟨an,e,u⟩:=ZN (Q:=Q) B.ty h aa hk;exact Oper.wp_mono (fun a w hs=>⟨an,e,hs⟩) u
 |some F=>
  obtain⟨j,wt⟩:=F;rw[l]at hk;simp only at hk
  cases i:(ops.toList[j]?).bind (·.dst)with
  |none=>rw[i]at hk;simp at hk
  |some d=>
   rw[i]at hk;simp only at hk
   cases k:s.t d with
   |aP c=>
    cases c with
    |bool b=>
     rw[k]at hk;simp only at hk;obtain⟨h1,e⟩:=h.PJ k
     have z:yielded ops a.tmps j=some b:=by
      unfold yielded;rw[Array.getElem?_toList]at i;rw[i];simp only[ag]
      have D:d<a.tmps.size:=by
       rcases ff d a.tmps.size with h|h
       ·exact h
       ·rw[Array.getD_eq_getD_getElem?,Array.getElem?_eq_none h]at e;simp[undef]at e
      rw[Array.getD_eq_getD_getElem?,Array.getElem?_eq_getElem D]at e;rw[Array.getElem?_eq_getElem D];simp only[Option.getD_some]at e;rw[e]
     have A:Region.wanted o (yielded ops a.tmps)=(b==wt):=by simp only[Region.wanted,l,z];cases b<;>cases wt<;>rfl
     rw[A];cases b<;>cases wt<;>simp only[au,ay]at hk
     ·exact p h1 hk
     ·exact y h1 hk
     ·exact y h1 hk
     ·exact p h1 hk
    |_=>rw[k]at hk;simp at hk
   |gone=>
    rw[k]at hk;simp only at hk;have e:=h.tmps d;rw[k]at e;simp only[aR]at e
    have z:yielded ops a.tmps j=none:=by
     unfold yielded;rw[Array.getElem?_toList]at i;rw[i];simp only[ag];rw[Array.getD_eq_getD_getElem?]at e
     cases G:a.tmps[d]? with
     |none=>rfl
     |some v=>rw[G]at e;simp only[Option.getD_some]at e;subst e;rfl
    have A:Region.wanted o (yielded ops a.tmps)=false:=by simp only[Region.wanted,l,z];cases wt<;>rfl
    rw[A];exact y h hk
   |_=>rw[k]at hk;simp at hk
def rz{ops:Array Oper}{R:Exit->Act->World->Prop}{i m:Nat}(b:ops[i]?=some o)(d:o.guard=none)(h:o.wp P a w (fun a w=>wpOps P ops R (List.range' (i+1) m) a w) R):wpOps P ops R (List.range' i (m+1)) a w:=by rw[List.range'_succ];simp only[wpOps,b];rw[bg (by simp[Region.wanted,d])];exact .inl h
def zz{bx:Nat}{ops:Array Oper}(b:iI P E)(hn:E.n=n):∀(m:Nat) (l:List Oper) (i:Nat) (s:av) (a:Act) (w:World),l.length<=m->ops.toList.drop i=l->pG E bx ops.toList l i 0 s K=some r->cO w0 F0 Z0 n s a w →
  wpOps P ops (fun e a w=>e=.normal/\gh w0 F0 Z0 n K r a w) (List.range' i l.length) a w
 |_,[],i,s,a,w,_,_,hk,hs=>⟨rfl,s,hk,hs⟩
 |0,_::_,_,_,_,_,hm,_,_,_=>by simp at hm
 |m+1,o::l,i,s,a,w,hm,hl,hk,⟨ι,Z,h⟩=>by
  have hm:l.length<=m:=by simpa using hm
  have d:∀(j:Nat) (o:Oper) (l:List Oper),ops.toList.drop j=o::l->ops[j]?=some o/\ops.toList.drop (j+1)=l:=by intro j o l hl;refine⟨?_,by rw[<-List.drop_drop,hl];rfl⟩;rw[<-Array.getElem?_toList];have:=congrArg (·[0]?) hl;simpa using this
  obtain⟨p,q⟩:=d i o l hl;simp only[pG]at hk;cases G:ON E s o
  ·rw[G]at hk;simp only[ay]at hk;cases H:OM s o l
   case true=>rw[H]at hk;simp only[au]at hk;obtain⟨J,L,l',rfl,u,v,y,z⟩:=ZQ (Q:=fun e a w=>e=.normal/\gh w0 F0 Z0 n K r a w) b hn h hk;obtain⟨A,B⟩:=d _ _ _ q;obtain⟨C,D⟩:=d _ _ _ B;refine rz p u (Oper.wp_mono (fun a w h=>rz A v (Oper.wp_mono (fun a w h=>rz C y (Oper.wp_mono (fun a w h=>?_) h)) h)) z);obtain⟨an,h1,g⟩:=h;exact zz b hn m l' (i+1+1+1) an a w (by simp at hm;omega) D h1 g
   rw[H]at hk;simp only[ay]at hk;rw[b2,List.range'_succ];have k:=PL (Q:=fun e a w=>e=.normal/\gh w0 F0 Z0 n K r a w) b hn h hk;simp only[wpOps,p]
   have I:∀a w,gh w0 F0 Z0 n (fun an=>pG E bx ops.toList l (i+1) 0 an K) r a w->wpOps P ops (fun e a w=>e=.normal/\gh w0 F0 Z0 n K r a w) (List.range' (i+1) l.length) a w:=by
    rintro a w ⟨an,h1,g⟩
    exact zz b hn m l (i+1) an a w hm q h1 g
   split
   ·rename_i F;rw[bg F]at k;exact .inl (Oper.wp_mono I k)
   ·rename_i F;rw[bd F]at k;exact I _ _ k
  ·rw[G]at hk;simp only[au]at hk;obtain⟨J,L,U,l',rfl,u,v,y,M,z⟩:=ZK (Q:=fun e a w=>e=.normal/\gh w0 F0 Z0 n K r a w) b hn h hk;obtain⟨A,B⟩:=d _ _ _ q;obtain⟨C,D⟩:=d _ _ _ B;obtain⟨N,T⟩:=d _ _ _ D;refine rz p u (Oper.wp_mono (fun a w h=>rz A v (Oper.wp_mono (fun a w h=>rz C y (Oper.wp_mono (fun a w h=>rz N M (Oper.wp_mono (fun a w h=>?_) h)) h)) h)) z);obtain⟨an,h1,g⟩:=h;exact zz b hn m l' (i+1+1+1+1) an a w (by simp at hm;omega) T h1 g
def ZR{bx:Nat}{ops:Array Oper}(b:iI P E)(hn:E.n=n)(l:List Oper)(i:Nat)(s:av)(a:Act)(w:World)(hl:ops.toList.drop i=l)(hk:G6 E bx ops.toList l i s K=some r)(hs:cO w0 F0 Z0 n s a w):
  wpOps P ops (fun e a w=>e=.normal/\gh w0 F0 Z0 n K r a w) (List.range' i l.length) a w:=zz b hn l.length l i s a w (bu _) hl hk hs
def ZS{bx:Nat}{ops:Array Oper}(d:iI P E)(hn:E.n=n)(hk:G6 E bx ops.toList ops.toList 0 s K=some r)(hs:cO w0 F0 Z0 n s a w)(b:Frame)(k:List Item)(cs:List Frame):
  ∃b0 w',gh w0 F0 Z0 n K r b0 w'/\Steps P (lone (b.at a (.code (.region bx ops false)::k)) cs w) (lone (b.at b0 k) cs w'):=by
 have h:=ZR (w0:=w0) (F0:=F0) (Z0:=Z0) (n:=n) d hn ops.toList 0 s a w rfl hk hs;have g:wpOps P ops (fun e a w=>e=.normal/\gh w0 F0 Z0 n K r a w) (List.range ops.size) a w:=by rw[List.range_eq_range'];simpa using h
 obtain⟨e,b0,w',⟨rfl,hl⟩,i⟩:=wp_ops _ a w g b k cs;exact⟨b0,w',hl,.head step_region i⟩
end
end Go.LM
namespace Go.LM
section
variable{P:Program}{ops:Array Oper}{Q:Exit->Act->World->Prop}
abbrev fm:=List (Nat×(World->Prop))
def fm.after(ops:Array Oper)(j:Nat)(p:fm):fm:=p.filter fun x=> !waits ops j x.1
def fm.ok(p:fm)(w:World):Prop:=∀x∈p,x.2 w
def mo(P:Program)(ops:Array Oper)(Q:Exit->Act->World->Prop):Nat->Array Bool->fm->Act->World->Prop
 |0,listed,_,a,w=>Region.ready .any ops listed=[]/\Q .normal a w
 |fuel+1,listed,b,a,w=>
  (Region.ready .any ops listed=[]->Q .normal a w) ∧
  ∀j∈Region.ready .any ops listed,wpOp P ops Q j (fun b0 w'=>(b.after ops j).ok w'/\mo P ops Q fuel (listed.setIfInBounds j true) (b.after ops j) b0 w') a w
def PM:∀(fuel:Nat) (listed:Array Bool) (b:fm) (a:Act) (w:World),mo P ops Q fuel listed b a w->wpAny P .any ops Q fuel listed a w
 |0,_,_,_,_,h=>h
 |fuel+1,_,_,_,_,h=>⟨h.1,fun i d=>wpOp_mono (fun b0 w' e=>PM fuel _ _ b0 w' e.2) (h.2 i d)⟩
def fm.PN{p q:fm}(h:∀x∈p,x∈q)(j:Nat):∀x∈p.after ops j,x∈q.after ops j:=by intro x a;unfold fm.after at *;rw[List.mem_filter]at *;exact⟨h x a.1,a.2⟩
def PO:∀(fuel:Nat) (listed:Array Bool) (p q:fm) (a:Act) (w:World),(∀x∈p,x∈q)->mo P ops Q fuel listed q a w->mo P ops Q fuel listed p a w
 |0,_,_,_,_,_,_,h=>h
 |fuel+1,_,p,q,_,_,hs,h=>⟨h.1,fun i d=>wpOp_mono (fun b0 w' b=>⟨fun x e=>b.1 x (fm.PN hs i x e),PO fuel _ _ _ b0 w' (fm.PN hs i) b.2⟩) (h.2 i d)⟩
def fm.HO{p:fm}{j:Nat}{x:Nat×(World->Prop)}(a:x∈p.after ops j):x∈p:=(List.mem_filter.1 a).1
def ZT{i:Nat}{l:Oper}{v:Value}{S:World->Prop}(u:ops[i]?=some l)(A:∀(j:Nat) (o:Oper) cs b,ops[j]?=some o->o.op≠.select cs b)
  (I:∀c a w,Q (.panic c) (a.put l.dst v) w->Q (.panic c) a w):
  ∀(fuel:Nat) (listed:Array Bool) (m:fm) (a:Act) (w:World),
   (∀j n,ops[j]?=some n->j≠i->listed.getD j true=false->(∀e∈n.after,Region.binds .any e=true->e.on≠i)->l.apart ops n=true) →
   i∈Region.ready .any ops listed->YieldsIf P ops S l v a->S w->m.ok w →
   mo P ops Q fuel (listed.setIfInBounds i true) ((i,S)::m) (a.put l.dst v) w->mo P ops Q (fuel+1) listed m a w:=by
 intro fuel
 induction fuel with
 |zero=>
  intro listed m a w _ hr q y ai H;refine⟨fun h=>(by rw[h]at hr;cases hr),fun j r=>?_⟩;by_cases g:j=i
  ·subst g;exact q.wpOp u y ⟨fun x d=>ai x (fm.HO d),H⟩
  ·have:=ready_mono r g;rw[H.1]at this;cases this
 |succ fuel J=>
  intro listed m a w B hr q y ai H;refine⟨fun h=>(by rw[h]at hr;cases hr),fun j r=>?_⟩;by_cases g:j=i
  ·subst g;exact q.wpOp u y ⟨fun x d=>ai x (fm.HO d),PO _ _ _ _ _ _ (fun x d=>gS _ (fm.HO d)) H⟩
  ·have h1:=H.2 j (ready_mono r g);obtain⟨C,n,s,K⟩:=mem_ready.1 r
   have D:∀e∈n.after,Region.binds .any e=true->e.on≠i:=fun e he hb heq=>by
    have h1:=K e he hb;have E:=(mem_ready.1 hr).1;rw[heq]at h1;rcases ff i listed.size with z|z
    ·simp[z]at E h1;rw[E]at h1;cases h1
    ·simp[Array.getElem?_eq_none z]at h1
   have L:waits ops j i=false:=by unfold waits;rw[s];simp only;rw[Bool.eq_false_iff];intro M;obtain⟨e,he,hb⟩:=Array.any_eq_true'.1 M;simp only[bs]at hb;exact D e he hb.1 (cG hb.2)
   have N:fm.after ops j ((i,S)::m)=(i,S)::m.after ops j:=by unfold fm.after;rw[List.filter_cons_of_pos (by simp[L])]
   rw[N]at h1;have T:=wpOp_putIf s (B j n s g C D) (fun cs b=>A i l cs b u) (fun cs b=>A j n cs b s) I q h1
   have U:∀k ok,ops[k]?=some ok->k≠i->(listed.setIfInBounds j true).getD k true=false →
     (∀e∈ok.after,Region.binds .any e=true->e.on≠i)->l.apart ops ok=true:=fun k ok hk V F W=>by
    refine B k ok hk V ?_ W;by_cases G:j=k
    ·subst G;exact C
    ·rw[getD_set_ne true G]at F;exact F
   refine wpOp_mono (fun b0 w' p=>⟨fun x d=>p.2.1 x (gS _ d),J (listed.setIfInBounds j true) _ b0 w' U (ready_mono hr (Ne.symm g)) p.1 (p.2.1 _ gT) (fun x d=>p.2.1 x (gS _ d)) ?_⟩) T;rw[Array.setIfInBounds_comm _ _ g];exact p.2.2
end
end Go.LM
namespace Go.LM
section
variable{P:Program}{Q:Exit->Act->World->Prop}
variable{w0:World}{F0 Z0:ae}{n:cl}{s an:av}{a b0:Act}{w w':World}{ι a':Nat->bz}{Z Z':ae}
variable{E:Env}{o:Oper}{bn:Type}{K:av->Option bn}{r:bn}{id:Nat}
structure cl.le(p q:cl):Prop where
 n:q.n=p.n
 n6:q.n6=p.n6
 gc:∀e,e∈p.gc->e∈q.gc
def cl.le.refl(n:cl):cl.le n n:=⟨rfl,rfl,fun _ h=>h⟩
def cl.le.trans{a b c:cl}(h:cl.le a b)(k:cl.le b c):cl.le a c:=⟨k.n.trans h.n,k.n6.trans h.n6,fun e he=>k.gc e (h.gc e he)⟩
def Inv.forget{b:cl}(h:Inv w0 F0 Z0 b s a w ι Z)(hl:cl.le n b):Inv w0 F0 Z0 n s a w ι Z:=
 ⟨h.ext,h.dt,h.pK,h.hK,h.eU,h.own,h.apart,h.cB,h.tmps,by rw[h.size,hl.n],by rw[<-hl.n6];exact h.ghost,fun e he=>h.seen e (hl.gc e he),h.defers⟩
def Inv.PQ(h:Inv w0 F0 Z0 n s a w ι Z){e:Seen}(he:rp w Z s ι e):Inv w0 F0 Z0 ⟨n.n,n.n6,e::n.gc⟩ s a w ι Z:=
 ⟨h.ext,h.dt,h.pK,h.hK,h.eU,h.own,h.apart,h.cB,h.tmps,h.size,h.ghost,fun x b=>by rcases List.mem_cons.1 b with rfl|b;exact he;exact h.seen x b,h.defers⟩
def PR(n:cl)(e:Seen):cl.le n ⟨n.n,n.n6,e::n.gc⟩:=⟨rfl,rfl,fun _ h=>gS _ h⟩
def pT(n:cl)(dp:List (Nat×Nat))(S:World->Prop):Prop:=(∀w,S w)\/∃b i vs,(⟨dp,b,i,vs⟩:Seen)∈n.gc/\S=fun w=>bV w b i vs
def pT.le{a:cl}{dp:List (Nat×Nat)}{S:World->Prop}(h:pT n dp S)(hl:cl.le n a):pT a dp S:=
 h.imp (fun h=>h) fun⟨b,i,vs,h1,d⟩=>⟨b,i,vs,hl.gc _ h1,d⟩
def Reads(P:Program)(w0:World)(F0 Z0:ae)(n:cl)(dp:List (Nat×Nat))(o:Oper)(a:Act)(w:World)(an:av):Prop:=
 ∃v S b,(∀w',S w'->(execOp a.eval o).run P w'=.ok (.value v) w')/\S w/\cO w0 F0 Z0 b an (a.put o.dst v) w/\cl.le n b/\pT b dp S
def Pure.reads{dp:List (Nat×Nat)}(h:Pure P o a w (cO w0 F0 Z0 n an)):Reads P w0 F0 Z0 n dp o a w an:=by obtain⟨v,h1,b⟩:=h;exact⟨v,fun _=>True,n,fun w' _=>h1 w',trivial,b,.refl n,.inl fun _=>trivial⟩
def ZU{t:Nat}{x:Operand}(J:fU P E)(h:Inv w0 F0 Z0 n s a w ι Z)(aa:∀k,o.dst=some k->k<n)(m:o.op=.load t x)(hk:cK E id o s K=some r):
  ∃an,K an=some r/\Reads P w0 F0 Z0 n (ic s o) o a w an:=by
 unfold cK at hk;rw[m]at hk;simp only at hk;have e:=ew h x
 have F:∀{T:U}{b i:Nat}{vs:List Value}{w':World},E.ty t=some T->a.eval x=.pointer (some (at_ b i))->bV w' b i vs->vs.length=T.size →
   (execOp a.eval o).run P w'=.ok (.value (c8 T vs)) w':=by
  intro T b i vs w' ht he hc hl;unfold execOp;rw[m];refine e8 ?_;simp only[Instr.loadAt,Instr.sureAddr,he,run_bind,run_pure,wm (J.ty t T ht) hc hl]
 cases ht:E.ty t with
 |none=>rw[ht]at hk;simp at hk
 |some T=>
  rw[ht]at hk
  cases l:bP s x with
  |ptr p=>
   have y:ic s o=[(p.id,jK s p.id)]:=by unfold ic;rw[m];simp only[l]
   rw[l]at hk e;simp only at hk
   cases g:(kL s T.size p).bind (iX T)with
   |none=>rw[g]at hk;simp at hk
   |some v=>
    rw[g]at hk;obtain⟨cs,h1,z⟩:=a6 g;simp only[aR]at e;obtain⟨_,A,he,ai⟩:=e;obtain⟨b,i,vs,rfl,hc,q,hl,G,L⟩:=PD h h1 ai;have B:rp w Z s ι ⟨ic s o,b,i,vs⟩:=by rw[y];refine⟨fun d aa=>?_,fun _=>⟨q,fun j u=>.inr ⟨_,List.mem_singleton.2 rfl,L j (by simp only at u;omega)⟩⟩⟩;rw[kG]at aa;subst aa;exact⟨fun hn=>by rw[hn]at G;exact G,.inr (bu _)⟩
    exact⟨_,hk,_,fun w'=>bV w' b i vs,_,fun w' C=>F ht he C hl,q,⟨ι,Z,(h.PQ B).dst (ml z hc) aa⟩,PR n ⟨ic s o,_,_,_⟩,.inr ⟨b,i,vs,gT,rfl⟩⟩
  |c2 dp cs off=>
   have y:ic s o=dp:=by unfold ic;rw[m];simp only[l]
   rw[l]at hk e;simp only at hk
   cases g:(takeN off T.size cs).bind (iX T)with
   |none=>rw[g]at hk;simp at hk
   |some v=>
    rw[g]at hk;simp only at hk;cases D:alive s dp
    ·rw[D]at hk;simp at hk
    rw[D]at hk;obtain⟨Q,h1,z⟩:=a6 g;obtain⟨V,rfl⟩:=m5 h1;simp only[aR]at e;obtain⟨M,b,i,vs,he,e⟩:=e;obtain⟨hc,q,N⟩:=e D;have hlen:=hc.len;have H:bV w b (i+off) (part vs off T.size):=q.part off T.size;have I:(part vs off T.size).length=T.size:=by simp[part];omega
    have B:rp w Z s ι ⟨ic s o,b,i+off,part vs off T.size⟩:=by rw[y];refine⟨M,fun _=>⟨H,fun j u=>?_⟩⟩;simp only at u;rw[I]at u;have:=N (off+j) (by omega);rwa[<-dQ]at this
    exact⟨_,hk,_,fun w'=>bV w' b (i+off) (part vs off T.size),_,fun w' C=>F ht he C I,H,⟨ι,Z,(h.PQ B).dst (ml z ((hc.drop _).take _)) aa⟩,PR n ⟨ic s o,_,_,_⟩,.inr ⟨b,i+off,part vs off T.size,gT,rfl⟩⟩
  |_=>rw[l]at hk;simp at hk
def ZV(j:iI P E)(h:Inv w0 F0 Z0 n s a w ι Z)(aa:∀k,o.dst=some k->k<n)(d:rk E o=true)(hk:cK E id o s K=some r):
  ∃an,K an=some r/\Reads P w0 F0 Z0 n (ic s o) o a w an:=by
 have g:(∃an,K an=some r/\Pure P o a w (cO w0 F0 Z0 n an))->∃an,K an=some r/\Reads P w0 F0 Z0 n (ic s o) o a w an:=fun⟨an,h1,l⟩=>⟨an,h1,l.reads⟩
 unfold rk at d
 cases e:o.op with
 |move x=>exact g (zj h aa (.inl e) hk)
 |assign x=>exact g (zj h aa (.inr e) hk)
 |pick c x q=>exact g (O2 h aa e hk)
 |load t x=>exact ZU j.ty h aa e hk
 |nilCheck x=>exact g (O3 h aa e hk)
 |binOp op t x q v=>exact g (Pj j.ty j.eq h aa e hk)
 |unOp op t x=>exact g (Pf h aa e hk)
 |convert st u x=>
  rw[e]at d;simp only at d
  cases h1:E.ty st with
  |none=>rw[h1]at d;simp at d
  |some S=>
   cases l:E.ty u with
   |none=>rw[h1,l]at d;cases S<;>simp at d
   |some T=>rw[h1,l]at d;cases S<;>cases T<;>simp only at d<;>first|(cases d;done)|exact g (Zn j.ty h aa e h1 l hk)
 |build t ps=>exact g (Pt j.ty h aa e hk)
 |makeFunc f first kh=>
  cases f with
  |func f=>exact g (O8 h aa e hk)
  |_=>unfold cK at hk;rw[e]at hk;simp at hk
 |slice t x y z e6=>exact g (Pc j.ty h aa e hk)
 |fieldAddr t x f=>exact g (O5 j.ty h aa e hk)
 |field t x f=>exact g (O6 j.ty h aa e hk)
 |indexAddr t x i=>exact g (O9 j.ty h aa e hk)
 |index t x i=>exact g (O_ j.ty h aa e hk)
 |extract x i=>exact g (O7 h aa e hk)
 |call c=>
  rw[e]at d;simp only at d
  cases hc:c.callee with
  |builtin b=>
   rw[hc]at d;by_cases hb:b=.append
   ·subst hb;simp at d
   ·by_cases p:b=.clear
    ·subst p;simp at d
    ·exact g (Pn j.ty h aa e hc hb p hk)
  |value f=>rw[hc]at d;simp at d
  |invoke x m=>rw[hc]at d;simp at d
 |_=>rw[e]at d;simp at d
def ZW{d:Nat}{c:aY}(a:s.t d=c)(x:Operand):bP (s.set d c) x=bP s x:=by
 cases x with
 |tmp t=>
  show bF s.t d c t=s.t t;by_cases aa:d=t
  ·subst aa;rw[b6,a]
  ·rw[ca aa]
 |_=>rfl
def PS{d:Nat}{c:aY}(a:s.t d=c):ic (s.set d c) o=ic s o:=by
 unfold ic;cases b:o.op<;>simp only
 rename_i t x;rw[ZW a];rfl
def ZX{ops:Array Oper}(C:iI P E)(hn:E.n=n)(D:rk E o=true)(F:ri E ops.toList s o=false)(h:Inv w0 F0 Z0 n s a w ι Z)(hk:rj E id ops.toList o s K=some r):
  ∃an v S g,K an=some r/\YieldsIf P ops S o v a/\S w/\cO w0 F0 Z0 g an (a.put o.dst v) w/\cl.le n g/\pT g (ic s o) S:=by
 unfold rj at hk;cases q:wc E o
 ·rw[q]at hk;cases hk
 rw[q]at hk;simp only[au]at hk;have aa:=PI hn q;have u:∀{l:av},Region.wanted o (yielded ops a.tmps)=true->ic l o=ic s o->Inv w0 F0 Z0 n l a w ι Z->cK E id o l K=some r->∃an v S g,K an=some r/\YieldsIf P ops S o v a/\S w/\cO w0 F0 Z0 g an (a.put o.dst v) w/\cl.le n g/\pT g (ic s o) S:=by intro l i he h1 y;obtain⟨an,e,v,S,g,G,H,I,J,L⟩:=ZV C h1 aa D y;exact⟨an,v,S,g,e,.inl ⟨i,G⟩,H,I,J,he▸L⟩
 have z:∀{l:av},Region.wanted o (yielded ops a.tmps)=false->Inv w0 F0 Z0 n l a w ι Z->K (l.dst o.dst .gone)=some r->∃an v S g,K an=some r/\YieldsIf P ops S o v a/\S w/\cO w0 F0 Z0 g an (a.put o.dst v) w/\cl.le n g/\pT g (ic s o) S:=fun i h1 y=>⟨_,undef,fun _=>True,n,y,.inr ⟨i,rfl⟩,trivial,PK h1 aa,.refl n,.inl fun _=>trivial⟩
 unfold guardOf at hk
 cases p:o.guard with
 |none=>rw[p]at hk;simp only[F,ay]at hk;exact u (by simp[Region.wanted,p]) rfl h hk
 |some M=>
  obtain⟨j,wt⟩:=M;rw[p]at hk;simp only at hk
  cases m:(ops.toList[j]?).bind (·.dst)with
  |none=>rw[m]at hk;simp at hk
  |some d=>
   rw[m]at hk;simp only at hk
   cases k:s.t d with
   |aP c=>
    cases c with
    |bool b=>
     rw[k]at hk;simp only at hk;obtain⟨h1,e⟩:=h.PJ k
     have A:yielded ops a.tmps j=some b:=by
      unfold yielded;rw[Array.getElem?_toList]at m;rw[m];simp only[ag]
      have B:d<a.tmps.size:=by
       rcases ff d a.tmps.size with h|h
       ·exact h
       ·rw[Array.getD_eq_getD_getElem?,Array.getElem?_eq_none h]at e;simp[undef]at e
      rw[Array.getD_eq_getD_getElem?,Array.getElem?_eq_getElem B]at e;rw[Array.getElem?_eq_getElem B];simp only[Option.getD_some]at e;rw[e]
     have i:Region.wanted o (yielded ops a.tmps)=(b==wt):=by simp only[Region.wanted,p,A];cases b<;>cases wt<;>rfl
     cases b<;>cases wt<;>simp only[au,ay]at hk
     ·exact u i (PS k) h1 hk
     ·exact z i h1 hk
     ·exact z i h1 hk
     ·exact u i (PS k) h1 hk
    |_=>rw[k]at hk;simp at hk
   |gone=>
    rw[k]at hk;simp only at hk;have e:=h.tmps d;rw[k]at e;simp only[aR]at e
    have A:yielded ops a.tmps j=none:=by
     unfold yielded;rw[Array.getElem?_toList]at m;rw[m];simp only[ag];rw[Array.getD_eq_getD_getElem?]at e
     cases N:a.tmps[d]? with
     |none=>rfl
     |some v=>rw[N]at e;simp only[Option.getD_some]at e;subst e;rfl
    have i:Region.wanted o (yielded ops a.tmps)=false:=by simp only[Region.wanted,p,A];cases wt<;>rfl
    exact z i h hk
   |_=>rw[k]at hk;simp at hk
def ZY{a b:Option bn}(h:both a b=some r):a=some r/\b=some r:=by
 unfold both at h;split at h
 ·rename_i he;subst he;exact⟨h,h⟩
 ·cases h
def PT:∀{l:List (Option bn)},zb l=some r->∀x∈l,x=some r
 | [x],h,b,a=>by rw[kG]at a;rw[a];exact h
 |x::z::l,h,b,a=>by
  simp only[zb]at h;obtain⟨h1,d⟩:=ZY h;rcases List.mem_cons.1 a with rfl|a
  ·exact h1
  ·exact PT (l:=z::l) d b a
def uy(n:cl)(p:List (Nat×List (Nat×Nat)))(q:fm):Prop:=∀x∈q,∃dp,(x.1,dp)∈p/\pT n dp x.2
def uy.le{a:cl}{p:List (Nat×List (Nat×Nat))}{q:fm}(h:uy n p q)(hl:cl.le n a):uy a p q:=
 fun x b=>let ⟨dp,h1,d⟩:=h x b;⟨dp,h1,d.le hl⟩
def HP:∀{p:List (Nat×List (Nat×Nat))},rl s p=true->∀x∈p,alive s x.2=true
 | [],_,_,a=>by simp at a
 |d::p,h,x,a=>by
  unfold rl at h;cases b:alive s d.2
  ·rw[b]at h;cases h
  ·rw[b]at h;rcases List.mem_cons.1 a with rfl|a
   ·exact b
   ·exact HP h x a
def ZZ{bx:Nat}{ops:Array Oper}(L:iI P E){m:Nat}{listed:Array Bool}{p:List (Nat×List (Nat×Nat))}{q:fm}{z:cl}{rs:List Nat}(hn:E.n=z)(hle:cl.le n z)(hr:Region.ready .any ops listed=rs)
  (h:Inv w0 F0 Z0 z s a w ι Z) (ai:uy z p q) (hk:G_ E bx ops listed p rs s K=some r):mo P ops (fun e a w=>e=.normal/\gh w0 F0 Z0 n K r a w) (m+3+1) listed q a w:=by
 have A:∀{l:List Nat}{i:Nat},one l=some i->l=[i]:=by
  intro l i h
  match l,h with
  | [j],h=>rw[aS (show some j=some i from h)]
 unfold G_ at hk;obtain⟨i,F,hk⟩:=a6 hk;obtain⟨B,h1,hk⟩:=a6 hk;obtain⟨i2,v,hk⟩:=a6 hk;obtain⟨M,u,hk⟩:=a6 hk;have F:=hr.trans (A F);have h1:=A h1;have v:=A v;have u:=A u;generalize N:listed.setIfInBounds i true=T at hk h1 v u;generalize U:T.setIfInBounds B true=V at hk v u;generalize W:V.setIfInBounds i2 true=X at hk u;generalize Y:X.setIfInBounds M true=ab at hk;cases hb:((Region.ready .any ops ab).isEmpty&&((p.filter fun p=> !waits ops i p.1).filter fun p=> !waits ops B p.1).isEmpty)
 ·rw[hb]at hk;cases hk
 rw[hb]at hk;simp only[au]at hk;simp only[bs,List.isEmpty_iff]at hb;obtain⟨I,ac⟩:=hb;obtain⟨o,ad,hk⟩:=a6 hk;obtain⟨aH,ae,hk⟩:=a6 hk;obtain⟨aI,af,hk⟩:=a6 hk;obtain⟨aJ,ah,hk⟩:=a6 hk;obtain⟨aj,G,ak,al,g⟩:=ZM (Q:=fun e a w=>e=.normal/\gh w0 F0 Z0 n K r a w) L hn h hk
 have step:∀{fuel j:Nat}{C:Oper}{l:Array Bool}{q:fm}{a:Act}{w:World},Region.ready .any ops l=[j]->ops[j]?=some C->C.guard=none →
   C.wp P a w (fun b0 w'=>(q.after ops j).ok w'/\mo P ops (fun e a w=>e=.normal/\gh w0 F0 Z0 n K r a w) fuel (l.setIfInBounds j true) (q.after ops j) b0 w') (fun e a w=>e=.normal/\gh w0 F0 Z0 n K r a w) →
   mo P ops (fun e a w=>e=.normal/\gh w0 F0 Z0 n K r a w) (fuel+1) l q a w:=by
  intro fuel j C l q a w hr D ao aq;refine⟨fun h=>(by rw[hr]at h;cases h),fun k hk=>?_⟩;rw[hr]at hk;obtain rfl:=List.mem_singleton.1 hk;unfold wpOp;simp only[D];rw[bg (by simp[Region.wanted,ao])];exact .inl aq
 have ar:fm.after ops B (fm.after ops i q)=[]:=by
  refine List.eq_nil_iff_forall_not_mem.2 fun x d=>?_
  obtain⟨d,H⟩:=List.mem_filter.1 d;obtain⟨d,av⟩:=List.mem_filter.1 d;obtain⟨dp,G,_⟩:=ai x d;have:(x.1,dp)∈((p.filter fun p=> !waits ops i p.1).filter fun p=> !waits ops B p.1):=List.mem_filter.2 ⟨List.mem_filter.2 ⟨G,av⟩,H⟩;rw[ac]at this;cases this
 have nil:∀(j:Nat),fm.after ops j []=[]:=fun _=>rfl
 refine step F ad aj (Oper.wp_mono ?_ g)
 rintro aK aw ⟨⟨aL,ax,a',Z',k2⟩,g⟩
 refine⟨?_,?_⟩
 ·intro x d;obtain⟨H,ay⟩:=List.mem_filter.1 d;obtain⟨dp,az,y⟩:=ai x H;rcases y with y|⟨b,j,vs,y,aA⟩
  ·exact y aw
  ·rw[aA];exact((k2.seen _ y).2 (HP ax _ (List.mem_filter.2 ⟨az,ay⟩))).1
 rw[N];refine step h1 ae G (Oper.wp_mono ?_ g);intro aM b5 g;rw[ar,U];refine⟨fun x d=>(by cases d),step v af ak (Oper.wp_mono ?_ g)⟩;intro aN aO g;rw[nil,W];refine⟨fun x d=>(by cases d),step u ah al (Oper.wp_mono ?_ g)⟩
 rintro aB aC ⟨an,aD,aE,aF,aG⟩
 rw[nil,Y];refine⟨fun x d=>(by cases d),?_⟩;have J:Exit.normal=.normal/\gh w0 F0 Z0 n K r aB aC:=⟨rfl,an,aD,aE,aF,aG.forget hle⟩
 cases m with
 |zero=>exact⟨I,J⟩
 |succ m=>exact⟨fun _=>J,fun j D=>(by rw[I]at D;cases D)⟩
def HQ{bx:Nat}{ops:Array Oper}(z:iI P E)(hs:Region.noSelect ops=true):∀(m:Nat) (listed:Array Bool) (p:List (Nat×List (Nat×Nat))) (q:fm) (g:cl) (s:av) (a:Act) (w:World),
  E.n=g->cl.le n g->rm E bx ops m listed p s K=some r->cO w0 F0 Z0 g s a w->uy g p q->q.ok w →
  mo P ops (fun e a w=>e=.normal/\gh w0 F0 Z0 n K r a w) m listed q a w
 |0,listed,p,q,g,s,a,w,hn,hle,hk,⟨ι,Z,h⟩,ai,I=>by
  unfold rm at hk
  cases hr:Region.ready .any ops listed with
  |nil=>rw[hr]at hk;exact⟨hr,rfl,s,hk,ι,Z,h.forget hle⟩
  |cons=>rw[hr]at hk;cases hk
 |m+1,listed,p,q,g,s,a,w,hn,hle,hk,⟨ι,Z,h⟩,ai,I=>by
  unfold rm at hk
  cases hr:Region.ready .any ops listed with
  |nil=>rw[hr]at hk;exact⟨fun _=>⟨rfl,s,hk,ι,Z,h.forget hle⟩,fun j A=>by rw[hr]at A;simp at A⟩
  |cons T U=>
   rw[hr]at hk;simp only at hk
   cases D:(T::U).find? fun i=>G7 E ops s i&&Region.free .any ops listed i with
   |some i=>
    rw[D]at hk;simp only at hk;have J:=List.find?_some D;simp only[bs]at J
    cases k:ops[i]? with
    |none=>rw[k]at hk;cases hk
    |some o=>
     rw[k]at hk;simp only at hk;have B:rk E o=true/\ri E ops.toList s o=false:=by have:=J.1;unfold G7 at this;rw[k]at this;simpa using this
     obtain⟨an,v,S,ab,h1,ac,F,ad,L,ae⟩:=ZX z hn B.1 B.2 h hk;refine ZT k (Region.noSelect_spec hs) (fun c a w af=>by simp at af) m listed q a w (Region.free_spec k J.2) (by rw[hr];exact List.mem_of_find?_eq_some D) ac F I ?_;refine HQ z hs m _ _ _ ab an _ w (hn.trans L.n.symm) (hle.trans L) h1 ad ?_ ?_
     ·intro x d;rcases List.mem_cons.1 d with rfl|d
      ·exact⟨_,gT,ae⟩
      ·obtain⟨dp,C,l⟩:=ai x d;exact⟨dp,gS _ C,l.le L⟩
     ·intro x d;rcases List.mem_cons.1 d with rfl|d
      ·exact F
      ·exact I x d
   |none=>
    rw[D]at hk;simp only at hk;cases G:(OO s ops (T::U)&&Nat.ble 3 m)
    case true=>
     rw[G]at hk;simp only[au]at hk;simp only[bs]at G;obtain⟨m',rfl⟩:∃m',m=m'+3:=⟨m-3,by have:=fc G.2;omega⟩
     exact ZZ z hn hle hr h ai hk
    rw[G]at hk;simp only[ay]at hk;refine⟨fun V=>(by rw[hr]at V;cases V),fun j A=>?_⟩;rw[hr]at A;have u:=PT hk _ (List.mem_map.2 ⟨j,A,rfl⟩)
    cases k:ops[j]? with
    |none=>rw[k]at u;cases u
    |some o=>
     rw[k]at u;simp only at u;cases B:(rk E o && !ri E ops.toList s o)
     case true=>rw[B]at u;cases u
     rw[B]at u;simp only[ay]at u;have H:=PL (Q:=fun e a w=>e=.normal/\gh w0 F0 Z0 n K r a w) z hn h u
     have W:∀b0 w',gh w0 F0 Z0 g (fun an=>cond (rl an (p.filter fun p=> !waits ops j p.1)) (rm E bx ops m (listed.setIfInBounds j true) (p.filter fun p=> !waits ops j p.1) an K) none) r b0 w' →
       (q.after ops j).ok w'/\mo P ops (fun e a w=>e=.normal/\gh w0 F0 Z0 n K r a w) m (listed.setIfInBounds j true) (q.after ops j) b0 w':=by
      rintro b0 w' ⟨an,y,a',Z',k2⟩
      dsimp only at y;cases M:rl an (p.filter fun p=> !waits ops j p.1)
      ·rw[M]at y;cases y
      rw[M]at y;simp only[au]at y;have X:uy g (p.filter fun p=> !waits ops j p.1) (q.after ops j):=by intro x d;obtain⟨ah,aj⟩:=List.mem_filter.1 d;obtain⟨dp,C,l⟩:=ai x ah;exact⟨dp,List.mem_filter.2 ⟨C,aj⟩,l⟩
      have Y:(q.after ops j).ok w':=by
       intro x d;obtain⟨dp,C,l⟩:=X x d;rcases l with l|⟨b,i,vs,l,F⟩
       ·exact l w'
       ·rw[F];exact((k2.seen _ l).2 (HP M _ C)).1
      exact⟨Y,HQ z hs m _ _ _ g an b0 w' hn hle y ⟨a',Z',k2⟩ X Y⟩
     unfold wpOp;simp only[k];split
     ·rename_i N;rw[bg N]at H;exact .inl (Oper.wp_mono W H)
     ·rename_i N;rw[bd N]at H;exact W _ _ H
def Z1{bx:Nat}{ops:Array Oper}(i:iI P E)(hn:E.n=n)(hk:G' E bx ops s K=some r)(hs:cO w0 F0 Z0 n s a w)(b:Frame)(k:List Item)(cs:List Frame):
  ∃b0 w',gh w0 F0 Z0 n K r b0 w'/\Steps P (lone (b.at a (.code (.region bx ops true)::k)) cs w) (lone (b.at b0 k) cs w'):=by
 unfold G' at hk;cases d:Region.noSelect ops
 ·rw[d]at hk;cases hk
 rw[d]at hk;simp only[au]at hk;obtain⟨ι,Z,h⟩:=hs;have h1:=HQ (n:=n) i d ops.size _ [] [] n s a { w with drawn:=w.drawn+1 } hn (.refl n) hk ⟨ι,Z,h.drew _⟩ (fun x g=>by simp at g) (fun x g=>by simp at g);obtain⟨e,b0,w',⟨rfl,hl⟩,j⟩:=(wp_region_any (id:=bx) i.mix (PM _ _ _ _ _ h1)) b k cs;exact⟨b0,w',hl,j⟩
end
end Go.LM
namespace Go.LM
section
variable{P:Program}{w0:World}{F0 Z0:ae}{n:cl}{E:Env}{bn:Type}{r:bn}
def kp:Code->List Item->List (Nat×List Item)
 |.region bx ops d,k=>[(bx,.code (.region bx ops d)::k)]
 |.seq a b,k=>kp a (.code b::k)++kp b k
 |.cond _ x e,k=>kp x k++kp e k
 |.block id c,k=>kp c (.inBlock id::k)
 |.loop c,k=>kp c (.inLoop c::k)
 |_,_=>[]
def gi:List Item->List (Nat×List Item)
 | []=>[]
 |.code c::k=>kp c k++gi k
 |.inLoop c::k=>kp c (.inLoop c::k)++gi k
 |_::k=>gi k
def PU{id:Nat}:∀{k k':List Item},exitTo id k=some k'->∀p,p∈gi k'->p∈gi k
 | [],_,h,_,_=>by simp[exitTo]at h
 |x::k,k',h,p,ai=>by
  have key:(∃i,x=.inBlock i/\k'=k)\/exitTo id k=some k':=by
   cases x with
   |inBlock i=>
    simp only[exitTo]at h;by_cases a:(i==id)=true
    ·rw[bg a]at h;exact .inl ⟨i,rfl,(aS h).symm⟩
    ·rw[bd a]at h;exact .inr h
   |_=>exact .inr h
  rcases key with⟨i,rfl,rfl⟩|hk
  ·exact ai
  ·have:=PU hk p ai;cases x<;>simp only[gi]<;>first|exact this|exact List.mem_append_right _ this
def PV(H:Hand bn)(cuts:Nat->Bool)(r:bn)(todo:List Item)(s:av):Prop:=
 (∃bx ops a k,todo=.code (.region bx ops a)::k/\cuts bx=true/\H.cut bx todo s=some r)\/((todo=[]\/∃k,todo=.code .ret::k)/\H.fin s=some r)
def PW{cuts:Nat->Bool}{H:Hand bn}(i:iI P E)(hn:E.n=n):∀(fuel:Nat) (first:Bool) (todo:List Item) (s:av) (a:Act) (w:World),
  jn E cuts H fuel first todo s=some r->cO w0 F0 Z0 n s a w->∀(b:Frame) (cs:List Frame),
  ∃d an b0 w',cO w0 F0 Z0 n an b0 w'/\PV H cuts r d an/\(∀p,p∈gi d->p∈gi todo)/\Steps P (lone (b.at a todo) cs w) (lone (b.at b0 d) cs w')
 |0,_,_,_,_,_,hk,_=>by simp[jn]at hk
 |fuel+1,first,todo,s,a,w,hk,hs=>by
  intro b cs;have q:=fun first todo s a w hk hs=>PW (H:=H) (cuts:=cuts) i hn fuel first todo s a w hk hs b cs
  have one:∀{todo1:List Item}{first:Bool},(∀p,p∈gi todo1->p∈gi todo)->step P (lone (b.at a todo) cs w)=.next (lone (b.at a todo1) cs w)->jn E cuts H fuel first todo1 s=some r →
    ∃d an b0 w',cO w0 F0 Z0 n an b0 w'/\PV H cuts r d an/\(∀p,p∈gi d->p∈gi todo)/\Steps P (lone (b.at a todo) cs w) (lone (b.at b0 d) cs w'):=by
   intro todo1 first u e v
   obtain⟨j,an,b0,w',h1,l,z,A⟩:=q first todo1 s a w v hs
   exact⟨j,an,b0,w',h1,l,fun p ai=>u p (z p ai),.head e A⟩
  unfold jn at hk
  match todo,hk with
  | [],hk=>exact⟨[],s,a,w,hs,.inr ⟨.inl rfl,hk⟩,fun _ h=>h,.refl _ _⟩
  |.inBlock _::k,hk=>exact one (todo1:=k) (fun _ h=>h) step_inBlock hk
  |.inLoop c::k,hk=>exact one (fun p ai=>by simp only[gi,List.mem_append]at ai⊢;exact ai.elim .inl fun h=>h) step_inLoop hk
  |.code .ret::k,hk=>exact⟨_,s,a,w,hs,.inr ⟨.inr ⟨k,rfl⟩,hk⟩,fun _ h=>h,.refl _ _⟩
  |.code .skip::k,hk=>exact one (todo1:=k) (fun _ h=>h) step_skip hk
  |.code (.seq x y)::k,hk=>exact one (fun p ai=>by simp only[gi,kp,List.mem_append]at ai⊢;exact or_assoc.2 ai) step_seq hk
  |.code (.block id c)::k,hk=>exact one (fun p ai=>by simpa only[gi,kp]using ai) step_block hk
  |.code (.loop c)::k,hk=>exact one (fun p ai=>by simp only[gi,kp,List.mem_append]at ai⊢;exact ai.elim .inl fun h=>h) step_loop hk
  |.code (.exit id)::k,hk=>
   simp only at hk
   cases he:exitTo id k with
   |none=>rw[he]at hk;simp at hk
   |some k'=>rw[he]at hk;exact one (PU he) (step_exit he) hk
  |.code (.cond c x y)::k,hk=>
   simp only at hk;obtain⟨ι,Z,h⟩:=hs;have hc:=ew h c
   cases m:bP s c with
   |aP B=>
    cases B with
    |bool t=>
     rw[m]at hk hc;simp only[aR,cd]at hc;have e:=step_cond (P:=P) (b:=b) (a:=a) (k:=k) (cs:=cs) (w:=w) (x:=x) (y:=y) hc
     cases t with
     |true=>exact one (fun p ai=>by simp only[gi,kp,List.mem_append]at ai⊢;exact ai.elim (fun h=>.inl (.inl h)) .inr) e hk
     |false=>exact one (fun p ai=>by simp only[gi,kp,List.mem_append]at ai⊢;exact ai.elim (fun h=>.inl (.inr h)) .inr) e hk
    |_=>rw[m]at hk;simp at hk
   |_=>rw[m]at hk;simp at hk
  |.code (.region bx ops o)::k,hk=>
   simp only at hk;cases g:(cuts bx && !first)
   ·rw[g]at hk;simp only[ay]at hk
    have C:∃b0 w',gh w0 F0 Z0 n (fun an=>jn E cuts H fuel false k an) r b0 w'/\Steps P (lone (b.at a (.code (.region bx ops o)::k)) cs w) (lone (b.at b0 k) cs w'):=by
     cases o with
     |false=>exact ZS i hn hk hs b k cs
     |true=>exact Z1 i hn hk hs b k cs
    obtain⟨D,F,⟨G,h1,l⟩,e⟩:=C;obtain⟨j,an,b0,w',I,J,K,L⟩:=q false k G D F h1 l;exact⟨j,an,b0,w',I,J,fun p ai=>by simp only[gi,List.mem_append];exact .inr (K p ai),e.trans L⟩
   ·rw[g]at hk;simp only[au]at hk;simp only[bs]at g;exact⟨_,s,a,w,hs,.inl ⟨bx,ops,o,k,rfl,g.1,hk⟩,fun _ h=>h,.refl _ _⟩
  |.code (.goto _)::_,hk|.code (.label _)::_,hk|.code (.scope _)::_,hk|.inRegion _ _::_,hk|.inScope _::_,hk=>simp at hk
end
end Go.LM
namespace Go.LM
def j3(key:Nat):(ps:List bt)->(bt.ins ps).D->Nat->av->Option (List aY×av×Nat)
 | [],_,j,s=>some ([],s,j)
 |.fn _ _::ps,x,j,s=>(j3 key ps x j s).bind fun q=>some (.bf::q.1,q.2)
 |.val t m::ps,x,j,s=>(t.gv m [] x.1 s j).bind fun r=>(iX t r.1).bind fun v=>(j3 key ps x.2 r.2.2 r.2.1).bind fun q=>some (v::q.1,q.2)
 |.gJ t::ps,x,j,s=>(t.gv .R [] x.1 s j).bind fun r=>(iX t r.1).bind fun v=>(j3 key ps x.2 r.2.2 r.2.1).bind fun q=>some (v::q.1,q.2)
 |.gu t m::ps,x,j,s=>(t.gv m [] x.1 s j).bind fun r=>(iX t r.1).bind fun v=>(j3 key ps x.2 r.2.2 r.2.1).bind fun q=>some (v::q.1,q.2)
 |.ref t::ps,x,j,s=>(j3 key ps x.2 j s).bind fun q=>some (.c2 [] (t.cells [] none x.1) 0::q.1,q.2)
 |.mut t m _::ps,x,j,s=>(t.gv m [] x.1 s j).bind fun r=>(mkObj r.2.1 r.2.2 (.var 0 r.1)).bind fun a=>(j3 key ps x.2 (r.2.2+1) a).bind fun q=>some (.ptr ⟨r.2.2,none,0⟩::q.1,q.2)
section
variable{P:Program}{w0:World}{F0 Z0:ae}{n:cl}{s an:av}{a b0:Act}{w w':World}{ι a':Nat->bz}{Z Z':ae}
def Inv.start{F:ae}(d:∀b o,Z b o->b<w.heap.size){m:Nat}(e:a.tmps.size=m)(aa:a.defers=[]):Inv w F Z ⟨m,[],[]⟩ ⟨fun _=>.bf,fun _=>.none,[]⟩ a w ι Z:=
 ⟨Ext.refl _ _,fun _ _ h=>.inl h,fun _ _ h=>h,d,fun _=>trivial,fun _ h=>h.elim,fun _ _ h=>h.elim,fun _ h=>h.elim,fun _=>by simp only[aR],e,by simp only[aX],fun _ h=>by simp at h,aa⟩
def Z2(w0:World)(F0 Z0:ae)(n:cl)(s:av)(a:Act)(w:World)(ι:Nat->bz)(Z:ae)(us:List Value)(F:ae)(q:List aY×av×Nat):Prop:=
 ∃ a',Inv w0 F0 Z0 n q.2.1 a w a' Z/\gg false w Z s ι w Z q.2.1 a' (fun _ _=>True)/\aX w Z q.2.1 a' q.1 us/\∀b,bD w0 F0 s w ι Z b->ae.apart b F->bD w0 F0 q.2.1 w a' Z b
def Z3:gg false w Z s ι w Z s ι (fun _ _=>True):=
 ⟨fun _ _ h=>h,fun _ _ h=>h,fun _ _ h=>h,fun _ _ _ h=>⟨h,rfl⟩,fun h=>by simp at h,bS.refl _ _,bS.refl _ _,fun _ _ h=>h,fun _ _ _ h=>h⟩
def mq:Z.or (db ι [])=Z:=by
 funext b o
 apply propext;constructor
 ·rintro (h|⟨d,aa,_⟩)
  ·exact h
  ·simp at aa
 ·exact .inl
def rA{key:Nat}:∀(ps:List bt) (x:(bt.ins ps).D) (us:List Value) (j:Nat) (s:av) (ι:Nat->bz) (F:ae) (q:List aY×av×Nat),j3 key ps x j s=some q->Inv w0 F0 Z0 n s a w ι Z →
  fV w Z key ps x us F->bD w0 F0 s w ι Z F->Z2 w0 F0 Z0 n s a w ι Z us F q
 | [],x,us,j,s,ι,F,q,he,h,A,l=>by simp only[j3,cQ]at he;subst he;exact⟨ι,h,Z3,A,fun g C _=>C⟩
 |.fn kK m0::ps,x,us,j,s,ι,F,q,he,h,A,l=>by simp only[j3]at he;obtain⟨p,ai,he⟩:=a6 he;obtain rfl:=aS he;obtain⟨ao,aq,u,rfl,ar,y⟩:=A;obtain⟨D,E,held,hr,K⟩:=rA ps x u j s ι F p ai h y l;refine⟨D,E,held,?_,K⟩;simp only[aX];exact⟨_,u,rfl,by simp only[aR],hr⟩
 |.ref t::ps,x,us,j,s,ι,F,q,he,h,A,l=>by simp only[j3]at he;obtain⟨p,ai,he⟩:=a6 he;obtain rfl:=aS he;obtain⟨b,o,vs,u,rfl,h1,B,L,y⟩:=A;obtain⟨D,E,held,hr,K⟩:=rA ps x.2 u j s ι F p ai h y l;refine⟨D,E,held,?_,K⟩;simp only[aX];refine⟨_,u,rfl,held.aH _ _ ?_,hr⟩;simp only[aR];have hl:=(U.al.len t _ B).1;have hc:bG w Z s ι (t.cells [] none x.1) vs:=U.n8 t [] none (by simp) (fun _=>by rw[mq];exact B) ⟨_,_,_,B⟩ .none;refine⟨by simp,b,o,vs,by simp,fun _=>⟨hc,h1,fun k hk=>.inl (L k (by rw[<-hc.len,hl]at hk;exact hk))⟩⟩
 |.val t m::ps,x,us,j,s,ι,F,q,he,h,A,l=>by simp only[j3]at he;obtain⟨r,hr,he⟩:=a6 he;obtain⟨v,hv,he⟩:=a6 he;obtain⟨p,ai,he⟩:=a6 he;obtain rfl:=aS he;obtain⟨vs,u,G,H,rfl,h1,B,L,y,J⟩:=A;obtain⟨D,E,N,M,I⟩:=U.lv t m [] x.1 s ι j r vs G hr h (by rw[mq];exact h1) (l.sub y) (by rintro b o _ ⟨d,aa,_⟩;simp at aa) (by simp);obtain⟨dY,i2,held,P,K⟩:=rA ps x.2 u _ _ D H p ai E B (I H (l.sub J) fun b o x e=>L b o e x);refine⟨dY,i2,(N.held _).trans held,?_,fun g C z=>K g (I g C fun b o x e=>z b o x (y b o e)) fun b o x e=>z b o x (J b o e)⟩;simp only[aX];exact⟨_,u,rfl,held.aH _ _ (ml hv M),P⟩
 |.gJ t::ps,x,us,j,s,ι,F,q,he,h,A,l=>by simp only[j3]at he;obtain⟨r,hr,he⟩:=a6 he;obtain⟨v,hv,he⟩:=a6 he;obtain⟨p,ai,he⟩:=a6 he;obtain rfl:=aS he;obtain⟨vs,u,G,H,rfl,h1,B,L,y,J⟩:=A;obtain⟨D,E,N,M,I⟩:=U.lv t .R [] x.1 s ι j r vs G hr h (by rw[mq];exact h1) (l.sub y) (by rintro b o _ ⟨d,aa,_⟩;simp at aa) (by simp);obtain⟨dY,i2,held,P,K⟩:=rA ps x.2 u _ _ D H p ai E B (I H (l.sub J) fun b o x e=>L b o e x);refine⟨dY,i2,(N.held _).trans held,?_,fun g C z=>K g (I g C fun b o x e=>z b o x (y b o e)) fun b o x e=>z b o x (J b o e)⟩;simp only[aX];exact⟨_,u,rfl,held.aH _ _ (ml hv M),P⟩
 |.gu t m::ps,x,us,j,s,ι,F,q,he,h,A,l=>by simp only[j3]at he;obtain⟨r,hr,he⟩:=a6 he;obtain⟨v,hv,he⟩:=a6 he;obtain⟨p,ai,he⟩:=a6 he;obtain rfl:=aS he;obtain⟨vs,u,G,H,rfl,h1,B,L,y,J⟩:=A;obtain⟨D,E,N,M,I⟩:=U.lv t m [] x.1 s ι j r vs G hr h (by rw[mq];exact h1) (l.sub y) (by rintro b o _ ⟨d,aa,_⟩;simp at aa) (by simp);obtain⟨dY,i2,held,P,K⟩:=rA ps x.2 u _ _ D H p ai E B (I H (l.sub J) fun b o x e=>L b o e x);refine⟨dY,i2,(N.held _).trans held,?_,fun g C z=>K g (I g C fun b o x e=>z b o x (y b o e)) fun b o x e=>z b o x (J b o e)⟩;simp only[aX];exact⟨_,u,rfl,held.aH _ _ (ml hv M),P⟩
 |.mut t m m'::ps,x,us,j,s,ι,F,q,he,h,A,l=>by
  simp only[j3]at he;obtain⟨r,hr,he⟩:=a6 he;obtain⟨au,hm,he⟩:=a6 he;obtain⟨p,ai,he⟩:=a6 he;obtain rfl:=aS he;obtain⟨T,rfl⟩:=n_ hm;obtain⟨b,o,vs,u,G,H,rfl,h1,Y,B,L,y,J,Q,V⟩:=A;have ab:ae.sub G F:=fun b o x=>Q b o (.inl x)
  have ac:ae.sub (ae.run b o t.size) F:=fun b o x=>Q b o (.inr x)
  obtain⟨D,E,N,M,I⟩:=U.lv t m [] x.1 s ι j r vs G hr h (by rw[mq];exact B) (l.sub ab) (by rintro b o _ ⟨d,aa,_⟩;simp at aa) (by simp);have hl:=(U.al.len t _ B).1;have aw:=M.len;have ad:=I _ (l.sub ac) (fun b o x e=>J b o e x);obtain⟨i2,af,ah,ax⟩:=HL E (id:=r.2.2) (o:=.var 0 r.1) (i:=⟨some (at_ b o),0,ae.run b o t.size⟩) (by rw[T];exact fun h=>h) (fun o'=>by simp) (by rw[T];exact .made _ _ _) (fun hm=>by refine⟨at_ b o,vs,rfl,rfl,M.move hm,h1,fun k hk=>⟨Y k (by omega),rfl,by simp[at_],by simp[at_];omega⟩⟩) ad;have aj:=(N.held (w:=w) (Z:=Z) (fun _ _=>True)).trans af;have W:∀g,bD w0 F0 s w ι Z g->ae.apart g (G.or (ae.run b o t.size))->bD w0 F0 (r.2.1.bA r.2.2 (.var 0 r.1)) w (bF D r.2.2 ⟨some (at_ b o),0,ae.run b o t.size⟩) Z g:=fun g C z=>ah g (I g C fun b o x e=>z b o x (.inl e)) fun b o x e=>z b o x (.inr e)
  obtain⟨ak,al,X,P,an⟩:=rA ps x.2 u _ _ _ H p ai i2 L (W H (l.sub V) fun b o x e=>y b o e x);refine⟨ak,al,aj.trans X,?_,fun g C z=>an g (W g C fun b o x e=>z b o x (Q b o e)) fun b o x e=>z b o x (V b o e)⟩;simp only[aX];refine⟨_,u,rfl,X.aH _ _ ?_,P⟩;simp only[aR];refine⟨by show bF r.2.1.o r.2.2 _ r.2.2≠_;rw[b6];simp,_,rfl,rfl,?_⟩;show match (bF r.2.1.o r.2.2 _ r.2.2).core with|.var _ _=>_|.row .. => _|_=>_
  rw[b6];exact⟨rfl,at_ b o,by rw[b6],by simp[at_]⟩
end
end Go.LM
namespace Go.LM
def wD(t:U)(m:a8)(v:aY)(s:av):Option (t.D×av):=
 cond (mh t v) (match ib t v with
  |some cs=>(t.imp false m cs s []).bind fun r=>match r.2.1 with
   | []=>some (r.1,r.2.2.1)
   |_=>none
  |none=>none) none
def hM:(ps:List bt)->List aY->av->Option (bt.dP ps).D
 | [],_,_=>some ()
 |.mut t _ m'::ps,gs,s=>
  match gs with
  |.ptr p::gs=>
   match s.o p.id,p.eH with
   |.var _ cs,none=>cond (Nat.beq p.off 0&&Nat.beq cs.length t.size)
    ((t.imp false m' cs (s.bA p.id .dead) []).bind fun r=>match r.2.1 with
     | []=>(hM ps gs r.2.2.1).bind fun q=>some (r.1,q)
     |_=>none) none
   |_,_=>none
  |_=>none
 |.gu t m::ps,gs,s=>
  match gs with
  |v::gs=>(wD t m v s).bind fun r=>(hM ps gs r.2).bind fun q=>some (r.1,q)
  | []=>none
 |.val _ _::ps,gs,s=>
  match gs with
  |_::gs=>hM ps gs s
  | []=>none
 |.gJ _::ps,gs,s=>
  match gs with
  |_::gs=>hM ps gs s
  | []=>none
 |.ref _::ps,gs,s=>
  match gs with
  |_::gs=>hM ps gs s
  | []=>none
 |.fn _ _::ps,gs,s=>
  match gs with
  |_::gs=>hM ps gs s
  | []=>none
section
variable{P:Program}{w0:World}{F0 Z0:ae}{n:cl}{s an:av}{a b0:Act}{w w':World}{ι a':Nat->bz}{Z Z':ae}
def PX{t:U}{m:a8}{v:aY}{u:Value}{r:t.D×av}(d:wD t m v s=some r)(h:Inv w0 F0 Z0 n s a w ι Z)(hv:aR w Z s ι v u):
  ∃vs F Z',u=c8 t vs/\Inv w0 F0 Z0 n r.2 a w ι Z'/\eN s ι Z r.2 Z'/\bD w0 F0 r.2 w ι Z' F/\t.al w Z' m r.1 vs F/\∀b o,F b o->∃id,(s.o id).live/\(ι id).F b o:=by
 unfold wD at d;cases e:mh t v
 ·rw[e]at d;simp at d
 rw[e]at d;simp only[au]at d
 cases g:ib t v with
 |none=>rw[g]at d;simp at d
 |some cs=>
  rw[g]at d;simp only at d;obtain⟨q,z,d⟩:=a6 d
  cases i:q.2.1 with
  |cons=>rw[i]at d;simp at d
  |nil=>
   rw[i]at d;obtain rfl:=aS d;obtain⟨A,j,B,C,k,D,E,l,G,p,_,H,_,I⟩:=U.j1 t false m cs s [] q _ Z z h (pO g hv) (by simp);rw[i]at l;have J:j=[]:=by cases j with|nil=>rfl|cons=>exact l.elim
   subst J;rw[dn]at k;have y:=zs e hv;rw[k]at y;rw[H rfl,mq]at p;exact⟨A,B,C,y,D,E,G,p,I⟩
def rB:∀(ps:List bt) (gs:List aY) (us:List Value) (s:av) (Z:ae) (x:(bt.dP ps).D),hM ps gs s=some x->Inv w0 F0 Z0 n s a w ι Z->aX w Z s ι gs us →
  ∃an F Z',Inv w0 F0 Z0 n an a w ι Z'/\eN s ι Z an Z'/\bD w0 F0 an w ι Z' F/\hC w Z' ps us x F/\∀b o,F b o->∃id,(s.o id).live/\(ι id).F b o
 | [],gs,us,s,Z,x,d,h,hv=>⟨s,ae.none,Z,h,.refl,.none,trivial,fun _ _ h=>h.elim⟩
 |.val t m::ps,gs,us,s,Z,x,d,h,hv=>by
  cases gs with
  |nil=>simp[hM]at d
  |cons v gs=>simp only[aX]at hv;obtain⟨B,e,rfl,h1,j⟩:=hv;obtain⟨an,F,Z',y,g,k,l,u⟩:=rB ps gs e s Z x (by simp only[hM]at d;exact d) h j;exact⟨an,F,Z',y,g,k,⟨B,e,rfl,l⟩,u⟩
 |.gJ t::ps,gs,us,s,Z,x,d,h,hv=>by
  cases gs with
  |nil=>simp[hM]at d
  |cons v gs=>simp only[aX]at hv;obtain⟨B,e,rfl,h1,j⟩:=hv;obtain⟨an,F,Z',y,g,k,l,u⟩:=rB ps gs e s Z x (by simp only[hM]at d;exact d) h j;exact⟨an,F,Z',y,g,k,⟨B,e,rfl,l⟩,u⟩
 |.ref t::ps,gs,us,s,Z,x,d,h,hv=>by
  cases gs with
  |nil=>simp[hM]at d
  |cons v gs=>simp only[aX]at hv;obtain⟨B,e,rfl,h1,j⟩:=hv;obtain⟨an,F,Z',y,g,k,l,u⟩:=rB ps gs e s Z x (by simp only[hM]at d;exact d) h j;exact⟨an,F,Z',y,g,k,⟨B,e,rfl,l⟩,u⟩
 |.fn _ _::ps,gs,us,s,Z,x,d,h,hv=>by
  cases gs with
  |nil=>simp[hM]at d
  |cons v gs=>simp only[aX]at hv;obtain⟨B,e,rfl,h1,j⟩:=hv;obtain⟨an,F,Z',y,g,k,l,u⟩:=rB ps gs e s Z x (by simp only[hM]at d;exact d) h j;exact⟨an,F,Z',y,g,k,⟨B,e,rfl,l⟩,u⟩
 |.gu t m::ps,gs,us,s,Z,x,d,h,hv=>by
  cases gs with
  |nil=>simp[hM]at d
  |cons v gs=>
   simp only[aX]at hv;obtain⟨B,e,rfl,h1,j⟩:=hv;simp only[hM]at d;obtain⟨r,hr,d⟩:=a6 d;obtain⟨q,K,d⟩:=a6 d;obtain rfl:=aS d;obtain⟨vs,C,I,rfl,y,g,k,l,u⟩:=PX hr h h1;obtain⟨an,E,bK,i2,D,L,M,G⟩:=rB ps gs e r.2 I q K y (aX.move g.d' j);refine⟨an,C.or E,bK,i2,g.trans D,(k.shrink D).or L,⟨vs,e,C,E,rfl,U.al.mono D.dt _ _ (fun _ _ h=>h) l,M,?_,fun _ _ h=>.inl h,fun _ _ h=>.inr h⟩,?_⟩
   ·intro b o x i;obtain⟨id,hl,z⟩:=G b o i;exact k.apart id hl b o x z
   ·rintro b o (i|i)
    ·exact u b o i
    ·obtain⟨id,hl,z⟩:=G b o i;exact⟨id,(g.live hl).1,z⟩
 |.mut t m m'::ps,gs,us,s,Z,x,d,h,hv=>by
  cases gs with
  |nil=>simp[hM]at d
  |cons v gs=>
   simp only[aX]at hv;obtain⟨B,e,rfl,h1,j⟩:=hv;cases v<;>simp only[hM]at d<;>try (simp at d;done)
   rename_i p;simp only[aR]at h1;obtain⟨hk,A,rfl,_,ai⟩:=h1
   cases J:s.o p.id with
   |var ver cs=>
    rw[J]at d ai;obtain⟨he,az,af,ah⟩:=ai;rw[he]at d;simp only at d;cases hc:(Nat.beq p.off 0&&Nat.beq cs.length t.size)
    ·rw[hc]at d;cases d
    rw[hc]at d;simp only[bs]at hc;have aj:=cG hc.1;have hlen:=cG hc.2;simp only[au]at d;obtain⟨r,hr,d⟩:=a6 d
    cases N:r.2.1 with
    |cons=>rw[N]at d;cases d
    |nil=>
     rw[N]at d;simp only at d;obtain⟨q,K,d⟩:=a6 d;obtain rfl:=aS d;have P:(s.o p.id).live:=by rw[J];trivial
     have T:=h.eU p.id;rw[J]at T;obtain⟨⟨b,o,aA⟩,ak,V,W,hc,al,ao⟩:=T;simp only at W;subst W;rw[af]at V;obtain rfl:=aS V;have H:eN s ι Z (s.bA p.id .dead) Z:=ub p.id P;have aq:=h.take p.id (fun _ _ h=>h) (fun _ _ h=>.inl h);have X:=h.ua P;obtain⟨aB,Y,C,I,ab,y,g,ac,k,l,_,ar,_,u⟩:=U.j1 t false m' cs _ [] r _ Z hr aq (hc.move H.d') (by simp);rw[N]at ac;have aw:Y=[]:=by cases Y with|nil=>rfl|cons=>exact ac.elim
     subst aw;rw[dn]at ab;subst ab;rw[ar rfl,mq]at l;obtain⟨an,E,bK,i2,D,L,M,G⟩:=rB ps gs e r.2.2.1 I q K y (aX.move g.d' (aX.move H.d' j))
     have Q:ae.sub (ae.run b o t.size) (ι p.id).F:=by
      rintro aC o' ⟨rfl,h1,j⟩
      have:=(ao (o'-o) (by omega)).2;simp only at this;rwa[show o +(o'-o)=o' by omega]at this
     have ax:=(X.sub Q).shrink g;have ay:ae.apart C (ae.run b o t.size):=by intro b o x i;obtain⟨id,hl,z⟩:=u b o x;exact X.apart id hl b o (Q b o i) z
     have ad:bD w0 F0 r.2.2.1 w ι I (C.or (ae.run b o t.size)):=k.or ax;refine⟨an,(C.or (ae.run b o t.size)).or E,bK,i2,(H.trans g).trans D,(ad.shrink D).or L,⟨b,o,ak,e,C,E,?_,al,U.al.mono D.dt _ _ (fun _ _ h=>h) l,M,?_,ay,fun _ _ h=>.inl h,fun _ _ h=>.inr h⟩,?_⟩
     ·rw[ah,aj];rfl
     ·intro b o x i;obtain⟨id,hl,z⟩:=G b o i;exact ad.apart id hl b o x z
     ·rintro b o ((i|i)|i)
      ·obtain⟨id,hl,z⟩:=u b o i;exact⟨id,(H.live hl).1,z⟩
      ·exact⟨p.id,P,Q b o i⟩
      ·obtain⟨id,hl,z⟩:=G b o i;exact⟨id,(H.live (g.live hl).1).1,z⟩
   |_=>rw[J]at d;simp at d
end
end Go.LM
namespace Go.LM
section
variable{P:Program}{w0:World}{F0 Z0:ae}{n:cl}{s an:av}{a b0:Act}{w w':World}{ι a':Nat->bz}{Z Z':ae}
def zA(t:U)(m:a8)(v:aY)(s:av):Option (t.D×av):=
 match v with
 |.ptr p=>
  match s.o p.id,p.eH with
  |.var _ cs,none=>cond (Nat.beq p.off 0&&Nat.beq cs.length t.size)
   ((t.imp false m cs (s.bA p.id .dead) []).bind fun r=>match r.2.1 with
    | []=>some (r.1,r.2.2.1)
    |_=>none) none
  |_,_=>none
 |_=>none
def Z4{t:U}{m:a8}{v:aY}{u:Value}{s:av}{Z:ae}{x:t.D×av}(d:zA t m v s=some x)(h:Inv w0 F0 Z0 n s a w ι Z)(h1:aR w Z s ι v u):
  ∃b o vs F Z',u=.pointer (some (at_ b o))/\Inv w0 F0 Z0 n x.2 a w ι Z'/\eN s ι Z x.2 Z'/\bD w0 F0 x.2 w ι Z' (F.or (ae.run b o t.size))/\bV w b o vs/\(∀j,j<t.size->eS w b (o+j))/\t.al w Z' m x.1 vs F ∧
   ae.apart F (ae.run b o t.size)/\∀i o',(F.or (ae.run b o t.size)) i o'->∃id,(s.o id).live/\(ι id).F i o':=by
 cases v<;>simp only[zA]at d<;>try (simp at d;done)
 rename_i p;simp only[aR]at h1;obtain⟨hk,A,rfl,_,ai⟩:=h1
 cases g:s.o p.id with
 |var ver cs=>
  rw[g]at d ai;obtain⟨he,P,Q,T⟩:=ai;rw[he]at d;simp only at d;cases hc:(Nat.beq p.off 0&&Nat.beq cs.length t.size)
  ·rw[hc]at d;cases d
  rw[hc]at d;simp only[bs]at hc;have V:=cG hc.1;have hlen:=cG hc.2;simp only[au]at d;obtain⟨r,hr,d⟩:=a6 d
  cases k:r.2.1 with
  |cons=>rw[k]at d;cases d
  |nil=>
   rw[k]at d;obtain rfl:=aS d;have l:(s.o p.id).live:=by rw[g];trivial
   have B:=h.eU p.id;rw[g]at B;obtain⟨al,an,C,D,W,X,E⟩:=B;rw[Q]at C;obtain rfl:=aS C;obtain⟨b,o,ao⟩:=P;simp only at D;subst D;have q:eN s ι Z (s.bA p.id .dead) Z:=ub p.id l;have Y:=h.take p.id (fun _ _ h=>h) (fun _ _ h=>.inl h);have G:=h.ua l;obtain⟨aq,H,I,ab,J,ac,K,L,ad,M,_,af,_,N⟩:=U.j1 t false m cs _ [] r _ Z hr Y (W.move q.d') (by simp);rw[k]at L;have ah:H=[]:=by cases H with|nil=>rfl|cons=>exact L.elim
   subst ah;rw[dn]at J;subst J;rw[af rfl,mq]at M
   have y:ae.sub (ae.run b o t.size) (ι p.id).F:=by
    rintro i o' ⟨rfl,h1,ar⟩
    have:=(E (o'-o) (by omega)).2;simp only at this;rwa[show o +(o'-o)=o' by omega]at this
   have aj:=(G.sub y).shrink K;have ak:ae.apart I (ae.run b o t.size):=by intro b o x e;obtain⟨id,hl,z⟩:=N b o x;exact G.apart id hl b o (y b o e) z
   refine⟨b,o,_,I,ab,?_,ac,q.trans K,ad.or aj,X,fun j aw=>(E j (by omega)).1,M,ak,?_⟩
   ·rw[T,V];rfl
   ·rintro b o (e|e)
    ·obtain⟨id,hl,z⟩:=N b o e;exact⟨id,(q.live hl).1,z⟩
    ·exact⟨p.id,l,y b o e⟩
 |_=>rw[g]at d;simp at d
def wE(gs:List aY)(a off:Nat)(t:U)(v:aY)(s:av):Option Int:=
 match v with
 |.jl=>some (-1)
 |.opt id x=>
  match n3 s gs a off with
  |some k=>cond (Nat.beq k id&&n4 s t id) (some x) none
  |none=>none
 |.ptr p=>
  match n3 s gs a off,p.eH with
  |some k,some i=>cond (Nat.beq k p.id&&n4 s t p.id&&Nat.beq p.off 0) (some (i:Int)) none
  |_,_=>none
 |_=>none
def PY{gs:List aY}{us:List Value}{g off id:Nat}{t:U}{i:Nat}{r:Addr}(d:n3 s gs g off=some id)(e:n4 s t id=true)(h:Inv w0 F0 Z0 n s a w ι Z)(hv:aX w Z s ι gs us)
  (ai:iG s ι ⟨id,some i,0⟩ r):HG w us g off t.size (i:Int) (.pointer (some r)):=by
 unfold n3 at d
 cases l:gs[g]? with
 |none=>rw[l]at d;simp at d
 |some H=>
  rw[l]at d
  cases H with
  |ptr u=>
   simp only at d
   cases p:kL s 1 { u with off:=u.off+off }with
   |none=>rw[p]at d;simp at d
   |some cs=>
    rw[p]at d
    have I:cs=[.aa id none]:=by
     split at d
     ·rename_i h;obtain rfl:=aS d;exact aS h
     ·simp at d
    subst I;obtain⟨v,J,y⟩:=hv.get g l;simp only[aR]at y;obtain⟨V,A,rfl,z⟩:=y;obtain⟨b,o,W⟩:=A;have B:=z.1;simp only at B;subst B;obtain⟨X,Y,K,C,q,L,ab⟩:=wk h p (iG.plus (b:=b) (o:=o) off z);simp only[at_,Addr.mk.injEq,fK]at C;obtain⟨rfl,rfl⟩:=C
    match K,q with
    | [v0],q=>
     obtain⟨ac,A,m,k,rfl,M⟩:=q.1;unfold n4 at e
     cases j:s.o id with
     |row v em ver xs=>
      rw[j]at e;have:=U.eq_of_beq _ _ e;subst this;obtain⟨D,ad,ae,af,E⟩:=M v em ver xs (kk j);have D:m=xs.length:=D;obtain⟨hs,ai⟩:=ai;have ai:match (s.o id).core with|.var _ cs=>_|.row t _ _ xs=>_|_=>_:=ai
      rw[kk j]at ai;obtain⟨cW,N,ah,F,P,Q⟩:=ai;obtain rfl:=aS N;rcases E with E|⟨aj,G,T⟩
      ·omega
      ·rw[P]at G;obtain rfl:=aS G;right;refine⟨by omega,b,o,F.block,F.off,m,k,J,?_,by simp;omega,?_⟩
       ·rw[L.head,T];simp[dz,at_]
       ·rw[Q];simp[at_]
     |_=>rw[j]at e;cases e
  |_=>simp at d
def Z5{gs:List aY}{us:List Value}{g off:Nat}{t:U}{v:aY}{u:Value}{x:Int}(b:wE gs g off t v s=some x)(h:Inv w0 F0 Z0 n s a w ι Z)(l:aX w Z s ι gs us)(hv:aR w Z s ι v u):HG w us g off t.size x u:=by
 cases v with
 |jl=>obtain rfl:=aS b;simp only[aR]at hv;exact .inl ⟨by omega,hv⟩
 |opt id q=>
  simp only[wE]at b
  cases d:n3 s gs g off with
  |none=>rw[d]at b;cases b
  |some k=>
   rw[d]at b;cases hc:(Nat.beq k id&&n4 s t id)
   ·simp only[hc]at b;cases b
   simp only[hc,au]at b;obtain rfl:=aS b;simp only[bs]at hc;obtain rfl:=cG hc.1;simp only[aR]at hv;obtain⟨_,⟨h1,e⟩|⟨h1,o,rfl,e⟩⟩:=hv
   ·exact .inl ⟨h1,e⟩
   ·have:=PY d hc.2 h l e;rwa[Int.toNat_of_nonneg h1]at this
 |ptr p=>
  simp only[wE]at b
  cases d:n3 s gs g off with
  |none=>rw[d]at b;cases b
  |some k=>
   rw[d]at b
   cases j:p.eH with
   |none=>rw[j]at b;cases b
   |some i=>
    rw[j]at b;simp only at b;cases hc:(Nat.beq k p.id&&n4 s t p.id&&Nat.beq p.off 0)
    ·rw[hc]at b;cases b
    rw[hc]at b;obtain rfl:=aS b;simp only[bs]at hc;have hk:=cG hc.1.1;have m:=cG hc.2;obtain⟨pid,r,y⟩:=p;simp only at hk m j hc;subst hk m j;simp only[aR]at hv;obtain⟨_,o,rfl,e⟩:=hv;exact PY d hc.1.2 h l e
 |_=>cases b
def wF(t:U)(v:aY):Bool:=
 mh t v&&(match ib t v with
  |some cs=>Nat.beq cs.length t.size
  |none=>false)
def Z6{t:U}{v:aY}{u:Value}{s:av}{Z:ae}(a:wF t v=true)(h1:aR w Z s ι v u):u.cells.toList.length=t.size/\∀x∈u.cells.toList,dD x=true:=by
 unfold wF at a;simp only[bs]at a;obtain⟨d,hc⟩:=a
 cases b:ib t v with
 |none=>rw[b]at hc;cases hc
 |some cs=>rw[b]at hc;have hl:=cG hc;have hr:=pO b h1;exact⟨by rw[hr.len];exact hl,hr.dD⟩
def zB(t:U)(v:aY)(s:av):Option (List t.D×av):=
 match v with
 |.jl=>some ([],s)
 |.c2 dp cs off=>
  match takeN off t.size cs with
  |none=>none
  |some cs=>cond dp.isEmpty ((t.imp false .R cs s []).bind fun r=>match r.2.1 with
   | []=>some ([r.1],r.2.2.1)
   |_=>none) none
 |.may b dp cs=>cond b (cond (dp.isEmpty&&Nat.beq cs.length t.size) ((t.imp false .R cs s []).bind fun r=>match r.2.1 with
   | []=>some ([r.1],r.2.2.1)
   |_=>none) none) (some ([],s))
 |_=>none
def Z7{t:U}{v:aY}{u:Value}{s:av}{Z:ae}{x:List t.D×av}(d:zB t v s=some x)(h:Inv w0 F0 Z0 n s a w ι Z)(h1:aR w Z s ι v u):
  ∃Z',Inv w0 F0 Z0 n x.2 a w ι Z'/\eN s ι Z x.2 Z'/\((x.1=[]/\u=.pointer none)\/∃y b o vs,x.1=[y]/\u=.pointer (some (at_ b o))/\bV w b o vs/\t.al w Z' .R y vs ae.none/\∀j,j<t.size->Z' b (o+j)):=by
 have go:∀(cs:List a7) (b o:Nat) (vs:List Value) (x:List t.D×av),((t.imp false .R cs s []).bind fun r=>match r.2.1 with| []=>some ([r.1],r.2.2.1)|_=>none)=some x->bG w Z s ι cs vs->bV w b o vs->vs.length=t.size->(∀j,j<t.size->Z b (o+j))->u=.pointer (some (at_ b o)) →
   ∃Z',Inv w0 F0 Z0 n x.2 a w ι Z'/\eN s ι Z x.2 Z'/\((x.1=[]/\u=.pointer none)\/∃y b o vs,x.1=[y]/\u=.pointer (some (at_ b o))/\bV w b o vs/\t.al w Z' .R y vs ae.none/\∀j,j<t.size->Z' b (o+j)):=by
  intro cs b o vs x d A B hl C D;obtain⟨r,hr,d⟩:=a6 d
  cases g:r.2.1 with
  |cons=>rw[g]at d;cases d
  |nil=>
   rw[g]at d;obtain rfl:=aS d;obtain⟨J,l,K,E,m,F,p,q,L,z,_,G,_,M⟩:=U.j1 t false .R cs s [] r _ Z hr h A (by simp);rw[g]at q;have H:l=[]:=by cases l with|nil=>rfl|cons=>exact q.elim
   subst H;rw[dn]at m;subst m;rw[G rfl,mq]at z;exact⟨E,F,p,.inr ⟨r.1,b,o,_,rfl,D,B,pI z,fun j i=>p.dt _ _ (C j i)⟩⟩
 cases v<;>simp only[zB]at d<;>try (simp at d;done)
 ·rename_i dp cs off;simp only[aR]at h1;obtain⟨I,b,o,vs,rfl,k⟩:=h1
  cases ht:takeN off t.size cs with
  |none=>rw[ht]at d;cases d
  |some N=>
   rw[ht]at d
   cases dp with
   |cons=>cases d
   |nil=>obtain⟨e,k2,k3⟩:=k rfl;obtain⟨hle,rfl⟩:=m5 ht;have hlen:=e.len;refine go _ b (o+off) ((vs.drop off).take t.size) x d ((e.drop off).take _) (k2.part off t.size) (by simp;omega) (fun j i=>?_) rfl;have:=k3 (off+j) (by omega);rw[mq]at this;rwa[<-dQ]at this
 ·simp only[aR]at h1;obtain rfl:=aS d;exact⟨Z,h,.refl,.inl ⟨rfl,h1⟩⟩
 ·rename_i b dp cs;simp only[aR]at h1;rcases h1 with⟨rfl,h1⟩|⟨rfl,I,b,o,vs,rfl,k⟩
  ·obtain rfl:=aS d;exact⟨Z,h,.refl,.inl ⟨rfl,h1⟩⟩
  ·simp only[au]at d
   cases dp with
   |cons=>cases d
   |nil=>
    cases hc:Nat.beq cs.length t.size
    ·rw[show(List.isEmpty ([]:List (Nat×Nat))&&Nat.beq cs.length t.size)=false by rw[hc];rfl]at d;cases d
    rw[show(List.isEmpty ([]:List (Nat×Nat))&&Nat.beq cs.length t.size)=true by rw[hc];rfl]at d;have hc:=cG hc;obtain⟨e,k2,k3⟩:=k rfl;have hlen:=e.len;refine go _ b (o+0) vs x d e k2 (by omega) (fun j i=>?_) rfl;have:=k3 j (by omega);rw[mq]at this;exact this
def gy(ps:List bt)(gs:List aY):(rs:List cN)->List aY->av->Option (cN.outs rs (bt.dP ps)).D
 | [],vs,s=>
  match vs with
  | []=>hM ps gs s
  |_=>none
 |.val t m::rs,vs,s=>
  match vs with
  |v::vs=>(wD t m v s).bind fun r=>(gy ps gs rs vs r.2).bind fun q=>some (r.1,q)
  | []=>none
 |.opt a off t::rs,vs,s=>
  match vs with
  |v::vs=>(wE gs a off t v s).bind fun x=>(gy ps gs rs vs s).bind fun q=>some (x,q)
  | []=>none
 |.any t::rs,vs,s=>
  match vs with
  |v::vs=>cond (wF t v) (gy ps gs rs vs s) none
  | []=>none
 |.m1 t::rs,vs,s=>
  match vs with
  |v::vs=>(zB t v s).bind fun r=>(gy ps gs rs vs r.2).bind fun q=>some (r.1,q)
  | []=>none
 |.new t m::rs,vs,s=>
  match vs with
  |v::vs=>(zA t m v s).bind fun r=>(gy ps gs rs vs r.2).bind fun q=>some (r.1,q)
  | []=>none
def Z8{ps:List bt}{gs:List aY}{s:av}:gy ps gs [] [] s=hM ps gs s:=rfl
def Z9{ps:List bt}{gs:List aY}{s:av}{v:aY}{vs:List aY}:gy ps gs [] (v::vs) s=none:=rfl
def Z_{ps:List bt}{gs:List aY}{a o:Nat}{t:U}{rs:List cN}{s:av}{v:aY}{vs:List aY}:gy ps gs (.opt a o t::rs) (v::vs) s=(wE gs a o t v s).bind fun x=>(gy ps gs rs vs s).bind fun q=>some (x,q):=rfl
def aaa{ps:List bt}{gs:List aY}{a o:Nat}{t:U}{rs:List cN}{s:av}:gy ps gs (.opt a o t::rs) [] s=none:=rfl
def aab{ps:List bt}{gs:List aY}{t:U}{m:a8}{rs:List cN}{s:av}{v:aY}{vs:List aY}:gy ps gs (.val t m::rs) (v::vs) s=(wD t m v s).bind fun r=>(gy ps gs rs vs r.2).bind fun q=>some (r.1,q):=rfl
def aac{ps:List bt}{gs:List aY}{t:U}{m:a8}{rs:List cN}{s:av}:gy ps gs (.val t m::rs) [] s=none:=rfl
def aad{ps:List bt}{gs:List aY}{t:U}{rs:List cN}{s:av}{v:aY}{vs:List aY}:gy ps gs (.any t::rs) (v::vs) s=cond (wF t v) (gy ps gs rs vs s) none:=rfl
def aae{ps:List bt}{gs:List aY}{t:U}{rs:List cN}{s:av}:gy ps gs (.any t::rs) [] s=none:=rfl
def aaf{ps:List bt}{gs:List aY}{t:U}{rs:List cN}{s:av}{v:aY}{vs:List aY}:gy ps gs (.m1 t::rs) (v::vs) s=(zB t v s).bind fun r=>(gy ps gs rs vs r.2).bind fun q=>some (r.1,q):=rfl
def aag{ps:List bt}{gs:List aY}{t:U}{rs:List cN}{s:av}:gy ps gs (.m1 t::rs) [] s=none:=rfl
def aah{ps:List bt}{gs:List aY}{t:U}{m:a8}{rs:List cN}{s:av}{v:aY}{vs:List aY}:gy ps gs (.new t m::rs) (v::vs) s=(zA t m v s).bind fun r=>(gy ps gs rs vs r.2).bind fun q=>some (r.1,q):=rfl
def aai{ps:List bt}{gs:List aY}{t:U}{m:a8}{rs:List cN}{s:av}:gy ps gs (.new t m::rs) [] s=none:=rfl
def uz{ps:List bt}{gs:List aY}{us:List Value}:∀(rs:List cN) (vs:List aY) (dg:List Value) (s:av) (Z:ae) (x:(cN.outs rs (bt.dP ps)).D),gy ps gs rs vs s=some x->Inv w0 F0 Z0 n s a w ι Z →
  aX w Z s ι gs us->aX w Z s ι vs dg->∃an F Z',Inv w0 F0 Z0 n an a w ι Z'/\eN s ι Z an Z'/\bD w0 F0 an w ι Z' F/\gW w Z' ps us rs x dg F/\∀b o,F b o->∃id,(s.o id).live/\(ι id).F b o
 | [],vs,dg,s,Z,x,d,h,l,hv=>by
  cases vs with
  |cons=>rw[Z9]at d;cases d
  |nil=>rw[Z8]at d;simp only[aX]at hv;obtain⟨an,F,Z',C,e,D,E,I⟩:=rB ps gs us s Z x d h l;exact⟨an,F,Z',C,e,D,⟨hv,E⟩,I⟩
 |.opt W off t::rs,vs,dg,s,Z,x,d,h,l,hv=>by
  cases vs with
  |nil=>rw[aaa]at d;cases d
  |cons v vs=>simp only[aX]at hv;obtain⟨G,k,rfl,h1,y⟩:=hv;rw[Z_]at d;obtain⟨g,M,d⟩:=a6 d;obtain⟨q,H,d⟩:=a6 d;obtain rfl:=aS d;obtain⟨an,p,bK,i2,i,z,A,u⟩:=uz rs vs k s Z q H h l y;exact⟨an,p,bK,i2,i,z,⟨G,k,rfl,Z5 M h l h1,A⟩,u⟩
 |.any t::rs,vs,dg,s,Z,x,d,h,l,hv=>by
  cases vs with
  |nil=>rw[aae]at d;cases d
  |cons v vs=>
   simp only[aX]at hv;obtain⟨G,k,rfl,h1,y⟩:=hv;rw[aad]at d;cases hc:wF t v
   ·rw[hc]at d;cases d
   rw[hc]at d;obtain⟨an,p,bK,i2,i,z,A,u⟩:=uz rs vs k s Z x d h l y;exact⟨an,p,bK,i2,i,z,⟨G,k,rfl,Z6 hc h1,A⟩,u⟩
 |.m1 t::rs,vs,dg,s,Z,x,d,h,l,hv=>by
  cases vs with
  |nil=>rw[aag]at d;cases d
  |cons v vs=>simp only[aX]at hv;obtain⟨G,k,rfl,h1,y⟩:=hv;rw[aaf]at d;obtain⟨r,hr,d⟩:=a6 d;obtain⟨q,H,d⟩:=a6 d;obtain rfl:=aS d;obtain⟨J,C,e,E⟩:=Z7 hr h h1;obtain⟨an,p,bK,i2,i,z,A,u⟩:=uz rs vs k r.2 J q H C (aX.move e.d' l) (aX.move e.d' y);refine⟨an,p,bK,i2,e.trans i,z,⟨G,k,rfl,E.imp (fun h=>h) fun⟨g,b,o,vs,N,k2,k3,aZ,a_⟩=>⟨g,b,o,vs,N,k2,k3,U.al.mono i.dt _ _ (fun _ _ h=>h) aZ,fun j P=>i.dt _ _ (a_ j P)⟩,A⟩,?_⟩;intro b o g;obtain⟨id,hl,B⟩:=u b o g;exact⟨id,(e.live hl).1,B⟩
 |.new t m::rs,vs,dg,s,Z,x,d,h,l,hv=>by
  cases vs with
  |nil=>rw[aai]at d;cases d
  |cons v vs=>
   simp only[aX]at hv;obtain⟨G,k,rfl,h1,y⟩:=hv;rw[aah]at d;obtain⟨r,hr,d⟩:=a6 d;obtain⟨q,H,d⟩:=a6 d;obtain rfl:=aS d;obtain⟨b,o,L,K,J,rfl,C,e,D,Q,T,E,V,I⟩:=Z4 hr h h1;obtain⟨an,p,bK,i2,i,z,A,u⟩:=uz rs vs k r.2 J q H C (aX.move e.d' l) (aX.move e.d' y);refine⟨an,(K.or (ae.run b o t.size)).or p,bK,i2,e.trans i,(D.shrink i).or z,⟨b,o,L,k,K,p,rfl,Q,T,U.al.mono i.dt _ _ (fun _ _ h=>h) E,A,?_,V,fun _ _ h=>.inl h,fun _ _ h=>.inr h⟩,?_⟩
   ·intro b o x g;obtain⟨id,hl,B⟩:=u b o g;exact D.apart id hl b o x B
   ·rintro b o (g|g)
    ·exact I b o g
    ·obtain⟨id,hl,B⟩:=u b o g;exact⟨id,(e.live hl).1,B⟩
 |.val t m::rs,vs,dg,s,Z,x,d,h,l,hv=>by
  cases vs with
  |nil=>rw[aac]at d;cases d
  |cons v vs=>
   simp only[aX]at hv;obtain⟨G,k,rfl,h1,y⟩:=hv;rw[aab]at d;obtain⟨r,hr,d⟩:=a6 d;obtain⟨q,H,d⟩:=a6 d;obtain rfl:=aS d;obtain⟨L,K,J,rfl,C,e,D,E,I⟩:=PX hr h h1;obtain⟨an,p,bK,i2,i,z,A,u⟩:=uz rs vs k r.2 J q H C (aX.move e.d' l) (aX.move e.d' y);refine⟨an,K.or p,bK,i2,e.trans i,(D.shrink i).or z,⟨L,k,K,p,rfl,U.al.mono i.dt _ _ (fun _ _ h=>h) E,A,?_,fun _ _ h=>.inl h,fun _ _ h=>.inr h⟩,?_⟩
   ·intro b o x g;obtain⟨id,hl,B⟩:=u b o g;exact D.apart id hl b o x B
   ·rintro b o (g|g)
    ·exact I b o g
    ·obtain⟨id,hl,B⟩:=u b o g;exact⟨id,(e.live hl).1,B⟩
end
end Go.LM
namespace Go.LM
inductive j4 where
 |keep
 |bq (t:U) (dp:List Nat)
 |aa (c:Nat)
 |ai (c:Nat)
inductive ig where
 |cell (c:j4)
 |hJ (cs:List j4)
 |ptr (c:Nat)
 |c2 (dp:List Nat) (cs:List j4)
 |opt (c:Nat)
 |same
 |drop
 |tT (a b:List (List j4))
inductive hO where
 |var (cs:List j4)
 |row (t:U) (em:a8)
structure gH where
 ah:List (Nat×ig)
 os:List (Nat×hO)
 gs:List ig
abbrev Ren:=List (Nat×Option Nat)
def iZ:Ren->Nat->Option (Option Nat)
 | [],_=>none
 |(k,v)::l,c=>cond (Nat.beq k c) (some v) (iZ l c)
def jo(r:Ren)(c id:Nat):Bool:=match iZ r c with
 |some (some i)=>Nat.beq i id
 |_=>false
def rC(r:Ren)(c:Nat):Bool:=match iZ r c with
 |some none=>true
 |_=>false
def e7:List (Nat×hO)->Nat->Bool
 | [],_=>false
 |(k,_)::l,c=>cond (Nat.beq k c) true (e7 l c)
def pU:Ren->List Nat
 | []=>[]
 |(_,some i)::l=>i::pU l
 |(_,none)::l=>pU l
def m6:List Nat->Bool
 | []=>true
 |x::l=> !(l.any (Nat.beq x))&&m6 l
def HR:Ren->List Nat
 | []=>[]
 |(k,_)::l=>k::HR l
def pV(r:Ren)(c:Nat)(v:Option Nat):Ren:=match iZ r c with
 |none=>(c,v)::r
 |some _=>r
def HS(r:Ren):List Nat->List (Nat×Nat)->Ren
 |c::cs,d::a=>HS (pV r c (some d.1)) cs a
 |_,_=>r
def PZ(r:Ren):j4->a7->Ren
 |.aa c,.aa id _=>pV r c (some id)
 |.aa c,.nil _=>pV r c none
 |.ai c,.aa id _=>pV r c (some id)
 |.bq _ dp,.bq _ a _ _=>HS r dp a
 |.bq _ (c::_),.aa id _=>pV r c (some id)
 |_,_=>r
def zC(r:Ren):List j4->List a7->Ren
 |c::cs,x::xs=>zC (PZ r c x) cs xs
 |_,_=>r
def P0(r:Ren):ig->aY->Ren
 |.cell c,.aP x=>PZ r c x
 |.cell (.aa c),.jX=>pV r c none
 |.hJ cs,.hJ xs=>zC r cs xs
 |.ptr c,.ptr p=>pV r c (some p.id)
 |.c2 dp cs,.c2 a xs _=>zC (HS r dp a) cs xs
 |.opt c,.opt id _=>pV r c (some id)
 |_,_=>r
def P1(s:av)(r:Ren):List (Nat×ig)->Ren
 | []=>r
 |(d,t)::l=>P1 s (P0 r t (s.t d)) l
def P2(r:Ren):List ig->List aY->Ren
 |t::l,x::xs=>P2 (P0 r t x) l xs
 |_,_=>r
def HT(s:av)(r:Ren):List (Nat×hO)->Ren
 | []=>r
 |(c,.var cs)::l=>HT s (match iZ r c with
   |some (some id)=>(match s.o id with
    |.var _ xs=>zC r cs xs
    |_=>r)
   |_=>r) l
 |_::l=>HT s r l
def rD(dp:List Nat):List (Nat×Nat):=dp.map fun c=>(c,0)
def oc(r:Ren)(os:List (Nat×hO))(s:av):j4->a7->Option a7
 |.keep,c=>match c with
  |.int k x=>some (.int k x)
  |.bool b=>some (.bool b)
  |.str x=>some (.str x)
  |_=>none
 |.bq t dp,c=>cond (dp.all (e7 os)&&(borrows s c).all fun d=>dp.any fun c=>jo r c d.1) ((m2 s t c).bind fun x=>some (.bq t (rD dp) none x)) none
 |.aa k,c=>cond (e7 os k) (match c with
  |.aa id sub=>cond (jo r k id) (some (.aa k sub)) none
  |.nil _=>cond (rC r k) (some (.aa k none)) none
  |_=>none) none
 |.ai k,c=>cond (e7 os k) (match c with
  |.aa id sub=>(match s.o id with
   |.row _ _ _ xs=>cond (jo r k id) (some (.aa k (some (dz sub,iF sub xs)))) none
   |_=>none)
  |_=>none) none
def mr(r:Ren)(os:List (Nat×hO))(s:av):List j4->List a7->Option (List a7)
 | [],[]=>some []
 |c::cs,x::xs=>(oc r os s c x).bind fun a=>(mr r os s cs xs).bind fun b=>some (a::b)
 |_,_=>none
def zD(r:Ren)(os:List (Nat×hO))(s:av):ig->aY->Option aY
 |.cell c,.aP x=>(oc r os s c x).bind fun e=>some (.aP e)
 |.cell (.aa k),.jX=>cond (e7 os k&&rC r k) (some (.aP (.aa k none))) none
 |.cell (.bq t dp),.jX=>cond (dp.all (e7 os)) (some (.aP (.bq t (rD dp) none []))) none
 |.hJ cs,.hJ xs=>(mr r os s cs xs).bind fun a=>some (.hJ a)
 |.ptr k,.ptr p=>cond (e7 os k&&jo r k p.id) (some (.ptr { p with id:=k })) none
 |.c2 dp cs,.c2 b xs off=>cond (dp.all (e7 os)&&alive s b&&b.all fun d=>dp.any fun c=>jo r c d.1) ((mr r os s cs xs).bind fun a=>some (.c2 (rD dp) a off)) none
 |.opt k,.opt id o=>cond (e7 os k&&jo r k id) (some (.opt k o)) none
 |.same,.jl=>some .jl
 |.same,.bf=>some .bf
 |.same,.fn f [] []=>some (.fn f [] [])
 |.drop,_=>some .bf
 |_,_=>none
def uA(r:Ren)(os:List (Nat×hO))(s:av):List ig->List aY->Option (List aY)
 | [],[]=>some []
 |t::l,x::xs=>(zD r os s t x).bind fun v=>(uA r os s l xs).bind fun vs=>some (v::vs)
 |_,_=>none
def HU(r:Ren)(os:List (Nat×hO))(s:av):ig->aY->Option aY
 |.tT a b,.fn f xs d=>(uA r os s (a.map (ig.c2 [])) xs).bind fun x=>(uA r os s (b.map (ig.c2 [])) d).bind fun e=>some (.fn f x e)
 |t,x=>zD r os s t x
def zE(r:Ren)(os:List (Nat×hO))(s:av):List (Nat×ig)->Option (Nat->aY)
 | []=>some fun _=>.bf
 |(d,t)::l=>(HU r os s t (s.t d)).bind fun v=>(zE r os s l).bind fun f=>some (bF f d v)
def HV(r:Ren)(os:List (Nat×hO))(s:av)(c:Nat)(t:hO):Option b9:=
 match iZ r c with
 |some (some id)=>(match t,s.o id with
  |.row t em,.row a eV _ xs=>cond (a8.beq eV em||xs.isEmpty) ((ej (.sl a) (.sl t) xs).bind fun x=>some (.row t em 0 x)) none
  |.var cs,.var _ xs=>(mr r os s cs xs).bind fun b=>some (.var 0 b)
  |_,_=>none)
 |some none=>(match t with
  |.row t em=>some (.row t em 0 [])
  |_=>none)
 |none=>none
def zF(r:Ren)(os:List (Nat×hO))(s:av):List (Nat×hO)->Option (Nat->b9)
 | []=>some fun _=>.none
 |(c,t)::l=>(HV r os s c t).bind fun v=>(zF r os s l).bind fun f=>some (bF f c v)
def HW(T:gH)(r:Ren)(s:av):Option av:=
 cond (m6 (pU r)&&m6 (HR r)) ((zE r T.os s T.ah).bind fun t=>(zF r T.os s T.os).bind fun o=>(uA r T.os s T.gs s.g).bind fun g=>some ⟨t,o,g⟩) none
def norm(T:gH)(s:av):Option av:=HW T (HT s (P2 (P1 s [] T.ah) T.gs s.g) T.os) s
section
variable{w0:World}{F0 Z0:ae}{n:cl}{s s0:av}{a:Act}{w:World}{ι alR:Nat->bz}{Z:ae}{r:Ren}{os:List (Nat×hO)}
def iota(r:Ren)(ι:Nat->bz):Nat->bz:=fun c=>match iZ r c with
 |some (some id)=> ι id
 |_=>⟨none,0,ae.none⟩
def pW{c id:Nat}(h:jo r c id=true):iZ r c=some (some id):=by
 unfold jo at h;split at h
 ·rename_i i a;rw[a,cG h]
 ·cases h
def P3{c:Nat}(h:rC r c=true):iZ r c=some none:=by
 unfold rC at h;split at h
 ·rename_i a;exact a
 ·cases h
def zG{c id:Nat}(h:jo r c id=true):iota r ι c=ι id:=by unfold iota;rw[pW h]
def aaj{c:Nat}(h:rC r c=true):iota r ι c=⟨none,0,ae.none⟩:=by unfold iota;rw[P3 h]
def kQ(r:Ren)(os:List (Nat×hO))(s s0:av):Prop:=∀c,(s0.o c=.none/\e7 os c=false) ∨
 (∃id,iZ r c=some (some id)/\((∃t em a ver xs,s.o id=.row t a ver xs/\s0.o c=.row t em 0 xs/\(a=em\/xs=[]))\/(∃ver cs b d,s.o id=.var ver cs/\s0.o c=.var 0 b/\mr r os s d cs=some b))) ∨
 (iZ r c=some none/\∃t em,s0.o c=.row t em 0 [])
def kQ.known(h:kQ r os s s0){c:Nat}(hc:e7 os c=true):LM.known s0 c:=by
 intro a;rcases h c with⟨_,h1⟩|⟨id,_,⟨t,em,b,ver,xs,_,h1,_⟩|⟨ver,cs,d,e,_,h1,_⟩⟩|⟨_,t,em,h1⟩
 ·rw[hc]at h1;cases h1
 all_goals rw[h1]at a;cases a
def kQ.dep(h:kQ r os s s0){c:Nat}(hc:e7 os c=true):ee s0 (c,0):=⟨h.known hc,.inr (mc _)⟩
def P4(h:kQ r os s s0){dp:List Nat}(aa:dp.all (e7 os)=true):∀d,d∈rD dp->ee s0 d:=by intro d a;unfold rD at a;obtain⟨c,hc,rfl⟩:=List.mem_map.1 a;exact h.dep (List.all_eq_true.1 aa c hc)
def P5{dp:List Nat}{ds:List (Nat×Nat)}(h:∀d,d∈ds->(dp.any fun c=>jo r c d.1)=true):ae.sub (db ι ds) (db (iota r ι) (rD dp)):=by
 rintro b o ⟨d,aa,a⟩
 obtain⟨c,hc,e⟩:=List.any_eq_true.1 (h d aa);refine⟨(c,0),List.mem_map.2 ⟨c,hc,rfl⟩,?_⟩;rw[zG e];exact a
def zH(h:Inv w0 F0 Z0 n s a w ι Z)(q:kQ r os s s0){c:j4}{x y:a7}{v:Value}(hn:oc r os s c x=some y)(z:cd w Z s ι x v):cd w Z s0 (iota r ι) y v:=by
 cases c with
 |keep=>cases x<;>simp only[oc,cQ]at hn<;>first|(cases hn;done)|(subst hn;exact z)
 |bq t dp=>
  simp only[oc]at hn;cases hc:(dp.all (e7 os)&&(borrows s x).all fun d=>dp.any fun c=>jo r c d.1)
  ·rw[hc]at hn;cases hn
  rw[hc]at hn;simp only[au]at hn;simp only[bs]at hc;obtain⟨xs,hl,hn⟩:=a6 hn;obtain rfl:=aS hn;obtain⟨h1,B,u⟩:=Hg h hl z;have H:=P5 (ι :=ι) (r:=r) (dp:=dp) (ds:=borrows s x) fun d aa=>List.all_eq_true.1 hc.2 d aa
  have E:=U.al.mono (Z':=Z.or (db (iota r ι) (rD dp))) (fun b o I=>I.elim .inl fun h=>.inr (H b o h)) _ _ (fun _ _ h=>h) h1;refine⟨P4 q hc.1,?_,fun _=>E,.none⟩;simp only[U.al]at E;obtain⟨A,c,hv,_⟩:=E;simp only[jI,fK]at hv;exact⟨A,_,c,hv⟩
 |aa k=>
  simp only[oc]at hn;cases hc:e7 os k
  ·rw[hc]at hn;cases hn
  rw[hc]at hn;simp only[au]at hn
  cases x with
  |aa id sub=>
   simp only at hn;cases i:jo r k id
   ·rw[i]at hn;cases hn
   rw[i]at hn;obtain rfl:=aS hn;obtain⟨h1,A,m,F,hv,B⟩:=z;refine⟨q.known hc,A,m,F,hv,fun t em ver xs g=>?_⟩;rw[zG i];rcases q k with⟨e,_⟩|⟨dR,e,⟨C,eV,J,G,et,l,j,ge⟩|⟨G,cs,K,L,l,j,_⟩⟩|⟨e,C,eV,j⟩
   ·rw[e]at g;cases g
   ·rw[pW i]at e;injection e with e;injection e with e;subst e
    rw[j]at g;simp only[b9.core,b9.row.injEq]at g;obtain⟨rfl,rfl,rfl,g⟩:=g;have:=eq_of_heq g;subst this;exact B _ _ _ _ (kk l)
   ·rw[j]at g;cases g
   ·rw[pW i]at e;cases e
  |nil M=>
   simp only at hn;cases i:rC r k
   ·rw[i]at hn;cases hn
   rw[i]at hn;obtain rfl:=aS hn;have hv:v=.slice none 0 0:=z;refine⟨q.known hc,none,0,0,hv,fun t em ver xs g=>?_⟩;rw[aaj i];rcases q k with⟨e,_⟩|⟨dR,e,_⟩|⟨e,C,eV,j⟩
   ·rw[e]at g;cases g
   ·rw[P3 i]at e;cases e
   ·rw[j]at g;simp only[b9.core,b9.row.injEq]at g;obtain⟨rfl,rfl,rfl,g⟩:=g;have:=eq_of_heq g;subst this;exact⟨rfl,bu _,bu _,bu _,.inl rfl⟩
  |_=>cases hn
 |ai k=>
  simp only[oc]at hn;cases hc:e7 os k
  ·rw[hc]at hn;cases hn
  rw[hc]at hn;simp only[au]at hn
  cases x with
  |aa id sub=>
   simp only at hn
   cases D:s.o id with
   |row N P Q T=>
    rw[D]at hn;simp only at hn;cases i:jo r k id
    ·rw[i]at hn;cases hn
    rw[i]at hn;obtain rfl:=aS hn;obtain⟨h1,A,m,F,hv,B⟩:=z;refine⟨q.known hc,A,m,F,hv,fun t em ver xs g=>?_⟩;rw[zG i];rcases q k with⟨e,_⟩|⟨dR,e,⟨C,eV,J,G,et,l,j,ge⟩|⟨G,cs,K,L,l,j,_⟩⟩|⟨e,C,eV,j⟩
    ·rw[e]at g;cases g
    ·rw[pW i]at e;injection e with e;injection e with e;subst e
     rw[j]at g;simp only[b9.core,b9.row.injEq]at g;obtain⟨rfl,rfl,rfl,g⟩:=g;have:=eq_of_heq g;subst this;rw[D]at l;simp only[b9.row.injEq]at l;obtain⟨rfl,rfl,rfl,l⟩:=l;have:=eq_of_heq l;subst this;have u:=B _ _ _ _ (kk D)
     cases sub with
     |none=>exact⟨u.OT,u.fits,u.le,u.cap,u.at_⟩
     |some p=>exact u
    ·rw[j]at g;cases g
    ·rw[pW i]at e;cases e
   |_=>rw[D]at hn;cases hn
  |_=>cases hn
def zI(h:Inv w0 F0 Z0 n s a w ι Z)(e:kQ r os s s0):∀{cs:List j4}{xs d:List a7}{vs:List Value},mr r os s cs xs=some d->bG w Z s ι xs vs->bG w Z s0 (iota r ι) d vs
 | [],[],d,vs,hn,b=>by
  obtain rfl:=aS hn
  cases vs with
  |nil=>trivial
  |cons=>exact b.elim
 | [],_::_,_,_,hn,_=>by cases hn
 |_::_,[],_,_,hn,_=>by cases hn
 |c::cs,x::xs,d,vs,hn,b=>by
  simp only[mr]at hn;obtain⟨i,h1,hn⟩:=a6 hn;obtain⟨j,g,hn⟩:=a6 hn;obtain rfl:=aS hn
  cases vs with
  |nil=>exact b.elim
  |cons v vs=>exact⟨zH h e h1 b.1,zI h e g b.2⟩
def HX:∀{cs:List j4}{xs a:List a7},mr r os s cs xs=some a->a.length=xs.length
 | [],[],_,hn=>by obtain rfl:=aS hn;rfl
 | [],_::_,_,hn=>by cases hn
 |_::_,[],_,hn=>by cases hn
 |c::cs,x::xs,a,hn=>by simp only[mr]at hn;obtain⟨d,h1,hn⟩:=a6 hn;obtain⟨e,b,hn⟩:=a6 hn;obtain rfl:=aS hn;simp[HX b]
def P6(h:kQ r os s s0){k:Nat}{p:Place}{A:Addr}(hc:e7 os k=true)(b:jo r k p.id=true)(ai:iG s ι p A):iG s0 (iota r ι) { p with id:=k } A:=by
 obtain⟨h1,d⟩:=ai;refine⟨h1,?_⟩;show match (s0.o k).core with|.var _ cs=>_|.row t _ _ xs=>_|_=>_
 rw[zG b];rcases h k with⟨a,_⟩|⟨dR,a,⟨i,eV,l,j,et,g,e,ge⟩|⟨j,cs,m,n,g,e,_⟩⟩|⟨a,i,eV,e⟩
 ·rw[a];trivial
 ·rw[pW b]at a;injection a with a;injection a with a;subst a
  rw[e];rw[g]at d;exact d
 ·rw[pW b]at a;injection a with a;injection a with a;subst a
  rw[e];rw[g]at d;exact d
 ·rw[pW b]at a;cases a
def P7(h:Inv w0 F0 Z0 n s a w ι Z)(g:kQ r os s s0){t:ig}{x y:aY}{v:Value}(hn:zD r os s t x=some y)(e:aR w Z s ι x v):aR w Z s0 (iota r ι) y v:=by
 unfold zD at hn;split at hn
 ·obtain⟨z,h1,hn⟩:=a6 hn;obtain rfl:=aS hn;simp only[aR]at e⊢;exact zH h g h1 e
 ·rename_i k;cases hc:(e7 os k&&rC r k)
  ·rw[hc]at hn;cases hn
  rw[hc]at hn;simp only[bs]at hc;obtain rfl:=aS hn;simp only[aR]at e⊢;exact zH (c:=.aa k) (x:=.nil .bool) h g (by simp only[oc];rw[hc.1,hc.2];rfl) e
 ·rename_i t dp;cases hc:dp.all (e7 os)
  ·rw[hc]at hn;cases hn
  rw[hc]at hn;obtain rfl:=aS hn;simp only[aR]at e⊢;refine zH (c:=.bq t dp) (x:=.nil t) h g ?_ e;simp only[oc,hc,borrows,List.all_nil,kJ,au];simp only[m2,ej];rw[dif_pos (U.beq_refl _)];rfl
 ·obtain⟨z,h1,hn⟩:=a6 hn;obtain rfl:=aS hn;simp only[aR]at e⊢;obtain⟨vs,hv,e⟩:=e;exact⟨vs,hv,zI h g h1 e⟩
 ·rename_i k p;cases hc:(e7 os k&&jo r k p.id)
  ·rw[hc]at hn;cases hn
  rw[hc]at hn;simp only[bs]at hc;obtain rfl:=aS hn;simp only[aR]at e⊢;obtain⟨_,A,hv,ai⟩:=e;exact⟨g.known hc.1,A,hv,P6 g hc.1 hc.2 ai⟩
 ·rename_i dp cs ds xs off;cases hc:(dp.all (e7 os)&&alive s ds&&ds.all fun d=>dp.any fun c=>jo r c d.1)
  ·rw[hc]at hn;cases hn
  rw[hc]at hn;simp only[bs]at hc;simp only[au]at hn;obtain⟨z,h1,hn⟩:=a6 hn;obtain rfl:=aS hn;simp only[aR]at e⊢;obtain⟨_,b,o,vs,hv,e⟩:=e;obtain⟨l,m,q⟩:=e hc.1.2;have u:=P5 (ι :=ι) (r:=r) (dp:=dp) (ds:=ds) fun d aa=>List.all_eq_true.1 hc.2 d aa
  refine⟨P4 g hc.1.1,b,o,vs,hv,fun _=>⟨zI h g h1 l,m,fun j i=>?_⟩⟩;rw[HX h1]at i;exact(q j i).elim .inl fun h=>.inr (u _ _ h)
 ·rename_i k id o;cases hc:(e7 os k&&jo r k id)
  ·rw[hc]at hn;cases hn
  rw[hc]at hn;simp only[bs]at hc;obtain rfl:=aS hn;simp only[aR]at e⊢;obtain⟨_,e⟩:=e;exact⟨g.known hc.1,e.imp (fun h=>h) fun⟨h1,A,hv,ai⟩=>⟨h1,A,hv,P6 (p:=⟨id,some o.toNat,0⟩) g hc.1 hc.2 ai⟩⟩
 ·obtain rfl:=aS hn;simpa only[aR]using e
 ·obtain rfl:=aS hn;simp only[aR]
 ·obtain rfl:=aS hn;simpa only[aR,aX]using e
 ·obtain rfl:=aS hn;simp only[aR]
 ·cases hn
def zJ(h:Inv w0 F0 Z0 n s a w ι Z)(e:kQ r os s s0):∀{ah:List ig}{xs b:List aY}{vs:List Value},uA r os s ah xs=some b->aX w Z s ι xs vs->aX w Z s0 (iota r ι) b vs
 | [],[],b,vs,hn,d=>by obtain rfl:=aS hn;simpa only[aX]using d
 | [],_::_,_,_,hn,_=>by cases hn
 |_::_,[],_,_,hn,_=>by cases hn
 |t::ah,x::xs,b,vs,hn,d=>by simp only[uA]at hn;obtain⟨l,h1,hn⟩:=a6 hn;obtain⟨m,g,hn⟩:=a6 hn;obtain rfl:=aS hn;simp only[aX]at d⊢;obtain⟨v,i,rfl,j,k⟩:=d;exact⟨v,i,rfl,P7 h e h1 j,zJ h e g k⟩
def aak(h:Inv w0 F0 Z0 n s a w ι Z)(b:kQ r os s s0){t:ig}{x y:aY}{v:Value}(hn:HU r os s t x=some y)(d:aR w Z s ι x v):aR w Z s0 (iota r ι) y v:=by
 unfold HU at hn;split at hn
 ·obtain⟨i,h1,hn⟩:=a6 hn;obtain⟨j,e,hn⟩:=a6 hn;obtain rfl:=aS hn;simp only[aR]at d⊢;obtain⟨us,vs,rfl,g,k2⟩:=d;exact⟨us,vs,rfl,zJ h b h1 g,zJ h b e k2⟩
 ·exact P7 h b hn d
def P8(h:Inv w0 F0 Z0 n s a w ι Z)(b:kQ r os s s0):∀{ah:List (Nat×ig)}{f:Nat->aY},zE r os s ah=some f->∀k,aR w Z s0 (iota r ι) (f k) (a.tmps.getD k undef)
 | [],f,hn,k=>by obtain rfl:=aS hn;simp only[aR]
 |(d,t)::l,f,hn,k=>by
  simp only[zE]at hn;obtain⟨v,h1,hn⟩:=a6 hn;obtain⟨g,e,hn⟩:=a6 hn;obtain rfl:=aS hn;by_cases hk:d=k
  ·subst hk;rw[b6];exact aak h b h1 (h.tmps d)
  ·rw[ca hk];exact P8 h b e k
def aal{c:Nat}{t:hO}{v:b9}(hn:HV r os s c t=some v):
  (∃id,iZ r c=some (some id)/\((∃t em b ver xs,s.o id=.row t b ver xs/\v=.row t em 0 xs/\(b=em\/xs=[]))\/(∃ver cs d g,s.o id=.var ver cs/\v=.var 0 d/\mr r os s g cs=some d)))\/(iZ r c=some none/\∃t em,v=.row t em 0 []):=by
 unfold HV at hn;split at hn
 ·rename_i id hl;refine .inl ⟨id,hl,?_⟩;split at hn
  ·rename_i t em h eV ver xs a;cases hb:(a8.beq eV em||xs.isEmpty)
   ·rw[hb]at hn;cases hn
   rw[hb]at hn;obtain⟨x,h1,hn⟩:=a6 hn;obtain rfl:=aS hn;simp only[kI]at hb;obtain⟨e,rfl⟩:=gx h1;subst e;refine .inl ⟨_,_,_,_,_,a,rfl,?_⟩;rcases hb with hb|hb
   ·exact .inl (a8.eq_of_beq _ _ hb)
   ·exact .inr (List.isEmpty_iff.1 hb)
  ·rename_i cs ver xs a;obtain⟨i,h1,hn⟩:=a6 hn;obtain rfl:=aS hn;exact .inr ⟨_,_,_,_,a,rfl,h1⟩
  ·cases hn
 ·rename_i hl;split at hn
  ·obtain rfl:=aS hn;exact .inr ⟨hl,_,_,rfl⟩
  ·cases hn
 ·cases hn
def zK:∀{l:List (Nat×hO)}{f:Nat->b9},zF r os s l=some f->∀c,(f c=.none/\e7 l c=false) ∨
  (∃id,iZ r c=some (some id)/\((∃t em a ver xs,s.o id=.row t a ver xs/\f c=.row t em 0 xs/\(a=em\/xs=[]))\/(∃ver cs b e,s.o id=.var ver cs/\f c=.var 0 b/\mr r os s e cs=some b))) ∨
  (iZ r c=some none/\∃t em,f c=.row t em 0 [])
 | [],f,hn,c=>by obtain rfl:=aS hn;exact .inl ⟨rfl,rfl⟩
 |(d,t)::l,f,hn,c=>by
  simp only[zF]at hn;obtain⟨v,h1,hn⟩:=a6 hn;obtain⟨g,h,hn⟩:=a6 hn;obtain rfl:=aS hn;by_cases hk:d=c
  ·subst hk;rw[b6];exact .inr (aal h1)
  ·rw[ca hk];rcases zK h c with⟨i,j⟩|g
   ·refine .inl ⟨i,?_⟩;unfold e7
    have:Nat.beq d c=false:=by
     cases hb:Nat.beq d c
     ·rfl
     ·exact absurd (cG hb) hk
    rw[this];exact j
   ·exact .inr g
def HY{c:Nat}{v:Option Nat}:∀{r:Ren},iZ r c=some v->(c,v)∈r
 | [],h=>by cases h
 |(k,a)::l,h=>by
  unfold iZ at h;cases hb:Nat.beq k c
  ·rw[hb]at h;exact gS _ (HY h)
  ·rw[hb]at h;obtain rfl:=aS h;obtain rfl:=cG hb;exact gT
def P9{c id:Nat}:∀{r:Ren},(c,some id)∈r->id∈pU r
 |(k,a)::l,h=>by
  rcases List.mem_cons.1 h with h|h
  ·injection h with h1 b
   subst h1 b;exact gT
  ·have:=P9 h
   cases a with
   |none=>exact this
   |some i=>exact gS _ this
def HZ{c c' id:Nat}:∀{r:Ren},m6 (pU r)=true->(c,some id)∈r->(c',some id)∈r->c=c'
 |(k,m)::l,hn,h,b=>by
  cases m with
  |none=>
   simp only[pU]at hn;rcases List.mem_cons.1 h with h|h
   ·injection h with _ a;cases a
   rcases List.mem_cons.1 b with b|b
   ·injection b with _ a;cases a
   exact HZ hn h b
  |some i=>
   simp only[pU,m6,bs,eT]at hn;have j:∀{x},(x,some i)∈l->False:=by intro x n;have:=P9 n;have e:=List.any_eq_false.1 hn.1 i this;simp at e
   rcases List.mem_cons.1 h with g|g
   ·injection g with h1 a;injection a with a
    rcases List.mem_cons.1 b with d|d
    ·injection d with e o;rw[h1,e]
    ·exact(j (a▸d)).elim
   ·rcases List.mem_cons.1 b with d|d
    ·injection d with h1 a;injection a with a
     exact(j (a▸g)).elim
    ·exact HZ hn.2 g d
def aam{T:gH}(C:n.gc=[])(hn:HW T r s=some s0)(hs:cO w0 F0 Z0 n s a w):cO w0 F0 Z0 n s0 a w:=by
 obtain⟨ι,Z,h⟩:=hs;unfold HW at hn;cases q:(m6 (pU r)&&m6 (HR r))
 ·rw[q]at hn;cases hn
 rw[q]at hn;simp only[bs]at q;simp only[au]at hn;obtain⟨D,h1,hn⟩:=a6 hn;obtain⟨v,y,hn⟩:=a6 hn;obtain⟨E,F,hn⟩:=a6 hn;obtain rfl:=aS hn;have z:kQ r T.os s ⟨D,v,E⟩:=zK y
 have live:∀c,(v c).live->(∃id,iZ r c=some (some id)/\(s.o id).live/\iota r ι c=ι id)\/(iota r ι c=⟨none,0,ae.none⟩):=by
  intro c hl;rcases zK y c with⟨g,_⟩|⟨id,g,⟨t,em,H,ver,xs,l,i,ge⟩|⟨ver,cs,I,J,l,i,_⟩⟩|⟨g,_⟩
  ·rw[g]at hl;exact hl.elim
  ·exact .inl ⟨id,g,by rw[l];trivial,by unfold iota;rw[g]⟩
  ·exact .inl ⟨id,g,by rw[l];trivial,by unfold iota;rw[g]⟩
  ·exact .inr (by unfold iota;rw[g])
 refine⟨iota r ι,Z,h.ext,h.dt,h.pK,h.hK,?_,?_,?_,?_,P8 h z h1,h.size,zJ h z F h.ghost,by rw[C];intro e he;simp at he,h.defers⟩
 ·intro c;show gd w Z _ _ _ (v c);rcases zK y c with⟨g,_⟩|⟨id,g,⟨t,em,H,ver,xs,l,i,ge⟩|⟨ver,cs,I,J,l,i,m⟩⟩|⟨g,t,em,i⟩
  ·rw[g];trivial
  ·rw[i];have:=h.eU id;rw[l]at this;have A:iota r ι c=ι id:=by unfold iota;rw[g]
   rw[A];rcases ge with rfl|rfl
   ·exact this
   ·rcases this with k|⟨B,p,k2⟩
    ·exact .inl k
    ·obtain⟨k3,aZ,a_,c7,G,dE,cE,fk⟩:=k2;exact .inr ⟨B,p,k3,aZ,a_,c7,G,trivial,cE,fk⟩
  ·rw[i];have:=h.eU id;rw[l]at this;have A:iota r ι c=ι id:=by unfold iota;rw[g]
   rw[A];obtain⟨B,vs,p,k2,k3,aZ,a_⟩:=this;exact⟨B,vs,p,k2,zI h z m k3,aZ,fun j K=>a_ j (by rw[<-HX m];exact K)⟩
  ·rw[i];exact .inl ⟨rfl,by unfold iota;rw[g]⟩
 ·intro c hl b o d;rcases live c hl with⟨id,_,i,m⟩|g
  ·rw[m]at d;exact h.own id i b o d
  ·rw[g]at d;exact d.elim
 ·intro c c' hl L M b o d u;rcases live c hl with⟨id,l,i,m⟩|g
  ·rcases live c' L with⟨dR,p,k2,k3⟩|k
   ·rw[m]at d;rw[k3]at u;refine h.apart id dR i k2 (fun e=>?_) b o d u;subst e;exact M (HZ q.1 (HY l) (HY p))
   ·rw[k]at u;exact u.elim
  ·rw[g]at d;exact d.elim
 ·intro c hl b o d N;rcases live c hl with⟨id,l,i,m⟩|g
  ·rw[m]at d;exact h.cB id i b o d N
  ·rw[g]at d;exact d.elim
def aan{T:gH}(b:n.gc=[])(hn:norm T s=some s0)(hs:cO w0 F0 Z0 n s a w):cO w0 F0 Z0 n s0 a w:=aam b hn hs
end
end Go.LM
namespace Go.LM
def zL:List (Nat×List Item)->Nat->Option (List Item)
 | [],_=>none
 |(k,x)::l,r=>cond (Nat.beq k r) (some x) (zL l r)
def P_(body:Code)(bx:Nat):Option (List Item):=zL (gi [.code body]) bx
def wG:List (Nat×List Item)->List Nat
 | []=>[]
 |(k,_)::l=>k::wG l
def H0(body:Code):Bool:=m6 (wG (gi [.code body]))
def P'{k:Nat}{x:List Item}:∀{l:List (Nat×List Item)},(k,x)∈l->k∈wG l
 |(k',a)::l,h=>by
  rcases List.mem_cons.1 h with h|h
  ·injection h with h1 b;rw[h1];exact gT
  ·exact gS _ (P' h)
def Qa{k:Nat}{x:List Item}:∀{l:List (Nat×List Item)},m6 (wG l)=true->(k,x)∈l->zL l k=some x
 |(k',e)::l,hn,h=>by
  simp only[wG,m6,bs,eT]at hn;unfold zL;rcases List.mem_cons.1 h with h|h
  ·injection h with h1 b
   rw[h1,Nat.beq_refl,b];rfl
  ·have d:Nat.beq k' k=false:=by
    have a:=List.any_eq_false.1 hn.1 k (P' h);cases hb:Nat.beq k' k
    ·rfl
    ·rw[cG hb]at a;simp at a
   rw[d];exact Qa hn.2 h
section
variable{bn:Type}
def H4(a:Nat->Option gH)(k:Nat->av->Option bn)(bx:Nat)(s:av):Option bn:=
 match a bx with
 |some T=>(norm T s).bind (k bx)
 |none=>none
def H5(a:Nat->Option gH)(bx:Nat):Bool:=(a bx).isSome
def H6(a:Nat->Option gH)(fin:av->Option bn)(k:Nat->av->Option bn):Hand bn:=⟨fun r _ s=>H4 a k r s,fin⟩
noncomputable def H7(E:Env)(a:Nat->Option gH)(body:Code)(fin:av->Option bn)(k:Nat->av->Option bn)(bx:Nat)(s:av):Option bn:=
 match P_ body bx with
 |some todo=>jn E (H5 a) (H6 a fin k) 100000 true todo s
 |none=>none
noncomputable def pX(E:Env)(a:Nat->Option gH)(body:Code)(fin:av->Option bn):Nat->Nat->av->Option bn
 |0,_,_=>none
 |m+1,bx,s=>H7 E a body fin (pX E a body fin m) bx s
end
def rE(E:Env):List ResultVar->av->Option (List aY)
 | [],_=>some []
 |.tmp t::l,s=>(rE E l s).bind fun vs=>some (s.t t::vs)
 |.cell a ty::l,s=>
  match E.ty ty,s.t a with
  |some T,.ptr p=>((kL s T.size p).bind (iX T)).bind fun v=>(rE E l s).bind fun vs=>some (v::vs)
  |_,_=>none
def kR(key:Nat):List bt->List aY->List aY
 |.fn kK _::_,_::l=>[.fn key (l.take kK) (l.drop kK)]
 |.val _ _::ps,v::l|.gJ _::ps,v::l|.gu _ _::ps,v::l|.ref _::ps,v::l|.mut _ _ _::ps,v::l=>v::kR key ps l
 |_,_=>[]
def zM:List bt->Bool
 | []=>true
 |.fn kK m0::l=>Nat.beq l.length (kK+m0)
 |.val _ _::l|.gJ _::l|.gu _ _::l|.ref _::l|.mut _ _ _::l=>zM l
def Qb(key:Nat)(e:Entry)(x:(bt.ins e.ps).D):Option av:=
 (j3 key e.ps x 1099511627776 ⟨fun _=>.bf,fun _=>.none,[]⟩).bind fun q=>some ⟨fun k=>(kR key e.ps q.1).getD k .bf,q.2.1.o,q.1⟩
def rF(E:Env)(fn:Func)(e:Entry)(s:av):Option (cN.outs e.rs (bt.dP e.ps)).D:=
 (rE E fn.results.toList s).bind fun vs=>gy e.ps s.g e.rs vs s
noncomputable def wH(E:Env)(fn:Func)(body:Code)(a:Nat->Option gH)(key:Nat)(e:Entry)(k:Nat->av->Option (cN.outs e.rs (bt.dP e.ps)).D)(x:(bt.ins e.ps).D):Option (cN.outs e.rs (bt.dP e.ps)).D:=
 (Qb key e x).bind fun s=>jn E (H5 a) (H6 a (rF E fn e) k) 100000 false [.code body] s
section
variable{P:Program}{w0:World}{F0 Z0:ae}{n:cl}{s an:av}{a b0:Act}{w w':World}{ι a':Nat->bz}{Z Z':ae}{E:Env}{bn:Type}{r:bn}
def aao(w0:World)(F0 Z0:ae)(n:cl)(fin:av->Option bn)(r:bn)(todo:List Item)(a:Act)(w:World):Prop:=
 (todo=[]\/∃k,todo=.code .ret::k)/\∃s,fin s=some r/\cO w0 F0 Z0 n s a w
def Qc{d:Nat->Option gH}{body:Code}{fin:av->Option bn}(h:iI P E)(hn:E.n=n)(i:n.gc=[])(j:H0 body=true):∀(m:Nat) (fuel:Nat) (first:Bool) (todo:List Item) (s:av) (a:Act) (w:World),
  (∀p,p∈gi todo->p∈gi [.code body])->jn E (H5 d) (H6 d fin (pX E d body fin m)) fuel first todo s=some r->cO w0 F0 Z0 n s a w->∀(b:Frame) (cs:List Frame),
  ∃l b0 w',aao w0 F0 Z0 n fin r l b0 w'/\Steps P (lone (b.at a todo) cs w) (lone (b.at b0 l) cs w')
 |m,fuel,first,todo,s,a,w,hc,hk,hs,b,cs=>by
  obtain⟨t1,o,q,u,h1,B,v,y⟩:=PW h hn fuel first todo s a w hk hs b cs
  rcases B with⟨bx,ops,z,k,rfl,Q,C⟩|⟨D,F⟩
  ·have e:H4 d (pX E d body fin m) bx o=some r:=C;unfold H4 at e
   cases A:d bx with
   |none=>rw[A]at e;cases e
   |some T=>
    rw[A]at e;obtain⟨G,H,g⟩:=a6 e;have I:=aan i H h1
    cases m with
    |zero=>cases g
    |succ m=>unfold pX H7 at g;have J:(bx,(.code (.region bx ops z)::k:List Item))∈gi [.code body]:=hc _ (v _ (by simp[gi,kp]));have K:P_ body bx=some (.code (.region bx ops z)::k):=Qa j J;rw[K]at g;simp only at g;obtain⟨L,b0,w',M,N⟩:=Qc h hn i j m 100000 true _ G q u (fun p ai=>hc p (v p ai)) g I b cs;exact⟨L,b0,w',M,y.trans N⟩
  ·exact⟨t1,q,u,⟨D,o,F,h1⟩,y⟩
def kS{α:Type}:∀x:Sem α,x.bind .pure=x
 |.pure a=>rfl
 |.load m a k=>by simp only[Sem.bind];exact congrArg _ (funext fun v=>kS (k v))
 |.store m a v k=>by simp only[Sem.bind];exact congrArg _ (kS k)
 |.new o k=>by simp only[Sem.bind];exact congrArg _ (funext fun v=>kS (k v))
 |.shape r k=>by simp only[Sem.bind];exact congrArg _ (funext fun v=>kS (k v))
 |.freeze a n k=>by simp only[Sem.bind];exact congrArg _ (kS k)
 |.frozen a k=>by simp only[Sem.bind];exact congrArg _ (funext fun v=>kS (k v))
 |.getObj r k=>by simp only[Sem.bind];exact congrArg _ (funext fun v=>kS (k v))
 |.setObj r o k=>by simp only[Sem.bind];exact congrArg _ (kS k)
 |.choose q k=>by simp only[Sem.bind];exact congrArg _ (funext fun v=>kS (k v))
 |.sys c k=>by simp only[Sem.bind];exact congrArg _ (funext fun v=>kS (k v))
 |.program k=>by simp only[Sem.bind];exact congrArg _ (funext fun v=>kS (k v))
 |.mark m k=>by simp only[Sem.bind];exact congrArg _ (kS k)
 |.halt h=>rfl
def kT{α b d:Type}(f:α->Sem b)(g:b->Sem d):∀x:Sem α,(x.bind f).bind g=x.bind fun a=>(f a).bind g
 |.pure a=>rfl
 |.load m a k=>by simp only[Sem.bind];exact congrArg _ (funext fun v=>kT f g (k v))
 |.store m a v k=>by simp only[Sem.bind];exact congrArg _ (kT f g k)
 |.new o k=>by simp only[Sem.bind];exact congrArg _ (funext fun v=>kT f g (k v))
 |.shape r k=>by simp only[Sem.bind];exact congrArg _ (funext fun v=>kT f g (k v))
 |.freeze a n k=>by simp only[Sem.bind];exact congrArg _ (kT f g k)
 |.frozen a k=>by simp only[Sem.bind];exact congrArg _ (funext fun v=>kT f g (k v))
 |.getObj r k=>by simp only[Sem.bind];exact congrArg _ (funext fun v=>kT f g (k v))
 |.setObj r o k=>by simp only[Sem.bind];exact congrArg _ (kT f g k)
 |.choose q k=>by simp only[Sem.bind];exact congrArg _ (funext fun v=>kT f g (k v))
 |.sys c k=>by simp only[Sem.bind];exact congrArg _ (funext fun v=>kT f g (k v))
 |.program k=>by simp only[Sem.bind];exact congrArg _ (funext fun v=>kT f g (k v))
 |.mark m k=>by simp only[Sem.bind];exact congrArg _ (kT f g k)
 |.halt h=>rfl
instance:LawfulMonad Sem:=LawfulMonad.mk' Sem (fun x=>kS x) (fun _ _=>rfl) (fun x f g=>kT f g x)
def Qd{α:Type}{f:α->Sem Value}:∀{as:List α}{vs:List Value},vs.length=as.length->(∀i (a:i<as.length) (b:i<vs.length),(f as[i]).run P w=.ok vs[i] w)->(as.mapM f).run P w=.ok vs w
 | [],[],_,_=>by rw[List.mapM_nil];exact run_pure _ _
 | [],_::_,h,_=>by simp at h
 |_::_,[],h,_=>by simp at h
 |x::as,v::vs,hl,h=>by have d:=h 0 (by simp) (by simp);simp only[List.getElem_cons_zero]at d;rw[List.mapM_cons,run_bind,d];simp only[run_bind];rw[Qd (as:=as) (vs:=vs) (by simpa using hl) fun i a b=>h (i+1) (by simpa using a) (by simpa using b)];simp only[run_pure]
def aap{α:Type}{f:α->Sem Value}{as:Array α}{vs:List Value}(hl:vs.length=as.size)(h:∀i (a:i<as.toList.length) (b:i<vs.length),(f as.toList[i]).run P w=.ok vs[i] w):
  (as.mapM f).run P w=.ok vs.toArray w:=by
 rw[Array.mapM_eq_mapM_toList,map_eq_pure_bind,run_bind,Qd (by simpa using hl) h];rfl
def H8(g:fU P E)(h:Inv w0 F0 Z0 n s a w ι Z):∀{l:List ResultVar}{vs:List aY},rE E l s=some vs →
  ∃us,us.length=l.length/\aX w Z s ι vs us/\∀i (d:i<l.length) (e:i<us.length),((fun|.tmp t=>pure (a.tmps.getD t undef)|.cell b t=>do loadVar t (<-asAddr (a.tmps.getD b undef)):ResultVar->Sem Value) l[i]).run P w=.ok us[i] w
 | [],vs,hr=>by obtain rfl:=aS hr;exact⟨[],rfl,by simp only[aX],fun i d=>by simp at d⟩
 |.tmp t::l,vs,hr=>by
  simp only[rE]at hr;obtain⟨q,h1,hr⟩:=a6 hr;obtain rfl:=aS hr;obtain⟨us,j,k,m⟩:=H8 g h h1;refine⟨_::us,by simp[j],by simp only[aX];exact⟨_,_,rfl,h.tmps t,k⟩,fun i d e=>?_⟩
  cases i with
  |zero=>rfl
  |succ i=>exact m i (by simpa using d) (by simpa using e)
 |.cell b ty::l,vs,hr=>by
  simp only[rE]at hr
  cases ht:E.ty ty with
  |none=>rw[ht]at hr;simp at hr
  |some T=>
   rw[ht]at hr
   cases ai:s.t b with
   |ptr p=>
    rw[ai]at hr;simp only at hr;obtain⟨v,hv,hr⟩:=a6 hr;obtain⟨q,h1,hr⟩:=a6 hr;obtain rfl:=aS hr;obtain⟨cs,r,k2⟩:=a6 hv;obtain⟨us,j,k,m⟩:=H8 g h h1;have o:=h.tmps b;rw[ai]at o;simp only[aR]at o;obtain⟨_,A,he,u⟩:=o;obtain⟨y,z,B,rfl,hc,C,hlen⟩:=wk h r u;refine⟨c8 T B::us,by simp[j],by simp only[aX];exact⟨_,_,rfl,ml k2 hc,k⟩,fun i d e=>?_⟩
    cases i with
    |zero=>show(do loadVar ty (<-asAddr (a.tmps.getD b undef)):Sem Value).run P w=_;rw[run_bind,he];show(loadVar ty (at_ y z)).run P w=_;exact wm (g.ty ty T ht) C hlen
    |succ i=>exact m i (by simpa using d) (by simpa using e)
   |_=>rw[ai]at hr;simp at hr
def aaq{fn:Func}{vs:List aY}(b:fU P E)(h:Inv w0 F0 Z0 n s a w ι Z)(hr:rE E fn.results.toList s=some vs):
  ∃us,aX w Z s ι vs us/\(results fn a.tmps).run P w=.ok (mm us) w:=by
 obtain⟨us,h1,d,e⟩:=H8 b h hr;refine⟨us,d,?_⟩;unfold results
 rw[run_bind,aap (vs:=us) (by simpa using h1) (fun i g j=>by
  have:=e i g j;revert this
  cases fn.results.toList[i]<;>exact fun h=>h)]
 simp only;rw[run_pure];congr 1;unfold mm;split
 ·rename_i hs
  match us,hs with
  | [v],_=>rfl
  | [],hs=>simp at hs
  |_::_::_,hs=>simp at hs
 ·rename_i hs
  match us,hs with
  | [v],hs=>simp at hs
  | [],_=>rfl
  |_::_::_,_=>rfl
def aar(us:List Value)(m k:Nat):((us.toArray++Array.replicate m undef).getD k undef)=us.getD k undef:=by
 rw[Array.getD_eq_getD_getElem?,List.getD_eq_getElem?_getD];by_cases hk:k<us.length
 ·rw[Array.getElem?_append_left (by simpa using hk)];simp
 ·rw[Array.getElem?_append_right (by simpa using Nat.le_of_not_lt hk)];rw[List.getElem?_eq_none (by omega)];simp only[List.size_toArray,Option.getD_none];by_cases a:k-us.length<m
  ·rw[Array.getElem?_eq_getElem (by simpa using a)];simp
  ·rw[Array.getElem?_eq_none (by simpa using Nat.le_of_not_lt a)];rfl
def aX.getD:∀{xs:List aY}{us:List Value},aX w Z s ι xs us->∀k,aR w Z s ι (xs.getD k .bf) (us.getD k undef)
 | [],us,h,k=>by simp only[List.getD_nil,aR]
 |x::xs,us,h,k=>by
  simp only[aX]at h;obtain⟨b,d,rfl,h1,a⟩:=h
  cases k with
  |zero=>exact h1
  |succ k=>exact aX.getD a k
def aX.len:∀{xs:List aY}{us:List Value},aX w Z s ι xs us->us.length=xs.length
 | [],us,h=>by simp only[aX]at h;rw[h];rfl
 |x::xs,us,h=>by simp only[aX]at h;obtain⟨b,d,rfl,h1,a⟩:=h;simp[aX.len a]
def zN:∀{t:U}{m:a8}{x:t.D}{vs us:List Value}{F:ae},t.al w Z m x vs F->fI (c8 t vs::us)=fI us
 |.int k,_,_,_,_,_,h=>by simp only[U.al]at h;subst h;rfl
 |.bool,_,_,_,_,_,h=>by simp only[U.al]at h;subst h;rfl
 |.str,_,_,_,_,_,h=>by simp only[U.al]at h;obtain⟨b,rfl,_⟩:=h;rfl
 |.raw,_,_,_,_,_,h=>by simp only[U.al]at h;obtain⟨rfl,_,_,_,rfl⟩:=h;rfl
 |.sl t,.O e,_,_,_,_,h=>by simp only[U.al]at h;obtain⟨A,c,rfl,_⟩:=h;rfl
 |.sl t,.R,_,_,_,_,h=>by simp only[U.al]at h;obtain⟨A,c,rfl,_⟩:=h;rfl
 |.sl t,.S _,_,_,_,_,h=>by simp only[U.al]at h;obtain⟨A,c,rfl,_⟩:=h;rfl
 |.st ah,_,_,_,_,_,_=>rfl
def pY{key:Nat}:∀(ps:List bt) (x:(bt.ins ps).D) (e:List Value) (F:ae),fV w Z key ps x e F->e.length=ps.length
 | [],x,e,F,h=>by rw[show e=[] from h];rfl
 |.fn _ _::ps,x,e,F,h=>by obtain⟨a,b,g,rfl,_,d⟩:=h;simp[pY ps x g F d]
 |.val _ _::ps,x,e,F,h=>by obtain⟨v,g,G,H,rfl,_,d,_⟩:=h;simp[pY ps _ _ _ d]
 |.gJ _::ps,x,e,F,h=>by obtain⟨v,g,G,H,rfl,_,d,_⟩:=h;simp[pY ps _ _ _ d]
 |.gu _ _::ps,x,e,F,h=>by obtain⟨v,g,G,H,rfl,_,d,_⟩:=h;simp[pY ps _ _ _ d]
 |.ref _::ps,x,e,F,h=>by obtain⟨b,o,v,g,rfl,_,_,_,d⟩:=h;simp[pY ps _ _ _ d]
 |.mut _ _ _::ps,x,e,F,h=>by obtain⟨b,o,v,g,G,H,rfl,_,_,_,d,_⟩:=h;simp[pY ps _ _ _ d]
def aX.split:∀{q:List aY}{l k:List Value},aX w Z s ι q (l++k)->aX w Z s ι (q.take l.length) l/\aX w Z s ι (q.drop l.length) k
 |q,[],k,h=>by simp only[cU,List.take_zero,gV,aX];exact⟨trivial,h⟩
 | [],a::l,k,h=>by simp[aX]at h
 |v::q,a::l,k,h=>by
  simp only[jF,aX]at h;obtain⟨i,j,he,b,k2⟩:=h;injection he with d e
  subst d e;obtain⟨h1,g⟩:=aX.split (q:=q) (l:=l) (k:=k) k2;refine⟨?_,?_⟩
  ·simp only[b2,List.take_succ_cons,aX];exact⟨_,l,rfl,b,h1⟩
  ·simpa only[b2,List.drop_succ_cons]using g
def uB{key:Nat}:∀(ps:List bt) (x:(bt.ins ps).D) (i us:List Value) (F:ae) (q:List aY),zM ps=true->fV w Z key ps x i F->i=us++fI us->aX w Z s ι q i->aX w Z s ι (kR key ps q) us
 | [],x,i,us,F,q,_,h,g,d=>by have h:i=[]:=h;subst h;obtain⟨rfl,_⟩:=List.append_eq_nil_iff.1 g.symm;cases q<;>simp only[kR,aX]
 |.fn kK m0::ps,x,i,us,F,q,j,h,g,d=>by
  obtain⟨a,b,z,rfl,⟨D,hb⟩,n⟩:=h;have hl:=pY _ _ _ _ n;have I:=cG j
  cases us with
  |nil=>cases g
  |cons A us=>
   injection g with p e
   subst p;have E:us=[]:=by have:=congrArg List.length e;simp[fI]at this;exact List.length_eq_zero_iff.1 (by omega)
   subst E;simp only[fI,jH,dn]at e;subst e
   cases q with
   |nil=>simp[aX]at d
   |cons v q=>
    simp only[aX]at d;obtain⟨B,C,he,_,k2⟩:=d;injection he with r u
    subst r u;obtain⟨k3,aZ⟩:=aX.split (l:=a.toList) (k:=b.toList) k2;simp only[kR,aX,aR];rw[lu,D]at k3 aZ;exact⟨_,[],rfl,⟨a.toList,b.toList,by simp,k3,aZ⟩,rfl⟩
 |.val t m::ps,x,i,us,F,q,j,h,g,d=>by
  obtain⟨vs,z,G,H,rfl,h1,n,_⟩:=h
  cases us with
  |nil=>cases g
  |cons A us=>
   injection g with p e
   subst p;rw[zN h1]at e
   cases q with
   |nil=>simp[aX]at d
   |cons v q=>
    simp only[aX]at d;obtain⟨B,C,he,y,k2⟩:=d;injection he with r u
    subst r u;simp only[kR,aX];exact⟨_,us,rfl,y,uB ps x.2 _ us _ q j n e k2⟩
 |.gJ t::ps,x,i,us,F,q,j,h,g,d=>by
  obtain⟨vs,z,G,H,rfl,h1,n,_⟩:=h
  cases us with
  |nil=>cases g
  |cons A us=>
   injection g with p e
   subst p;rw[zN h1]at e
   cases q with
   |nil=>simp[aX]at d
   |cons v q=>
    simp only[aX]at d;obtain⟨B,C,he,y,k2⟩:=d;injection he with r u
    subst r u;simp only[kR,aX];exact⟨_,us,rfl,y,uB ps x.2 _ us _ q j n e k2⟩
 |.gu t m::ps,x,i,us,F,q,j,h,g,d=>by
  obtain⟨vs,z,G,H,rfl,h1,n,_⟩:=h
  cases us with
  |nil=>cases g
  |cons A us=>
   injection g with p e
   subst p;rw[zN h1]at e
   cases q with
   |nil=>simp[aX]at d
   |cons v q=>
    simp only[aX]at d;obtain⟨B,C,he,y,k2⟩:=d;injection he with r u
    subst r u;simp only[kR,aX];exact⟨_,us,rfl,y,uB ps x.2 _ us _ q j n e k2⟩
 |.ref t::ps,x,i,us,F,q,j,h,g,d=>by
  obtain⟨b,o,vs,z,rfl,_,_,_,n⟩:=h
  cases us with
  |nil=>cases g
  |cons A us=>
   injection g with p e
   subst p;have e:z=us++fI us:=e
   cases q with
   |nil=>simp[aX]at d
   |cons v q=>
    simp only[aX]at d;obtain⟨B,C,he,y,k2⟩:=d;injection he with r u
    subst r u;simp only[kR,aX];exact⟨_,us,rfl,y,uB ps x.2 _ us _ q j n e k2⟩
 |.mut t m m'::ps,x,i,us,F,q,j,h,g,d=>by
  obtain⟨b,o,vs,z,G,H,rfl,_,_,_,n,_⟩:=h
  cases us with
  |nil=>cases g
  |cons A us=>
   injection g with p e
   subst p;have e:z=us++fI us:=e
   cases q with
   |nil=>simp[aX]at d
   |cons v q=>
    simp only[aX]at d;obtain⟨B,C,he,y,k2⟩:=d;injection he with r u
    subst r u;simp only[kR,aX];exact⟨_,us,rfl,y,uB ps x.2 _ us _ q j n e k2⟩
def aas{f key:Nat}{fn:Func}{body:Code}{e:Entry}{z:Nat->Option gH}(A:iI P E)(g:P.funcs[f]?=some fn)(hb:fn.body=some body)(J:(fn.name == "runtime.NumGoroutine")=false)
  (hn:Nat.beq E.n fn.ntmps=true) (K:zM e.ps=true) (hlen:Nat.ble e.ps.length fn.ntmps=true) (L:H0 body=true)
  (M:∀x r,e.f x=some r->∃m,wH E fn body z key e (pX E z body (rF E fn e) m) x=some r):Sound P f key e:=by
 refine⟨⟨fn,g,by rw[hb];rfl,J⟩,fun w Z F x us r N Q T u U=>?_⟩;obtain⟨m,hm⟩:=M x r U;unfold wH at hm;obtain⟨st,l,hm⟩:=a6 hm;unfold Qb at l;obtain⟨q,V,l⟩:=a6 l;obtain rfl:=aS l;have W:=pY _ _ _ _ u;rw[bZ]at W;have hle:=fc hlen
 let d:Act:={ tmps:=us.toArray++Array.replicate (fn.ntmps-us.toArray.size) undef,defers:=[] }
 have B:d.tmps.size=fn.ntmps:=by simp[d];omega
 have X:Inv w F Z ⟨fn.ntmps,[],[]⟩ ⟨fun _=>.bf,fun _=>.none,[]⟩ d w (fun _=>⟨none,0,ae.none⟩) Z:=Inv.start N B rfl;obtain⟨j,a,held,C,aj⟩:=rA e.ps x (us++fI us) _ _ _ F q V X u ⟨fun b o h=>⟨.inl h,Q b o h⟩,fun _ h=>h.elim,T⟩
 have hinv:Inv w F Z ⟨fn.ntmps,us++fI us,[]⟩ ⟨fun k=>(kR key e.ps q.1).getD k .bf,q.2.1.o,q.1⟩ d w j Z:=by
  have hm:d_ w Z q.2.1 j w Z ⟨fun k=>(kR key e.ps q.1).getD k .bf,q.2.1.o,q.1⟩ j:=Hd rfl
  exact⟨a.ext,a.dt,a.pK,a.hK,fun id=>gd.move hm (id:=id) (fun _=>⟨rfl,rfl⟩) rfl (a.eU id),a.own,a.apart,a.cB,
   fun k=>by
    show aR w Z _ j ((kR key e.ps q.1).getD k .bf) ((us.toArray++Array.replicate (fn.ntmps-us.toArray.size) undef).getD k undef);rw[aar]
    exact(aX.move hm (uB e.ps x _ us F q.1 K u rfl C)).getD k,B,aX.move hm C,fun e he=>by simp at he,rfl⟩
 intro cs
 let v:Frame:={ (default:Frame)with fn:=f,kind:=.normal }
 have Y:Frame.enter P f us.toArray .normal=v.at d [.code body]:=by simp[Frame.enter,Frame.at,g,hb,v,d]
 obtain⟨ak,b0,w',⟨ab,an,p,a',Z',i⟩,D⟩:=Qc (n:=⟨fn.ntmps,us++fI us,[]⟩) A (cG hn) rfl L m 100000 false [.code body] _ d w (fun _ h=>h) hm ⟨j,Z,hinv⟩ v cs;unfold rF at p;obtain⟨vs,ac,p⟩:=a6 p;obtain⟨dg,ad,G⟩:=aaq A.ty i ac;obtain⟨al,af,bK,s,eA,H,ah,ao⟩:=uz e.rs vs dg an Z' r p i i.ghost ad
 have I:Ends w Z F e us r (mm dg) w':=by
  refine⟨dg,bK,af,rfl,i.ext,s.pK,fun b o y=>?_,fun b o g=>?_,H.cB,ah⟩
  ·rcases s.dt b o y with h1|h1|h1
   ·exact .inl h1
   ·exact .inr ⟨.inl h1,s.hK b o y⟩
   ·exact .inr ⟨.inr h1,s.hK b o y⟩
  ·exact H.own b o g
 rw[Y];rcases ab with rfl|⟨k,rfl⟩
 ·exact⟨.returned (mm dg),w',_,⟨_,rfl,I⟩,Steps.trans D (.one step_end),rfl,rfl,i.defers,rfl,fn,g,G⟩
 ·exact⟨.returned (mm dg),w',_,⟨_,rfl,I⟩,Steps.trans D (.one step_ret),rfl,rfl,i.defers,rfl,fn,g,G⟩
end
end Go.LM
namespace Go.LM
mutual
def U.pZ(P:Program):U->TypeId->Bool
 |.int _,_=>true
 |.bool,_=>true
 |.str,_=>true
 |.sl _,_=>false
 |.raw,_=>false
 |.st ah,id=> !P.stoodInHeld id&&match P.underlying id with|some (.struct a)=>ah.zO P a.toList|_=>false
def aw.zO(P:Program):aw->List Field->Bool
 |.nil,_=>true
 |.cons t ah,a=>match a with
  |f::b=>decide (f.name ≠ "_")&&t.pZ P f.type&&ah.zO P b
  | []=>false
end
mutual
def U.deep:U->Nat
 |.st ah=>ah.deep+1
 |_=>1
def aw.deep:aw->Nat
 |.nil=>0
 |.cons t ah=>t.deep+ah.deep
end
section
variable{P:Program}{w:World}{Z:ae}{s:av}{ι:Nat->bz}
def aat{k:IntKind}{cs ds:List a7}{r:Bool×List a7×List a7}(h:(U.int k).cmp cs ds=some r):∃x a y b,cs=.int k x::a/\ds=.int k y::b/\r=(x==y,a,b):=by
 cases cs with
 |nil=>simp[U.cmp]at h
 |cons c a=>cases ds with
  |nil=>cases c<;>simp[U.cmp]at h
  |cons d b=>
   cases c<;>cases d<;>simp only[U.cmp]at h<;>first|(cases h;done)|skip
   rename_i e x k2 y;cases hk:(Nat.beq (df e) (df k)&&Nat.beq (df k2) (df k))
   ·rw[hk]at h;cases h
   rw[hk]at h;simp only[bs]at hk;obtain rfl:=rb (cG hk.1);obtain rfl:=rb (cG hk.2);exact⟨x,a,y,b,rfl,rfl,(aS h).symm⟩
def aau{cs ds:List a7}{r:Bool×List a7×List a7}(h:U.bool.cmp cs ds=some r):∃x a y b,cs=.bool x::a/\ds=.bool y::b/\r=(x==y,a,b):=by
 cases cs with
 |nil=>simp[U.cmp]at h
 |cons c a=>cases ds with
  |nil=>cases c<;>simp[U.cmp]at h
  |cons d b=>
   cases c<;>try (simp[U.cmp]at h;done)
   cases d<;>try (simp[U.cmp]at h;done)
   simp only[U.cmp]at h;exact⟨_,a,_,b,rfl,rfl,(aS h).symm⟩
def aav{cs ds:List a7}{r:Bool×List a7×List a7}(h:U.str.cmp cs ds=some r):∃x a y b,cs=.str x::a/\ds=.str y::b/\r=(bm x y,a,b):=by
 cases cs with
 |nil=>simp[U.cmp]at h
 |cons c a=>cases ds with
  |nil=>cases c<;>simp[U.cmp]at h
  |cons d b=>
   cases c<;>try (simp[U.cmp]at h;done)
   cases d<;>try (simp[U.cmp]at h;done)
   simp only[U.cmp]at h;exact⟨_,a,_,b,rfl,rfl,(aS h).symm⟩
def H9{c c':a7}{a b:List a7}{us vs:List Value}(h1:bG w Z s ι (c::a) us)(d:bG w Z s ι (c'::b) vs):
  ∃u e v g,us=u::e/\vs=v::g/\cd w Z s ι c u/\cd w Z s ι c' v/\bG w Z s ι a e/\bG w Z s ι b g:=by
 cases us with
 |nil=>exact h1.elim
 |cons u us=>cases vs with
  |nil=>exact d.elim
  |cons v vs=>exact⟨u,us,v,vs,rfl,rfl,h1.1,d.1,h1.2,d.2⟩
mutual
def U.wI:∀(t:U) (id:TypeId) (d:Nat) {cs ds:List a7}{r:Bool×List a7×List a7}{us vs:List Value},t.ok P id->t.pZ P id=true->t.deep<=d->t.cmp cs ds=some r →
  bG w Z s ι cs us->bG w Z s ι ds vs->∃l i m j,us=l++i/\vs=m++j/\l.length=t.size/\m.length=t.size/\bG w Z s ι r.2.1 i/\bG w Z s ι r.2.2 j ∧
   (Op.equalIn d id (c8 t l) (c8 t m)).run P w=.ok r.1 w
 |.int k,id,0,cs,ds,r,us,vs,e,hc,aa,h,h1,g=>by simp[U.deep]at aa
 |.int k,id,d+1,cs,ds,r,us,vs,e,hc,aa,h,h1,g=>by simp only[U.ok]at e;obtain⟨x,a,C,b,rfl,rfl,rfl⟩:=aat h;obtain⟨K,i,v,j,rfl,rfl,n,o,p,q⟩:=H9 h1 g;simp only[cd]at n o;subst n o;exact⟨[_],i,[_],j,rfl,rfl,rfl,rfl,p,q,run_equalIn_int w d id _ _ x C e.1⟩
 |.bool,id,0,cs,ds,r,us,vs,e,hc,aa,h,h1,g=>by simp[U.deep]at aa
 |.bool,id,d+1,cs,ds,r,us,vs,e,hc,aa,h,h1,g=>by simp only[U.ok]at e;obtain⟨x,a,C,b,rfl,rfl,rfl⟩:=aau h;obtain⟨K,i,v,j,rfl,rfl,n,o,p,q⟩:=H9 h1 g;simp only[cd]at n o;subst n o;exact⟨[_],i,[_],j,rfl,rfl,rfl,rfl,p,q,run_equalIn_bool w d id x C e.1⟩
 |.str,id,0,cs,ds,r,us,vs,e,hc,aa,h,h1,g=>by simp[U.deep]at aa
 |.str,id,d+1,cs,ds,r,us,vs,e,hc,aa,h,h1,g=>by simp only[U.ok]at e;obtain⟨x,a,C,b,rfl,rfl,rfl⟩:=aav h;obtain⟨K,i,v,j,rfl,rfl,n,o,p,q⟩:=H9 h1 g;obtain⟨T,rfl,rfl⟩:=n;obtain⟨V,rfl,rfl⟩:=o;refine⟨[_],i,[_],j,rfl,rfl,rfl,rfl,p,q,?_⟩;rw[<-Pd];exact run_equalIn_string w d id T V e.1
 |.raw,id,d,cs,ds,r,us,vs,e,hc,aa,h,h1,g=>by simp[U.pZ]at hc
 |.sl t,id,d,cs,ds,r,us,vs,e,hc,aa,h,h1,g=>by simp[U.pZ]at hc
 |.st ah,id,0,cs,ds,r,us,vs,e,hc,aa,h,h1,g=>by simp[U.deep]at aa
 |.st ah,id,d+1,cs,ds,r,us,vs,e,hc,aa,h,h1,g=>by
  simp only[U.ok]at e;obtain⟨_,u,D,W⟩:=e;simp only[U.pZ,bs,eT,D]at hc;simp only[U.deep]at aa;simp only[U.cmp]at h;obtain⟨l,i,m,j,n,o,E,F,p,q,G⟩:=aw.wI ah u.toList 0 d [] [] W hc.2 (by omega) h h1 g rfl rfl;refine⟨l,i,m,j,n,o,E,F,p,q,?_⟩;have L:P.fieldsOf id=u:=by simp[Program.fieldsOf,D]
  show(Op.equalIn (d+1) id (.agg l.toArray) (.agg m.toArray)).run P w=_;rw[run_equalIn_struct w d id l.toArray m.toArray (by rw[L];exact D) hc.1,L];have:=G [] [];simpa using this
def aw.wI:∀(ah:aw) (u:List Field) (off d:Nat) {cs ds:List a7}{r:Bool×List a7×List a7}{us vs:List Value} (pre y:List Value),ah.okF P u off->ah.zO P u=true->ah.deep<=d->ah.cmp cs ds=some r →
  bG w Z s ι cs us->bG w Z s ι ds vs->pre.length=off->y.length=off->∃l i m j,us=l++i/\vs=m++j/\l.length=ah.size/\m.length=ah.size/\bG w Z s ι r.2.1 i/\bG w Z s ι r.2.2 j ∧
   ∀dq z:List Value,(Op.eqFields d (pre++l++dq).toArray (y++m++z).toArray u).run P w=.ok r.1 w
 |.nil,u,off,d,cs,ds,r,us,vs,pre,y,e,hc,aa,h,h1,g,ai,M=>by simp only[aw.okF]at e;subst e;obtain rfl:=aS h;exact⟨[],us,[],vs,rfl,rfl,rfl,rfl,h1,g,fun _ _=>by simp only[Op.eqFields];exact run_pure _ _⟩
 |.cons t ah,u,off,d,cs,ds,r,us,vs,pre,y,e,hc,aa,h,h1,g,ai,M=>by
  simp only[aw.okF]at e;obtain⟨f,X,rfl,Y,H,ab⟩:=e;simp only[aw.zO,bs,ei]at hc;simp only[aw.deep]at aa;simp only[aw.cmp]at h;obtain⟨ac,ad,h⟩:=a6 h;obtain⟨aq,k2,h⟩:=a6 h;obtain rfl:=aS h;obtain⟨A,ar,B,au,rfl,rfl,E,F,p,q,G⟩:=U.wI t f.type d H hc.1.2 (by omega) ad h1 g;obtain⟨I,ae,J,af,rfl,rfl,av,ax,aj,ak,al⟩:=aw.wI ah X (off+t.size) d (pre++A) (y++B) ab hc.2 (by omega) k2 p q (by simp;omega) (by simp;omega);refine⟨A++I,ae,B++J,af,by simp,by simp,by simp[aw.size];omega,by simp[aw.size];omega,aj,ak,fun dq z=>?_⟩;have N:=Hs (P:=P) (w:=w) H (cs:=pre++(A++I)++dq) (k:=off) (by simp;omega);have Q:=Hs (P:=P) (w:=w) H (cs:=y++(B++J)++z) (k:=off) (by simp;omega);have an:((pre++(A++I)++dq).drop off).take t.size=A:=by rw[<-ai,<-E];simp
  have ao:((y++(B++J)++z).drop off).take t.size=B:=by rw[<-M,<-F];simp
  rw[an]at N;rw[ao]at Q;simp only[Op.eqFields];rw[bg hc.1.1,run_bind,Y,N];simp only;rw[run_bind,Q];simp only;rw[run_bind,G];simp only;cases hr:ac.1
  ·simp only[cR,if_true,ma];exact run_pure _ _
  ·simp only[bJ,gq,fT,gI];have:=al dq z;simpa using this
end
def q9(P:Program):List (Nat×U)->List Nat->Bool
 |_,[]=>true
 |tab,k::l=>(match P.underlying k with|some (.struct _)=>true|_=>false) && !P.eqGuardType P.depth k&&(tab.all fun x=> !Nat.beq x.1 k||x.2.pZ P k&&Nat.ble x.2.deep 10000)&&q9 P tab l
def Qe{tab:List (Nat×U)}{k:Nat}:∀{l:List Nat},q9 P tab l=true->k∈l->(∃b,P.underlying k=some (.struct b))/\P.eqGuardType P.depth k=false/\∀T,(k,T)∈tab->T.pZ P k=true/\T.deep<=10000
 |x::l,h,hm=>by
  simp only[q9,bs,eT]at h;rcases List.mem_cons.1 hm with rfl|hm
  ·refine⟨?_,h.1.1.2,fun T d=>?_⟩
   ·have h1:=h.1.1.1;split at h1
    ·rename_i b hk;exact⟨b,hk⟩
    ·cases h1
   ·have a:=List.all_eq_true.1 h.1.2 _ d;rw[Nat.beq_refl]at a;simp only[bJ,Bool.false_or,bs]at a;exact⟨a.1,fc a.2⟩
  ·exact Qe h.2 hm
def aaw{T:U}{k:Nat}(a:T.ok P k)(b:∃d,P.underlying k=some (.struct d))(j:P.eqGuardType P.depth k=false)(hc:T.pZ P k=true)(aa:T.deep<=10000)(op:BinOp)(xo yo:Operand)(w:World)(Z:ae)(s:av)(ι:Nat->bz)
  (cs ds:List a7) (us vs:List Value) (q:Bool) (h1:bG w Z s ι cs us) (l:bG w Z s ι ds vs) (h:T.cmp cs ds=some (q,[],[])):
  (eqGuard op k xo yo (.agg us.toArray) (.agg vs.toArray)).run P w=.ok () w/\(op=.eql->(binOp op k (.agg us.toArray) (.agg vs.toArray)).run P w=.ok (.bool q) w) ∧
   (op=.neq->(binOp op k (.agg us.toArray) (.agg vs.toArray)).run P w=.ok (.bool (!q)) w):=by
 obtain⟨m,g,n,i,rfl,rfl,A,B,o,p,r⟩:=U.wI T k 10000 a hc aa h h1 l;have u:g=[]:=by cases g with|nil=>rfl|cons=>exact o.elim
 have v:i=[]:=by cases i with|nil=>rfl|cons=>exact p.elim
 subst u v
 have y:∃ah,T=.st ah:=by
  obtain⟨d,b⟩:=b
  cases T with
  |st ah=>exact⟨ah,rfl⟩
  |int=>simp only[U.ok]at a;rw[b]at a;cases a.1
  |bool=>simp only[U.ok]at a;rw[b]at a;cases a.1
  |str=>simp only[U.ok]at a;rw[b]at a;cases a.1
  |sl t=>simp only[U.ok]at a;obtain⟨_,e,he,_⟩:=a;rw[b]at he;cases he
  |raw=>simp only[U.ok]at a;obtain⟨_,e,he⟩:=a;rw[b]at he;cases he
 obtain⟨ah,rfl⟩:=y;simp only[dn];have heq:(Op.equal k (.agg m.toArray) (.agg n.toArray)).run P w=.ok q w:=r;refine⟨?_,?_,?_⟩
 ·unfold eqGuard;cases op<;>try rfl
  all_goals
   have z:∀w:World,(program:Sem Program).run P w=.ok P w:=fun _=>rfl
   simp only[bJ,gq,fT,run_bind,z,j,cR,if_true];rfl
 ·rintro rfl
  show(do pure (.bool (<-Op.equal k _ _)):Sem Value).run P w=_;rw[run_bind,heq];rfl
 ·rintro rfl
  show(do pure (.bool (!(<-Op.equal k _ _))):Sem Value).run P w=_;rw[run_bind,heq];rfl
end
end Go.LM
namespace Go.LM
def zeroV:Value->Value->Bool
 |.int k x,.int k' d=>Nat.beq (df k) (df k')&&decide (x=d)
 |.bool a,.bool b=>a==b
 |.string a,.string b=>decide (a.data.toList=b.data.toList)
 |.slice none 0 0,.slice none 0 0=>true
 |_,_=>false
def Qf{u v:Value}(h:zeroV u v=true):u=v:=by
 unfold zeroV at h;split at h
 ·simp only[bs,ei]at h;rw[rb (cG h.1),h.2]
 ·rw[eq_of_beq h]
 ·rename_i a b;have h:=of_decide_eq_true h;obtain⟨⟨a⟩⟩:=a;obtain⟨⟨b⟩⟩:=b;simp only at h;rw[h]
 ·rfl
 ·cases h
def zP:List Value->List Value->Bool
 | [],[]=>true
 |a::us,v::vs=>cond (zeroV a v) (zP us vs) false
 |_,_=>false
def Qg:∀{us vs:List Value},zP us vs=true->us=vs
 | [],[],_=>rfl
 |a::us,v::vs,h=>by
  unfold zP at h;cases h1:zeroV a v
  ·rw[h1]at h;cases h
  ·rw[h1]at h;rw[Qf h1,Qg h]
 | [],_::_,h=>by cases h
 |_::_,[],h=>by cases h
def H_(t:U)(v:Value):Bool:=
 match t,v with
 |.st ah,.agg cs=>zP cs.toList ah.cD
 |.st _,_=>false
 |.sl _,v=>zeroV v (.slice none 0 0)
 |t,v=>zeroV v (t.cD.headD undef)
def aax{t:U}{v:Value}(h:H_ t v=true):v=c8 t t.cD:=by
 cases t with
 |st ah=>
  cases v<;>simp only[H_]at h<;>try (cases h;done)
  rename_i cs;show Value.agg cs=.agg ah.cD.toArray;rw[<-Qg h]
 |_=>exact Qf h
def p0(P:Program)(id:TypeId)(t:U):Bool:=
 match P.info? id with
 |some i=>Nat.beq i.size t.size&&(match i.zero with|some v=>H_ t v|none=>false)&&Nat.ble i.bytes 2048
 |none=>false
def uC{P:Program}{id:TypeId}{t:U}(h:p0 P id t=true):km P id t:=by
 unfold p0 at h
 cases b:P.info? id with
 |none=>rw[b]at h;cases h
 |some i=>
  rw[b]at h;simp only[bs]at h;refine⟨i,b,cG h.1.1,?_,fc h.2⟩;have a:=h.1.2
  cases d:i.zero with
  |none=>rw[d]at a;cases a
  |some v=>rw[d]at a;rw[aax a]
mutual
def U.okB(P:Program):U->TypeId->Bool
 |.int k,id=>(match P.underlying id with|some (.int k')=>Nat.beq (df k') (df k)|_=>false)&&p0 P id (.int k)
 |.bool,id=>(match P.underlying id with|some .bool=>true|_=>false)&&p0 P id .bool
 |.str,id=>(match P.underlying id with|some .string=>true|_=>false)&&p0 P id .str
 |.raw,id=>p0 P id .raw&&match P.underlying id with|some (.slice _)=>true|_=>false
 |.sl t,id=>p0 P id (.sl t)&&match P.underlying id with|some (.slice e)=>t.okB P e|_=>false
 |.st ah,id=>p0 P id (.st ah)&&match P.underlying id with|some (.struct a)=>ah.uD P a.toList 0|_=>false
def aw.uD(P:Program):aw->List Field->Nat->Bool
 |.nil,a,_=>a.isEmpty
 |.cons t ah,a,off=>match a with
  |f::b=>Nat.beq f.offset off&&t.okB P f.type&&ah.uD P b (off+t.size)
  | []=>false
end
mutual
def U.zQ{P:Program}:∀(t:U) (id:TypeId),t.okB P id=true->t.ok P id
 |.int k,id,h=>by
  simp only[U.okB,bs]at h;refine⟨?_,uC h.2⟩;have h1:=h.1;split at h1
  ·rename_i k' hk;rw[hk,rb (cG h1)]
  ·cases h1
 |.bool,id,h=>by
  simp only[U.okB,bs]at h;refine⟨?_,uC h.2⟩;have h1:=h.1;split at h1
  ·rename_i hk;exact hk
  ·cases h1
 |.str,id,h=>by
  simp only[U.okB,bs]at h;refine⟨?_,uC h.2⟩;have h1:=h.1;split at h1
  ·rename_i hk;exact hk
  ·cases h1
 |.raw,id,h=>by
  simp only[U.okB,bs]at h;refine⟨uC h.1,?_⟩;have h1:=h.2;split at h1
  ·rename_i e hk;exact⟨e,hk⟩
  ·cases h1
 |.sl t,id,h=>by
  simp only[U.okB,bs]at h;refine⟨uC h.1,?_⟩;have h1:=h.2;split at h1
  ·rename_i e hk;exact⟨e,hk,U.zQ t e h1⟩
  ·cases h1
 |.st ah,id,h=>by
  simp only[U.okB,bs]at h;refine⟨uC h.1,?_⟩;have h1:=h.2;split at h1
  ·rename_i a hk;exact⟨a,hk,aw.Qh ah _ _ h1⟩
  ·cases h1
def aw.Qh{P:Program}:∀(ah:aw) (a:List Field) (off:Nat),ah.uD P a off=true->ah.okF P a off
 |.nil,a,off,h=>by simp only[aw.uD,List.isEmpty_iff]at h;exact h
 |.cons t ah,a,off,h=>by
  cases a with
  |nil=>simp[aw.uD]at h
  |cons f a=>simp only[aw.uD,bs]at h;exact⟨f,a,rfl,cG h.1.1,U.zQ t _ h.1.2,aw.Qh ah _ _ h.2⟩
end
def uE:List (Nat×U)->Nat->Option U
 | [],_=>none
 |(k,t)::l,i=>cond (Nat.beq k i) (some t) (uE l i)
def q7(P:Program):List (Nat×U)->Bool
 | []=>true
 |(k,t)::l=>t.okB P k&&q7 P l
def H'{P:Program}{i:Nat}{T:U}:∀{l:List (Nat×U)},q7 P l=true->uE l i=some T->T.ok P i
 |(k,t)::l,h,hl=>by
  simp only[q7,bs]at h;unfold uE at hl;cases hb:Nat.beq k i
  ·rw[hb]at hl;exact H' h.2 hl
  ·rw[hb]at hl;obtain rfl:=aS hl;obtain rfl:=cG hb;exact U.zQ _ _ h.1
def rG:List Nat->Nat->Bool
 | [],_=>false
 |k::l,i=>cond (Nat.beq k i) true (rG l i)
def q8(P:Program):List Nat->Bool
 | []=>true
 |k::l=>(match P.underlying k with|some (.pointer _)=>true|_=>false)&&q8 P l
def Qi{P:Program}{i:Nat}:∀{l:List Nat},q8 P l=true->rG l i=true->∃e,P.underlying i=some (.pointer e)
 |k::l,h,hl=>by
  simp only[q8,bs]at h;unfold rG at hl;cases hb:Nat.beq k i
  ·rw[hb]at hl;exact Qi h.2 hl
  ·obtain rfl:=cG hb;have h1:=h.1;split at h1
   ·rename_i e hk;exact⟨e,hk⟩
   ·cases h1
def zR:List (Nat×Entry)->Nat->Nat->Option Entry
 | [],_,_=>none
 |(k,e)::l,f,key=>cond (Nat.blt f 1000000&&Nat.beq k (f+1000000*key)) (some e) (zR l f key)
def p1(P:Program):List (Nat×Entry)->Prop
 | []=>True
 |(k,e)::l=>gR P (k%1000000) (k / 1000000) e/\p1 P l
def Qj{P:Program}{f key:Nat}{e:Entry}:∀{l:List (Nat×Entry)},p1 P l->zR l f key=some e->gR P f key e
 |(k,b)::l,h,hl=>by
  unfold zR at hl;cases hb:(Nat.blt f 1000000&&Nat.beq k (f+1000000*key))
  ·rw[hb]at hl;exact Qj h.2 hl
  ·rw[hb]at hl;obtain rfl:=aS hl;simp only[bs]at hb;have h1:=hb.1;rw[Nat.blt_eq]at h1;obtain rfl:=cG hb.2;have a:=h.1;rw[show(f+1000000*key)%1000000=f by omega,show(f+1000000*key) / 1000000=key by omega]at a;exact a
def Qk(n:Nat)(tab:List (Nat×U))(kF eqs:List Nat)(fns:List (Nat×Entry)):Env:=⟨n,uE tab,rG eqs,rG kF,zR fns⟩
def Ql{i:Nat}:∀{l:List Nat},rG l i=true->i∈l
 |k::l,h=>by
  unfold rG at h;cases hb:Nat.beq k i
  ·rw[hb]at h;exact gS _ (Ql h)
  ·rw[cG hb];exact gT
def Qm{i:Nat}{T:U}:∀{l:List (Nat×U)},uE l i=some T->(i,T)∈l
 |(k,t)::l,hl=>by
  unfold uE at hl;cases hb:Nat.beq k i
  ·rw[hb]at hl;exact gS _ (Qm hl)
  ·rw[hb]at hl;obtain rfl:=aS hl;rw[cG hb];exact gT
def aay{P:Program}{n:Nat}{tab:List (Nat×U)}{kF eqs:List Nat}{fns:List (Nat×Entry)}(ht:q7 P tab=true)(ai:q8 P kF=true)(he:q9 P tab eqs=true)(b:p1 P fns)(hm:P.follows .mixedOrders=true):iI P (Qk n tab kF eqs fns):=by refine⟨⟨fun id T h=>H' ht h,fun id h=>Qi ai h⟩,fun id T h a=>?_,fun f key e h=>Qj b h,hm⟩;obtain⟨h1,d,g⟩:=Qe he (Ql h);obtain⟨i,j⟩:=g T (Qm a);exact aaw (H' ht a) h1 d i j
@[irreducible] def aC:Nat:=18446744073709551616
end Go.LM
namespace Go.LM
open Go.ChangeShapes Go.WideShapes Go.ChangeAt Go.RowKit
open Go.ChangeMaps (open_string shut_string)
mutual
def U.dM:(t:U)->t.D->Prop
 |.int k,x=>(Lit.int k x).wf=true
 |.bool,_=>True
 |.str,x=>x.length<=maxLen
 |.raw,_=>True
 |.sl t,xs=>xs.length<=maxLen/\∀a,a∈xs->t.dM a
 |.st ah,x=>ah.dM x
def aw.dM:(ah:aw)->ah.D->Prop
 |.nil,_=>True
 |.cons t ah,x=>t.dM x.1/\ah.dM x.2
end
mutual
def U.lx:U->Bool
 |.sl t=>Nat.blt 0 t.size&&t.lx
 |.raw=>false
 |.st ah=>ah.lx
 |_=>true
def aw.lx:aw->Bool
 |.nil=>true
 |.cons t ah=>t.lx&&ah.lx
end
def od:(ps:List bt)->(bt.ins ps).D->Prop
 | [],_=>True
 |.fn _ _::l,x=>od l x
 |.val t _::l,x=>t.dM x.1/\od l x.2
 |.gJ t::l,x=>t.dM x.1/\od l x.2
 |.gu t _::l,x=>t.dM x.1/\od l x.2
 |.ref t::l,x=>t.dM x.1/\od l x.2
 |.mut t _ _::l,x=>t.dM x.1/\od l x.2
def Ia:(rs:List cN)->(ah:aw)->(cN.outs rs ah).D->Prop
 | [.val .bool .R],_,r=>r.1=true
 |_,_,_=>False
section
variable{H:Type}{enc:TypeId×Value->H}{P:Program}{w W W':World}{base:Nat}{spare:Nat->Bool}{held:Bool}{fuel:Nat}
def Old(w:World):ae:=fun b _=>b<w.heap.size
def aaz{a:Addr}{v:Value}(h:w.cell? a=some v):a.block<w.heap.size:=by
 rcases ff a.block w.heap.size with h1|h1
 ·exact h1
 ·simp[World.cell?,Array.getElem?_eq_none h1]at h
def Ib{t:U}{id:TypeId}(h:t.ok P id):P.cellsOf id=t.size:=by obtain⟨i,h1,a,_⟩:=h.info;unfold Program.cellsOf;rw[h1];exact a
def Qn{a:Addr}{k:Nat}{cs:List Value}(h:w.cells? base a k=some cs):cs.length=k/\∀i v,cs[i]?=some v->w.cell? (a.add i)=some v:=by
 unfold World.cells? at h;split at h
 ·have hl:cs.length=k:=by
   have:=List.Qo h;simpa using this
  refine⟨hl,fun i v hv=>?_⟩;have b:i<k:=by rw[<-hl];exact(List.getElem?_eq_some_iff.1 hv).1
  have:=j h i (by simpa using b);rw[hv]at this;simpa using this.symm
 ·cases h
where
 List.Qo {α d:Type}{f:α->Option d}:∀{l:List α}{r:List d},l.mapM f=some r->r.length=l.length
  | [],r,h=>by simp at h;subst h;rfl
  |x::l,r,h=>by rw[List.mapM_cons]at h;simp only[Option.bind_eq_bind,Option.bind_eq_some_iff]at h;obtain⟨m,h1,n,g,e⟩:=h;simp only[Option.pure_def,cQ]at e;subst e;simp[List.Qo g]
 j {α d:Type}{f:α->Option d}:∀{l:List α}{r:List d},l.mapM f=some r->∀i (b:i<l.length),r[i]?=f l[i]
  | [],r,h,i,b=>by simp at b
  |x::l,r,h,i,b=>by
   rw[List.mapM_cons]at h;simp only[Option.bind_eq_bind,Option.bind_eq_some_iff]at h;obtain⟨m,h1,n,g,e⟩:=h;simp only[Option.pure_def,cQ]at e;subst e
   cases i with
   |zero=>simp[h1]
   |succ i=>simpa using j g i (by simpa using b)
mutual
def U.read:∀(t:U) (id:TypeId) (fuel:Nat) (cs:List Value) (x:DataW H×List MemPlace),t.ok P id->t.lx=true->DataW.trod enc P w base spare held fuel id cs=some x →
  ∃y:t.D,t.al w (Old w) .R y cs ae.none/\t.dM y
 |.int k,id,fuel,cs,x,b,ai,h=>by obtain⟨n,rfl,_,X⟩:=DataW.trod_int (by simp only[U.ok]at b;exact b.1) h;exact⟨n,by simp only[U.al],X⟩
 |.bool,id,fuel,cs,x,b,ai,h=>by obtain⟨n,rfl,_⟩:=DataW.trod_bool (by simp only[U.ok]at b;exact b.1) h;exact⟨n,by simp only[U.al],trivial⟩
 |.str,id,fuel,cs,x,b,ai,h=>by obtain⟨s,rfl,_,hs⟩:=DataW.trod_string (by simp only[U.ok]at b;exact b.1) h;exact⟨s.data.toList,by simp only[U.al];exact⟨s,rfl,rfl⟩,by simp only[U.dM,lu];exact hs⟩
 |.raw,id,fuel,cs,x,b,ai,h=>by simp[U.lx]at ai
 |.sl t,id,fuel,cs,x,b,ai,h=>by
  simp only[U.ok]at b;obtain⟨_,e,D,M⟩:=b;simp only[U.lx,bs]at ai;have ao:0<t.size:=fc ai.1;rcases DataW.trod_slice D h with⟨rfl,_⟩|⟨a,len,cap,elems,rest,m,_,rfl,_,_,hl,hm,hlen,N,_,_⟩
  ·exact⟨[],by simp only[U.al];exact⟨none,0,rfl,.inl trivial⟩,by simp[U.dM,maxLen]⟩
  ·have E:P.cellsOf e=t.size:=Ib M;rw[E]at N
   have Q:∀i,i<len->∃cs' d,w.cells? base (a.add (i*t.size)) t.size=some cs'/\DataW.trod enc P w base spare held m e cs'=some d:=by
    intro i F;have h1:=N i F;have g:∃d,elems[i]?=some d:=⟨_,List.getElem?_eq_getElem (by omega)⟩
    obtain⟨d,g⟩:=g;rw[g]at h1;obtain⟨cs',p,G⟩:=a6 h1;exact⟨cs',d,p,G⟩
   have Y:=fun(cs':List Value) (d:DataW H×List MemPlace)=>U.read t e m cs' d M ai.2
   have I:0<len->a.spot=none/\a.block<w.heap.size:=by intro hn;obtain⟨cs',d,h1,g⟩:=Q 0 hn;obtain⟨T,J⟩:=Qn h1;have K:=J 0 cs'[0] (List.getElem?_eq_getElem (by omega));simp only[Nat.zero_mul,Addr.add,if_true]at K;exact⟨World.cell?_spot K,aaz K⟩
   have Z:∀(n k:Nat),k+n<=len->∃xs:List t.D,xs.length=n/\Row w (fun y us _=>t.al w (Old w) .R y us ae.none) t.size xs a.block (a.off+k*t.size) ae.none/\(∀y,y∈xs->t.dM y):=by
    intro n
    induction n with
    |zero=>intro k _;exact⟨[],rfl,trivial,by simp⟩
    |succ n ab=>
     intro k hk;obtain⟨cs',d,h1,g⟩:=Q k (by omega);obtain⟨y,p,G⟩:=Y cs' d g;obtain⟨xs,l,q,r⟩:=ab (k+1) (by omega);obtain⟨T,J⟩:=Qn h1;obtain⟨V,aq⟩:=I (by omega);obtain⟨W,B,ar⟩:=a;simp only at V;subst V;refine⟨y::xs,by simp[l],⟨cs',ae.none,ae.none,p,T,?_,?_,fun _ _ h=>h.elim,fun _ _ h=>h,fun _ _ h=>h⟩,?_⟩
     ·intro i v hv;have:=J i v hv;rw[show(⟨W,B,none⟩:Addr)=at_ W B from rfl,n5,n5]at this;exact this
     ·have ac:B+k*t.size+t.size=B +(k+1)*t.size:=by rw[jJ];omega
      simp only;rw[ac];exact q
     ·intro z L;rcases List.mem_cons.1 L with rfl|L
      ·exact G
      ·exact r z L
   obtain⟨xs,l,q,r⟩:=Z len 0 (by omega);refine⟨xs,?_,?_⟩
   ·simp only[U.al];refine⟨some a,cap,by rw[l],?_⟩;by_cases u:xs=[]
    ·exact .inl u
    ·have hn:0<len:=by
      rw[<-l]
      cases xs with
      |nil=>exact absurd rfl u
      |cons=>simp
     exact .inr ⟨a,rfl,(I hn).1,by simpa using q,fun j au=>(I hn).2,by rw[l];exact hl⟩
   ·simp only[U.dM];exact⟨by rw[l];omega,r⟩
 |.st ah,id,fuel,cs,x,b,ai,h=>by
  have E:=Ib b;simp only[U.ok]at b;obtain⟨_,o,D,ad⟩:=b;obtain⟨xs,n,_,_,hl,af,A⟩:=DataW.trod_struct D h;have hlen:cs.length=(U.st ah).size:=by rw[hl,E]
  have:=aw.read ah o.toList 0 n cs ad (by simpa only[U.lx]using ai) (by simpa only[U.size,bE]using hlen) (fun i f C=>by
   have F:i<xs.length:=by rw[af];have:=(List.getElem?_eq_some_iff.1 C).1;simpa using this
   exact⟨xs[i],by rw[A i f (by rw[<-Array.getElem?_toList];exact C),List.getElem?_eq_getElem F]⟩)
  obtain⟨y,h1,g⟩:=this;rw[gV]at h1;exact⟨y,by simp only[U.al];exact h1,by simp only[U.dM];exact g⟩
def aw.read:∀(ah:aw) (o:List Field) (off:Nat) (fuel:Nat) (cs:List Value),ah.okF P o off->ah.lx=true->cs.length=off+ah.size →
  (∀(i:Nat) (f:Field),o[i]?=some f->∃x,DataW.trod enc P w base spare held fuel f.type ((cs.drop f.offset).take (P.cellsOf f.type))=some x)->∃y:ah.D,ah.al w (Old w) .nil y (cs.drop off) ae.none/\ah.dM y
 |.nil,o,off,fuel,cs,b,ai,hl,A=>by simp only[aw.size,cz]at hl;exact⟨(),by simp only[aw.al];rw[gp (by omega)],by simp only[aw.dM]⟩
 |.cons t ah,o,off,fuel,cs,b,ai,hl,A=>by
  simp only[aw.okF]at b;obtain⟨f,aj,rfl,h1,g,p⟩:=b;simp only[aw.lx,bs]at ai;simp only[aw.size]at hl;obtain⟨x,u⟩:=A 0 f rfl;rw[h1,Ib g]at u;obtain⟨y,l,ak⟩:=U.read t f.type fuel _ x g ai.1 u;obtain⟨al,q,r⟩:=aw.read ah aj (off+t.size) fuel cs p ai.2 (by omega) fun i an C=>A (i+1) an (by simpa using C)
  refine⟨(y,al),?_,⟨ak,r⟩⟩;simp only[aw.al];refine⟨_,_,ae.none,ae.none,?_,l,q,fun _ _ h=>h.elim,fun _ _ h=>h,fun _ _ h=>h⟩;rw[<-List.drop_drop,List.take_append_drop]
end
def aaA{t:U}{id:TypeId}{r:Reach}{v:Value}(b:t.ok P id)(hv:Value.okWide P w r base id v):v=c8 t v.cells.toList:=by
 cases t with
 |int k=>obtain⟨n,rfl⟩:=okWide_int (by simp only[U.ok]at b;exact b.1) hv;rfl
 |bool=>obtain⟨n,rfl⟩:=okWide_bool (by simp only[U.ok]at b;exact b.1) hv;rfl
 |str=>obtain⟨n,rfl⟩:=okWide_string (by simp only[U.ok]at b;exact b.1) hv;rfl
 |sl t=>simp only[U.ok]at b;obtain⟨_,e,d,_⟩:=b;obtain⟨a,l,c,rfl⟩:=okWide_slice d hv;rfl
 |raw=>simp only[U.ok]at b;obtain⟨_,e,d⟩:=b;obtain⟨a,l,c,rfl⟩:=okWide_slice d hv;rfl
 |st ah=>simp only[U.ok]at b;obtain⟨_,g,d,_⟩:=b;simp only[Value.okWide,d]at hv;obtain⟨cs,rfl,_⟩:=hv;simp[c8,Value.cells]
def wJ:List (Nat×U)->List bt
 | []=>[]
 |a::l=>.val a.2 .R::wJ l
def rH(P:Program):List (Nat×U)->Bool
 | []=>true
 |a::l=>a.2.okB P a.1&&a.2.lx&&P.readableRec a.1&&Nat.blt a.1 P.types.size&&rH P l
def Qp{r:Reach}{l:Nat}:∀(as:List (Nat×U)) (vs:List Value) (ds:List (DataW H)) (p:List MemPlace),rH P as=true →
  DataW.TrodAll enc P w 0 (fun _=>true) true (as.map (·.1)) vs ds p->(∀(j:Nat) t v,(as.map (·.1))[j]?=some t->vs[j]?=some v->Value.okWide P w r l t v) →
  ∃x:(bt.ins (wJ as)).D,fV w (Old w) 0 (wJ as) x vs ae.none/\od (wJ as) x/\fI vs=[]
 | [],vs,ds,p,b,h,hv=>by obtain⟨rfl,_,_⟩:=trodAll_nil h;exact⟨(),rfl,trivial,rfl⟩
 |a::as,vs,ds,p,b,h,hv=>by
  simp only[rH,bs]at b;obtain⟨v,e,d,m,D,n,rfl,rfl,rfl,h1,o⟩:=trodAll_cons (by simpa using h);obtain⟨x,q,s,u⟩:=Qp as e m n b.2 o fun j t y z A=>hv (j+1) t y (by simpa using z) (by simpa using A)
  have g:=U.zQ _ _ b.1.1.1.1;obtain⟨fuel,B⟩:=h1;obtain⟨C,i,k2⟩:=U.read a.2 a.1 fuel _ _ g b.1.1.1.2 B;have k:=aaA g (hv 0 a.1 v rfl rfl);refine⟨(C,x),⟨v.cells.toList,e,ae.none,ae.none,by rw[<-k],i,q,fun _ _ h=>h.elim,fun _ _ h=>h,fun _ _ h=>h⟩,⟨k2,s⟩,?_⟩;rw[k,zN i];exact u
def aaB{w w':World}(h:Ext w w' ae.none):Below w.heap.size w w':=by
 refine⟨h.os,h.tape,h.output,h.size,fun b hb=>?_⟩;rcases h.block b hb with h1|⟨c,c',e,f,h1,a,d,g⟩
 ·exact h1
 ·rw[h1,a];have:c'=c:=by apply Array.ext d;intro i j k;have:=g i (fun h=>h.elim);rw[Array.getElem?_eq_getElem j,Array.getElem?_eq_getElem k]at this;exact aS this
  rw[this]
def Qq(hl:laidOutB P=true):∀(as:List (Nat×U)) (vs:List Value) (ds:List (DataW H)) (p:List MemPlace),rH P as=true →
  DataW.TrodAll enc P W 0 (fun _=>true) true (as.map (·.1)) vs ds p->Below W.heap.size W W'->DataW.TrodAll enc P W' 0 (fun b=>decide (b<W.heap.size)) true (as.map (·.1)) vs ds p
 | [],vs,ds,p,e,h,hb=>by obtain⟨rfl,rfl,rfl⟩:=trodAll_nil h;exact trodAll_mk0
 |a::as,vs,ds,p,e,h,hb=>by
  simp only[rH,bs]at e;obtain⟨v,g,d,i,j,k,rfl,rfl,rfl,h1,l⟩:=trodAll_cons (by simpa using h);have n:∀x∈j,x.block<W.heap.size:=by obtain⟨m,hm⟩:=h1;exact DataW.trod_lt m _ _ _ hm
  exact trodAll_cons_mk (Below.trod hl e.1.1.2 (fc e.1.2) h1 hb n) (Qq hl as g i k e.2 l hb)
def aaC{f:Nat}{fn:Func}{e:Entry}{prs:List (Nat×U)}{r:Reach}{n:Nat}{args:Array Value}{ds:List (DataW H)}{p:List MemPlace}(o:Sound P f 0 e)(i:e.ps=wJ prs)
  (d:fn.params.toList=prs.map (·.1)) (k:rH P prs=true) (q:laidOutB P=true) (hc:∀x:(bt.ins e.ps).D,od e.ps x->∃y,e.f x=some y/\Ia e.rs (bt.dP e.ps) y)
  (s:∀(j:Nat) t v,fn.params[j]?=some t->args[j]?=some v->Value.okWide P W r n t v)
  (g:DataW.TrodAll enc P W 0 (fun _=>true) true fn.params.toList args.toList ds p):
  Calls P f args W fun end_ W'=>end_=.returned (.bool true)/\Below W.heap.size W W'/\DataW.TrodAll enc P W' 0 (fun b=>decide (b<W.heap.size)) true fn.params.toList args.toList ds p:=by
 obtain⟨ps,rs,c⟩:=e;simp only at i;subst i;rw[d]at g;obtain⟨x,h1,u,w⟩:=Qp prs args.toList ds p k g fun j t v z hv=>s j t v (by rw[<-Array.getElem?_toList,d];exact z) (by rw[<-Array.getElem?_toList];exact hv)
 obtain⟨y,A,ht⟩:=hc x u;have l:=o.calls W (Old W) ae.none x args.toList y (fun _ _ h=>h) (fun _ _ h=>h.elim) (fun _ _ h=>h.elim) (by rw[w,dn];exact h1) A;have B:args.toList.toArray=args:=by simp
 rw[B]at l;refine Calls.mono l ?_
 rintro end_ w' ⟨v,rfl,C⟩
 obtain⟨dg,Z',F',rfl,D,_,_,_,_,a⟩:=C.out;have hb:=aaB D;refine⟨?_,hb,by rw[d];exact Qq q prs _ _ _ k g hb⟩
 have E:∀(rs:List cN) (ah:aw) (ps:List bt) (us:List Value) (F:ah=bt.dP ps) (y:(cN.outs rs (bt.dP ps)).D),Ia rs (bt.dP ps) y->∀F',gW w' Z' ps us rs y dg F'->mm dg=.bool true:=by
  intro rs ah ps us F y ht F' a
  match rs,y,ht,a with
  | [.val .bool .R],y,ht,a=>obtain⟨vs,I,G,J,rfl,m,k2,_⟩:=a;obtain⟨rfl,_⟩:=k2;simp only[U.al]at m;subst m;have ht:y.1=true:=ht;rw[ht];rfl
 exact congrArg _ (E rs _ _ _ rfl y ht _ a)
end
end Go.LM
namespace Go.LM
def cj{x:Int}(h : -9223372036854775808<=x)(a:x<=9223372036854775807):aj x=x:=by
 show(if(true&&decide (x%18446744073709551616>=9223372036854775808))=true then x%18446744073709551616-18446744073709551616 else x%18446744073709551616)=x;by_cases hc:x%18446744073709551616>=9223372036854775808
 ·rw[bg (by simp[hc])];omega
 ·rw[bd (by simp[hc])];omega
def aU{n i:Nat}(h:i<n):ax n (i:Int)=some i:=by unfold ax;rw[bg ⟨by omega,by omega⟩];simp
def nW{t:U}{xs:List t.D}{i:Nat}(h:i<xs.length):I t xs i=xs[i]:=by unfold I;rw[List.getD_eq_getElem?_getD,List.getElem?_eq_getElem h];rfl
def rI{t:U}{xs:List t.D}{i:Nat}{y:t.D}(h:i<xs.length):I t (xs.set i y) i=y:=by rw[nW (by simpa using h)];simp
def wK{n:Nat}(h:n<=68719476736):room n=true:=Nat.ble_eq_true_of_le h
def iC{n lo a:Nat}(h:lo<=a)(b:a<=n):cZ n (lo:Int) (a:Int)=some (lo,a):=by unfold cZ;rw[bg ⟨by omega,by omega,by omega⟩];simp
def zS{α:Type}(a:Option α):both a a=a:=by unfold both;rw[bg rfl]
def m7{α:Type}(a:Option α):dup a=a:=zS a
def fD(s:List UInt8):bm s s=true:=by simp[bm]
end Go.LM
namespace Go.LM
structure jV(P:Program) where
 tab:List (Nat×U)
 kF:List Nat
 eqs:List Nat
 ht:q7 P tab=true
 ai:q8 P kF=true
 he:q9 P tab eqs=true
 hm:P.follows .mixedOrders=true
noncomputable def oe(fn:Func):Code:=match fn.body with
 |some c=>c
 |none=>.skip
noncomputable def uF(fn:Func)(ps:List bt):Bool:=
 fn.body.isSome && !(fn.name == "runtime.NumGoroutine")&&zM ps&&Nat.ble ps.length fn.ntmps&&H0 (oe fn)
def p2:List (Nat×gH)->Nat->Option gH
 | [],_=>none
 |(k,t)::l,r=>cond (Nat.beq r k) (some t) (p2 l r)
section
variable{P:Program}
def jV.env(B:jV P)(fn:Func)(fns:List (Nat×Entry)):Env:=Qk fn.ntmps B.tab B.kF B.eqs fns
noncomputable def jV.start(B:jV P)(fn:Func)(fns:List (Nat×Entry))(T:List (Nat×gH))(e:Entry)(k:Nat->av->Option (cN.outs e.rs (bt.dP e.ps)).D)(x:(bt.ins e.ps).D):Option (cN.outs e.rs (bt.dP e.ps)).D:=
 wH (B.env fn fns) fn (oe fn) (p2 T) 0 e k x
noncomputable def jV.zT(B:jV P)(key:Nat)(fn:Func)(fns:List (Nat×Entry))(T:List (Nat×gH))(e:Entry)(k:Nat->av->Option (cN.outs e.rs (bt.dP e.ps)).D)(x:(bt.ins e.ps).D):Option (cN.outs e.rs (bt.dP e.ps)).D:=
 wH (B.env fn fns) fn (oe fn) (p2 T) key e k x
noncomputable def jV.step(B:jV P)(fn:Func)(fns:List (Nat×Entry))(T:List (Nat×gH))(e:Entry)(k:Nat->av->Option (cN.outs e.rs (bt.dP e.ps)).D):Nat->av->Option (cN.outs e.rs (bt.dP e.ps)).D:=
 H7 (B.env fn fns) (p2 T) (oe fn) (rF (B.env fn fns) fn e) k
def dF{K:Type}(s:K->K)(z:K):Nat->K
 |0=>z
 |m+1=>s (dF s z m)
def Qr(B:jV P)(key:Nat){f:Nat}{fn:Func}{e:Entry}{fns:List (Nat×Entry)}(hs:p1 P fns)(a:P.funcs[f]?=some fn)(hc:uF fn e.ps=true)(T:List (Nat×gH))
  (b:∀x r,e.f x=some r->∃m,wH (B.env fn fns) fn (oe fn) (p2 T) key e (pX (B.env fn fns) (p2 T) (oe fn) (rF (B.env fn fns) fn e) m) x=some r):Sound P f key e:=by
 unfold uF at hc;simp only[bs,eT]at hc;obtain⟨⟨⟨⟨h1,d⟩,g⟩,h⟩,i⟩:=hc;refine aas (aay (n:=fn.ntmps) (fns:=fns) B.ht B.ai B.he hs B.hm) a ?_ d (Nat.beq_refl _) g h i b;unfold oe
 cases hb:fn.body with
 |none=>rw[hb]at h1;cases h1
 |some c=>rfl
def aaD(B:jV P)(key:Nat){f:Nat}{fn:Func}{e:Entry}{fns:List (Nat×Entry)}(hs:p1 P fns)(a:P.funcs[f]?=some fn)(hc:uF fn e.ps=true)
  (h:∀x,B.zT key fn fns [] e (fun _ _=>none) x=e.f x):Sound P f key e:=
 Qr B key hs a hc [] fun x r b=>⟨0,by
  rw[show pX (B.env fn fns) (p2 []) (oe fn) (rF (B.env fn fns) fn e) 0=fun _ _=>none from rfl]
  exact(h x).trans b⟩
def aaE(B:jV P)(key:Nat){f:Nat}{fn:Func}{e:Entry}{fns:List (Nat×Entry)}(hs:p1 P fns)(d:P.funcs[f]?=some fn)(hc:uF fn e.ps=true)(T:List (Nat×gH)){K:Type}
  (of:(Nat->av->Option (cN.outs e.rs (bt.dP e.ps)).D)->K) (step:K->K) (a:Nat->K) (g:K->(bt.ins e.ps).D->Option (cN.outs e.rs (bt.dP e.ps)).D)
  (h:a 0=of fun _ _=>none) (i:∀m,a (m+1)=step (a m)) (he:∀x,e.f x=g (a aC) x)
  (j:∀k x,B.zT key fn fns T e k x=g (of k) x)
  (l:∀k,of (B.step fn fns T e k)=step (of k)):Sound P f key e:=
 Qr B key hs d hc T fun x r b=>⟨aC,by
  have hl:∀m,of (pX (B.env fn fns) (p2 T) (oe fn) (rF (B.env fn fns) fn e) m)=a m:=by
   intro m
   induction m with
   |zero=>exact h.symm
   |succ m n=>rw[i,<-n];exact l _
  rw[he,<-hl aC]at b
  exact(j _ x).trans b⟩
end
@[reducible] def wa(t:U):bt:=.val t t.own
@[reducible] def aD(t:U):bt:=.val t .R
@[reducible] def uG(t:U):bt:=.gJ t
@[reducible] def rJ(t:U):bt:=.gu t t.own
@[reducible] def e4(t:U):bt:=.ref t
@[reducible] def uH(t:U):bt:=.mut t t.own t.own
@[reducible] def ro(t:U):cN:=.val t t.own
@[reducible] def bT(t:U):cN:=.val t .R
def Qs:List (Nat×aY)->Nat->aY
 | []=>fun _=>.bf
 |(d,v)::l=>bF (Qs l) d v
def Qt:List (Nat×b9)->Nat->b9
 | []=>fun _=>.none
 |(d,v)::l=>bF (Qt l) d v
def aW(t:List (Nat×aY))(o:List (Nat×b9))(g:List aY):av:=⟨Qs t,Qt o,g⟩
def aJ(x:Int):aY:=.aP (.int .i64 x)
def hL(x:Bool):aY:=.aP (.bool x)
def dZ(x:List UInt8):aY:=.aP (.str x)
def cq(t:U)(x:List t.D):aY:=.aP (.bq t [] none x)
def aE(c:Nat):aY:=.ptr ⟨c,none,0⟩
def ly(dp:List Nat):List (Nat×Nat):=dp.map fun c=>(c,0)
mutual
def U.rK:(t:U)->a8->List Nat->t.D->Nat->List a7×List (Nat×b9)×Nat
 |.int k,_,_,x,j=>([.int k x],[],j)
 |.bool,_,_,x,j=>([.bool x],[],j)
 |.str,_,_,x,j=>([.str x],[],j)
 |.raw,_,_,x,j=>([.raw x],[],j)
 |.sl t,.O e,_,x,j=>([.aa j none],[(j,.row t e 0 x)],j+1)
 |.sl t,_,dp,x,j=>([.bq t (ly dp) none x],[],j)
 |.st ah,m,dp,x,j=>ah.rK m.parts dp x j
def aw.rK:(ah:aw)->cA->List Nat->ah.D->Nat->List a7×List (Nat×b9)×Nat
 |.nil,_,_,_,j=>([],[],j)
 |.cons t ah,m,dp,x,j=>let r:=t.rK m.aa dp x.1 j;let q:=ah.rK m.dq dp x.2 r.2.2;(r.1++q.1,r.2.1++q.2.1,q.2.2)
end
mutual
def U.rL:(t:U)->a8->List Nat->Nat->List j4×List (Nat×hO)×Nat
 |.sl t,.O e,_,j=>([.aa j],[(j,.row t e)],j+1)
 |.sl t,_,dp,j=>([.bq t dp],[],j)
 |.st ah,m,dp,j=>ah.rL m.parts dp j
 |_,_,_,j=>([.keep],[],j)
def aw.rL:(ah:aw)->cA->List Nat->Nat->List j4×List (Nat×hO)×Nat
 |.nil,_,_,j=>([],[],j)
 |.cons t ah,m,dp,j=>let r:=t.rL m.aa dp j;let q:=ah.rL m.dq dp r.2.2;(r.1++q.1,r.2.1++q.2.1,q.2.2)
end
def aI(c:Nat)(t:U)(m:a8)(dp:List Nat)(x:t.D):List (Nat×b9):=let r:=t.rK m dp x (c+1);(c,.var 0 r.1)::r.2.1
def aH(c:Nat)(t:U)(m:a8)(dp:List Nat):List (Nat×hO):=let r:=t.rL m dp (c+1);(c,.var r.1)::r.2.1
def aP(t:U)(m:a8)(dp:List Nat)(x:t.D)(j:Nat):List a7:=(t.rK m dp x j).1
def m8(t:U)(m:a8)(dp:List Nat)(j:Nat):List j4:=(t.rL m dp j).1
def Ic(t:U)(m:a8)(x:t.D)(j:Nat):List (Nat×b9):=(t.rK m [] x j).2.1
def Ie(t:U)(m:a8)(j:Nat):List (Nat×hO):=(t.rL m [] j).2.1
@[reducible] def az:ig:=.cell .keep
end Go.LM
namespace Go.LM
def Qu{P:Program}{f key:Nat}{e:Entry}(b:∀x,e.f x=none):gR P f key e:=
 ⟨fun w Z F x us r _ _ _ _ a=>by rw[b x]at a;cases a⟩
def aaF{w:World}{Z F:ae}{e:Entry}{us:List Value}{k:IntKind}{x:Int}(a:e.rs=[.val (.int k) .R])(hm:bt.dP e.ps=.nil)(d:∀b o,Z b o->b<w.heap.size)(g:∀b o,F b o->b<w.heap.size)(i:ae.apart F Z)
  (r:(cN.outs e.rs (bt.dP e.ps)).D) (hr:∀G,gW w Z e.ps (us++fI us) e.rs r [.int k x] G):Ends w Z F e us r (.int k x) w:=
 ⟨[.int k x],Z,ae.none,rfl,Ext.refl _ _,fun _ _ h=>h,fun _ _ h=>.inl h,fun _ _ h=>h.elim,fun _ _ h=>h.elim,hr _⟩
def zU(g:List UInt8->UInt8->Int):Entry:=⟨[aD .str,aD (.int .u8)],[bT (.int .i64)],fun x=>some (g x.1 x.2.1.toNat.toUInt8,())⟩
def Qv{P:Program}{f:FuncId}{fn:Func}{x:Array Value->Sem Value}(g:List UInt8->UInt8->Int)(l:P.funcs[f]?=some fn)(m:(fn.name == "runtime.NumGoroutine")=false)
  (hb:fn.body.isNone=true) (hn:Extern.findNext fn=none) (he:Extern.find fn=some x)
  (n:∀(s:ByteArray) (c:Int) (w:World),(x #[.string s,.int .u8 c]).run P w=.ok (.int .i64 (g s.data.toList c.toNat.toUInt8)) w):gR P f 0 (zU g):=by
 refine⟨fun w Z F a us r o p q u v=>?_⟩;obtain rfl:=aS v;obtain⟨C,D,E,H,b,k,h1,_⟩:=u;obtain⟨I,y,J,K,z,k2,i,_⟩:=h1;simp only[U.al]at k k2;obtain⟨s,rfl,hs⟩:=k;subst k2;have i:y=[]:=i;subst i;subst z
 have A:us=[.string s,.int .u8 a.2.1]:=by
  cases us with
  |nil=>cases b
  |cons L us=>
   cases us with
   |nil=>
    simp only[jF,jH]at b;injection b with j d
    subst j;cases d
   |cons M us=>
    simp only[jF]at b;injection b with j d
    injection d with d B
    subst j d;have:us=[]:=(List.append_eq_nil_iff.1 B).1;subst this;rfl
 subst A;refine .inr ⟨.int .i64 (g s.data.toList a.2.1.toNat.toUInt8),w,?_,.int .i64 (g s.data.toList a.2.1.toNat.toUInt8),rfl,?_⟩
 ·rw[run_callFunc_extern l m hb hn he];have:=n s a.2.1 w;rw[show(([Value.string s,Value.int IntKind.u8 a.2.1]:List Value).toArray) = #[.string s,.int .u8 a.2.1] from rfl,this];rfl
 ·rw[hs];refine aaF (e:=zU g) rfl rfl o p q _ fun G=>?_
  refine⟨[_],[],ae.none,ae.none,rfl,?_,?_,fun _ _ h=>h.elim,fun _ _ h=>h.elim,fun _ _ h=>h.elim⟩
  ·simp only[U.al]
  ·exact⟨rfl,_,_,rfl,_,_,rfl,trivial⟩
def aaG{P:Program}{f:FuncId}{fn:Func}(a:P.funcs[f]?=some fn)(b:(fn.name == "runtime.NumGoroutine")=false)
  (hb:fn.body.isNone=true) (hn:Extern.findNext fn=none) (he:Extern.find fn=some Extern.BytealgIndexByte.indexByte):gR P f 0 (zU Lib.indexByte):=
 Qv _ a b hb hn he fun s c w=>Lib.run_indexByteString s c w
def aaH{P:Program}{f:FuncId}{fn:Func}(a:P.funcs[f]?=some fn)(b:(fn.name == "runtime.NumGoroutine")=false)
  (hb:fn.body.isNone=true) (hn:Extern.findNext fn=none) (he:Extern.find fn=some Extern.BytealgCount.count):gR P f 0 (zU fun l c=>(Lib.countByte l c:Int)):=
 Qv _ a b hb hn he fun s c w=>Lib.run_countString s c w
section
variable{P:Program}
def bQ(B:jV P)(key:Nat){f:Nat}{fn:Func}{e:Entry}{fns:List (Nat×Entry)}(hs:p1 P fns)
  (h:(P.funcs[f]?,uF fn e.ps,B.zT key fn fns [] e fun _ _=>none)=(some fn,true,e.f)):Sound P f key e:=
 aaD B key hs (congrArg (·.1) h) (congrArg (·.2.1) h) fun x=>congrFun (congrArg (·.2.2) h) x
def bw(B:jV P)(key:Nat){f:Nat}{fn:Func}{e:Entry}{fns:List (Nat×Entry)}(hs:p1 P fns)(T:List (Nat×gH)){K:Type}
  (of:(Nat->av->Option (cN.outs e.rs (bt.dP e.ps)).D)->K) (step:K->K) (a:Nat->K) (g:K->(bt.ins e.ps).D->Option (cN.outs e.rs (bt.dP e.ps)).D)
  (h:(P.funcs[f]?,uF fn e.ps,a 0,(fun m=>a (m+1)),(fun k=>B.zT key fn fns T e k),fun k=>of (B.step fn fns T e k))=(some fn,true,of (fun _ _=>none),(fun m=>step (a m)),(fun k=>g (of k)),fun k=>step (of k)))
  (he:e.f=g (a aC)):Sound P f key e:=
 aaE B key hs (congrArg (·.1) h) (congrArg (·.2.1) h) T of step a g (congrArg (·.2.2.1) h) (fun m=>congrFun (congrArg (·.2.2.2.1) h) m) (fun x=>congrFun he x)
  (fun k x=>congrFun (congrFun (congrArg (·.2.2.2.2.1) h) k) x) (fun k=>congrFun (congrArg (·.2.2.2.2.2) h) k)
end
end Go.LM
namespace Go.LM
mutual
def U.rw:U->U
 |.sl _=>.raw
 |.st ah=>.st ah.rw
 |.int k=>.int k
 |.bool=>.bool
 |.str=>.str
 |.raw=>.raw
def aw.rw:aw->aw
 |.nil=>.nil
 |.cons t ah=>.cons t.rw ah.rw
end
mutual
def U.rel:(T T':U)->T.D->T'.D->Prop
 |.int _,.int _,x,a=>x=a
 |.bool,.bool,x,a=>x=a
 |.str,.str,x,a=>x=a
 |.sl _,.raw,_,_=>True
 |.raw,.raw,x,a=>x=a
 |.st ah,.st b,x,a=>ah.rel b x a
 |_,_,_,_=>False
def aw.rel:(T T':aw)->T.D->T'.D->Prop
 |.nil,.nil,_,_=>True
 |.cons t ah,.cons d b,x,a=>t.rel d x.1 a.1/\ah.rel b x.2 a.2
 |_,_,_,_=>False
end
mutual
def U.mu:∀t:U,t.rw.size=t.size
 |.int _=>rfl
 |.bool=>rfl
 |.str=>rfl
 |.sl _=>rfl
 |.raw=>rfl
 |.st ah=>by simp only[U.rw,U.size];exact aw.mu ah
def aw.mu:∀t:aw,t.rw.size=t.size
 |.nil=>rfl
 |.cons t ah=>by simp only[aw.rw,aw.size,U.mu t,aw.mu ah]
end
mutual
def U.wL{w:World}{Z:ae}:∀(T:U) (m:a8) {x:T.D}{vs:List Value}{F:ae},T.al w Z m x vs F->∃y:T.rw.D,(∀(w':World) (Z':ae) (m':a8) (F':ae),T.rw.al w' Z' m' y vs F')/\T.rel T.rw x y
 |.int _,_,x,_,_,h=>by simp only[U.al]at h;subst h;exact⟨x,fun _ _ _ _=>by simp only[U.rw,U.al],by simp only[U.rw,U.rel]⟩
 |.bool,_,x,_,_,h=>by simp only[U.al]at h;subst h;exact⟨x,fun _ _ _ _=>by simp only[U.rw,U.al],by simp only[U.rw,U.rel]⟩
 |.str,_,x,_,_,h=>by simp only[U.al]at h;exact⟨x,fun _ _ _ _=>by simp only[U.rw,U.al];exact h,by simp only[U.rw,U.rel]⟩
 |.raw,_,x,_,_,h=>by simp only[U.al]at h;exact⟨x,fun _ _ _ _=>by simp only[U.rw,U.al];exact h,by simp only[U.rw,U.rel]⟩
 |.sl t,m,x,vs,F,h=>by
  have:∃A n c,vs=[.slice A n c]:=by cases m<;>(simp only[U.al]at h;obtain⟨A,c,hv,_⟩:=h;exact⟨A,_,c,hv⟩)
  obtain⟨A,n,c,rfl⟩:=this;exact⟨(.slice A n c:Value),fun _ _ _ _=>by simp only[U.rw,U.al];exact⟨trivial,A,n,c,rfl⟩,by simp only[U.rw,U.rel]⟩
 |.st ah,m,x,vs,F,h=>by simp only[U.al]at h;obtain⟨y,h1,a⟩:=aw.wL ah m.parts h;exact⟨y,fun w' Z' m' F'=>by simp only[U.rw,U.al];exact h1 w' Z' m'.parts F',by simp only[U.rw,U.rel];exact a⟩
def aw.wL{w:World}{Z:ae}:∀(T:aw) (m:cA) {x:T.D}{vs:List Value}{F:ae},T.al w Z m x vs F->∃y:T.rw.D,(∀(w':World) (Z':ae) (m':cA) (F':ae),T.rw.al w' Z' m' y vs F')/\T.rel T.rw x y
 |.nil,_,_,_,_,h=>by simp only[aw.al]at h;exact⟨(),fun _ _ _ _=>by simp only[aw.rw,aw.al];exact h,by simp only[aw.rw,aw.rel]⟩
 |.cons t ah,m,x,vs,F,h=>by simp only[aw.al]at h;obtain⟨us,b,G,H,rfl,h1,a,_⟩:=h;obtain⟨y,d,k2⟩:=U.wL t m.aa h1;obtain⟨z,e,g⟩:=aw.wL ah m.dq a;exact⟨(y,z),fun w' Z' m' F'=>by simp only[aw.rw,aw.al];exact⟨us,b,ae.none,ae.none,rfl,d w' Z' m'.aa _,e w' Z' m'.dq _,fun _ _ h=>h.elim,fun _ _ h=>h.elim,fun _ _ h=>h.elim⟩,by simp only[aw.rw,aw.rel];exact⟨k2,g⟩⟩
end
mutual
def U.wM{w w':World}{Z Z':ae}:∀(T:U) {m m':a8}{y:T.rw.D}{vs:List Value}{F F':ae},T.rw.al w Z m y vs F->T.rw.al w' Z' m' y vs F'
 |.int _,_,_,_,_,_,_,h=>by simp only[U.rw,U.al]at h⊢;exact h
 |.bool,_,_,_,_,_,_,h=>by simp only[U.rw,U.al]at h⊢;exact h
 |.str,_,_,_,_,_,_,h=>by simp only[U.rw,U.al]at h⊢;exact h
 |.sl _,_,_,_,_,_,_,h=>by simp only[U.rw,U.al]at h⊢;exact h
 |.raw,_,_,_,_,_,_,h=>by simp only[U.rw,U.al]at h⊢;exact h
 |.st ah,_,_,_,_,_,_,h=>by simp only[U.rw,U.al]at h⊢;exact aw.wM ah h
def aw.wM{w w':World}{Z Z':ae}:∀(T:aw) {m m':cA}{y:T.rw.D}{vs:List Value}{F F':ae},T.rw.al w Z m y vs F->T.rw.al w' Z' m' y vs F'
 |.nil,_,_,_,_,_,_,h=>by simp only[aw.rw,aw.al]at h⊢;exact h
 |.cons t ah,_,_,_,_,_,_,h=>by simp only[aw.rw,aw.al]at h⊢;obtain⟨a,b,_,_,rfl,h1,d,_⟩:=h;exact⟨a,b,ae.none,ae.none,rfl,U.wM t h1,aw.wM ah d,fun _ _ h=>h.elim,fun _ _ h=>h.elim,fun _ _ h=>h.elim⟩
end
mutual
def U.wN{w w':World}{Z Z':ae}:∀(T:U) {m m':a8}{y:T.rw.D}{us vs:List Value}{F F':ae},T.rw.al w Z m y us F->T.rw.al w' Z' m' y vs F'->us=vs
 |.int _,_,_,_,_,_,_,_,h,k=>by simp only[U.rw,U.al]at h k;rw[h,k]
 |.bool,_,_,_,_,_,_,_,h,k=>by simp only[U.rw,U.al]at h k;rw[h,k]
 |.str,_,_,_,_,_,_,_,h,k=>by
  simp only[U.rw,U.al]at h k;obtain⟨s,rfl,hs⟩:=h;obtain⟨an,rfl,d⟩:=k;have:s=an:=by cases s;cases an;simp only at hs d;congr 1;apply Array.ext';rw[hs,d]
  rw[this]
 |.sl _,_,_,_,_,_,_,_,h,k=>by simp only[U.rw,U.al]at h k;rw[h.1,k.1]
 |.raw,_,_,_,_,_,_,_,h,k=>by simp only[U.rw,U.al]at h k;rw[h.1,k.1]
 |.st ah,_,_,_,_,_,_,_,h,k=>by simp only[U.rw,U.al]at h k;exact aw.wN ah h k
def aw.wN{w w':World}{Z Z':ae}:∀(T:aw) {m m':cA}{y:T.rw.D}{us vs:List Value}{F F':ae},T.rw.al w Z m y us F->T.rw.al w' Z' m' y vs F'->us=vs
 |.nil,_,_,_,_,_,_,_,h,k=>by simp only[aw.rw,aw.al]at h k;rw[h,k]
 |.cons t ah,_,_,_,_,_,_,_,h,k=>by simp only[aw.rw,aw.al]at h k;obtain⟨a,b,_,_,rfl,h1,e,_⟩:=h;obtain⟨b0,i,_,_,rfl,g,k2,_⟩:=k;rw[U.wN t h1 g,aw.wN ah e k2]
end
def gz(w:World)(Z:ae)(T:U)(m:a8):List T.D->List T.rw.D->ae->Prop
 | [],[],_=>True
 |x::xs,d::e,G=>∃vs a b,T.al w Z m x vs a/\T.rw.al w Z .R d vs ae.none/\T.rel T.rw x d/\gz w Z T m xs e b/\ae.apart a b/\ae.sub a G/\ae.sub b G
 |_,_,_=>False
section
variable{w w':World}{Z Z':ae}{T:U}{m:a8}
def gz.len:∀{xs:List T.D}{a:List T.rw.D}{G:ae},gz w Z T m xs a G->a.length=xs.length
 | [],[],_,_=>rfl
 |_::_,_::_,_,⟨_,_,_,_,_,_,h,_⟩=>by simp[gz.len h]
 | [],_::_,_,h=>h.elim
 |_::_,[],_,h=>h.elim
def gz.mono:∀{xs:List T.D}{a:List T.rw.D}{G d:ae},ae.sub G d->gz w Z T m xs a G->gz w Z T m xs a d
 | [],[],_,_,_,_=>trivial
 |_::_,_::_,_,_,hs,⟨vs,e,g,h1,i,j,k,l,n,p⟩=>⟨vs,e,g,h1,i,j,k,l,fun b o h=>hs b o (n b o h),fun b o h=>hs b o (p b o h)⟩
 | [],_::_,_,_,_,h=>h.elim
 |_::_,[],_,_,_,h=>h.elim
def gz.Qw:∀{xs:List T.D}{b o:Nat}{G:ae},Row w (T.al w Z m) T.size xs b o G->∃a,gz w Z T m xs a G/\∀(Z':ae),Row w (T.rw.al w Z' .R) T.rw.size a b o ae.none
 | [],_,_,_,_=>⟨[],trivial,fun _=>trivial⟩
 |x::xs,b,o,G,⟨vs,e,g,h1,i,j,k,l,n,p⟩=>by obtain⟨a,q,k2⟩:=gz.Qw k;obtain⟨r,d,s⟩:=U.wL T m h1;refine⟨r::a,⟨vs,e,g,h1,d _ _ _ _,s,q,l,n,p⟩,fun Z'=>⟨vs,ae.none,ae.none,d _ _ _ _,by rw[i,U.mu],j,?_,fun _ _ h=>h.elim,fun _ _ h=>h.elim,fun _ _ h=>h.elim⟩⟩;have:=k2 Z';rw[U.mu]at this⊢;exact this
def gz.filter{p:T.D->Bool}{p':T.rw.D->Bool}(ai:∀x y,T.rel T.rw x y->p x=p' y):∀{xs:List T.D}{a:List T.rw.D}{G:ae},gz w Z T m xs a G->gz w Z T m (xs.filter p) (a.filter p') G
 | [],[],_,_=>trivial
 |x::xs,y::a,G,⟨vs,g,i,h1,j,b,k,l,n,d⟩=>by
  have e:=gz.filter ai k;rw[gr,gr,ai x y b];cases p' y
  ·exact e.mono d
  ·exact⟨vs,g,i,h1,j,b,e,l,n,d⟩
 | [],_::_,_,h=>h.elim
 |_::_,[],_,h=>h.elim
def gz.same:∀{xs:List T.D}{a:List T.rw.D}{G:ae},bS w w' G->gz w Z T T.own xs a G->gz w' Z' T T.own xs a G
 | [],[],_,_,_=>trivial
 |x::xs,m::a,G,hs,⟨vs,e,g,h1,i,j,k,l,b,d⟩=>by exact⟨vs,e,g,oa T (hs.mono b) h1,U.wM T i,j,gz.same (hs.mono d) k,l,b,d⟩
 | [],_::_,_,_,h=>h.elim
 |_::_,[],_,_,h=>h.elim
def gz.row:∀{xs:List T.D}{a:List T.rw.D}{G:ae}{b o:Nat}{H:ae},gz w Z T m xs a G->Row w (T.rw.al w Z' .R) T.rw.size a b o H->Row w (T.al w Z m) T.size xs b o G
 | [],[],_,_,_,_,_,_=>trivial
 |x::xs,p::a,G,b,o,H,⟨vs,d,e,h1,g,q,i,j,k,l⟩,⟨us,r,s,n,k2,k3,aZ,_⟩=>by have:us=vs:=U.wN T n g;subst this;rw[U.mu]at k2 aZ;exact⟨us,d,e,h1,k2,k3,gz.row i (by rw[U.mu];exact aZ),j,k,l⟩
 | [],_::_,_,_,_,_,h,_=>h.elim
 |_::_,[],_,_,_,_,h,_=>h.elim
def aaI{P:Program}{f:FuncId}{key:FuncId}{T':U}{p:T.D->Int->Bool}{p':T'.D->Int->Bool}(aj:T.rw=T')(ak:∀x y i,T.rel T' x y->p x i=p' y i)
  {fq:(bt.ins [.val (.sl T') (.O .R),.fn 0 1,.ref (.int .i64)]).D->Option (cN.outs [.val (.sl T') (.O .R)] (bt.dP [.val (.sl T') (.O .R),.fn 0 1,.ref (.int .i64)])).D}
  (al:gR P f key ⟨[.val (.sl T') (.O .R),.fn 0 1,.ref (.int .i64)],[.val (.sl T') (.O .R)],fq⟩)
  (an:∀(e:List T'.D) (i:Int),room e.length=true->fq (e,i,())=some (e.filter (fun y=>p' y i),())):
  gR P f key ⟨[.val (.sl T) (.O T.own),.fn 0 1,.ref (.int .i64)],[.val (.sl T) (.O T.own)],fun x=>cond (room x.1.length) (some (x.1.filter (fun y=>p y x.2.1),())) none⟩:=by
 subst aj;refine⟨fun w Z F x us r ao K L aq hr=>?_⟩;obtain⟨xs,i,ar⟩:=x;simp only at hr;cases M:room xs.length
 ·rw[M]at hr;cases hr
 rw[M]at hr;simp only[au]at hr;have hr:=aS hr;obtain⟨vs,av,G,H,aw,C,ax,D,l,z⟩:=aq;simp only[U.al]at C;obtain⟨A,c,rfl,C⟩:=C
 obtain⟨e,g,n,Y,ay,B,q,N⟩:∃(e:List T.rw.D) (g n:ae),gz w Z T T.own xs e g/\(U.sl T.rw).al w Z (.O .R) e [.slice A xs.length c] n/\ae.sub g G/\ae.sub n G/\ae.apart g n:=by
  rcases C with⟨rfl,rfl⟩|⟨a,rfl,hr⟩
  ·exact⟨[],ae.none,ae.none,trivial,by simp only[U.al];exact⟨A,0,rfl,.inl (by simp)⟩,fun _ _ h=>h.elim,fun _ _ h=>h.elim,fun _ _ h=>h.elim⟩
  ·obtain⟨g,az,aA,aB⟩:=hr.row;obtain⟨e,Q,k2⟩:=gz.Qw az;refine⟨e,g,ae.run a.block a.off (c*T.size),Q,?_,aB,?_,?_⟩
   ·simp only[U.al];refine⟨some a,c,by rw[Q.len],.inr ⟨a,rfl,hr.spot,by rw[Q.len];exact hr.cap,?_,?_,ae.none,?_,fun _ _ h=>h,fun _ _ h=>h.elim⟩⟩
    ·rw[U.mu];exact hr.wr
    ·rw[U.mu];exact fun j E=>⟨rfl,by omega,by omega⟩
    ·exact k2 Z
   ·rintro b o ⟨rfl,h1,d⟩
    have:=hr.inF (o-a.off) (by omega);rwa[show a.off +(o-a.off)=o by omega]at this
   ·rintro b o V ⟨rfl,h1,d⟩
    have:=aA (o-a.off) (by omega);rw[show a.off +(o-a.off)=o by omega]at this;exact this V
 have aC:=al.calls w Z (n.or H) (e,i,ar) us (e.filter (fun y=>p' y i),()) ao
  (fun b o h=>h.elim (fun h=>K b o (l b o (q b o h))) fun h=>K b o (z b o h))
  (fun b o h m=>h.elim (fun h=>L b o (l b o (q b o h)) m) fun h=>L b o (z b o h) m)
  ⟨[.slice A xs.length c],av,n,H,aw,ay,ax,fun b o h=>D b o (q b o h),fun _ _ h=>.inl h,fun _ _ h=>.inr h⟩
  (an e i (by rw[Y.len];exact M))
 refine aC.mono ?_
 rintro end_ w' ⟨v,rfl,⟨⟨dg,Z',F',rfl,W,aD,ab,ac,aE,ad⟩⟩⟩
 subst hr;simp only[gW]at ad;obtain⟨aF,aL,aM,aN,rfl,I,⟨rfl,af⟩,_,ah,_⟩:=ad;have s:∀b o,g b o->F b o/\b<w.heap.size:=fun b o h=>⟨l b o (B b o h),K b o (l b o (B b o h))⟩
 have aG:ae.apart g F':=by
  intro b o h1 d;rcases (ac b o d).1 with(k|k)|k
  ·exact N b o h1 k
  ·exact D b o (B b o h1) k
  ·have:=(s b o h1).2;omega
 have aH:bS w w' g:=bS.gw W (fun b o h=>(s b o h).2) (by
  rintro b o h1 (k|k)
  ·exact N b o h1 k
  ·exact D b o (B b o h1) k)
 have J:gz w' Z' T T.own (xs.filter fun y=>p y i) (e.filter fun y=>p' y i) g:=(Y.same aH).filter fun x y h=>ak x y i h
 have X:T.rw.size=T.size:=U.mu T;refine⟨_,rfl,⟨⟨_,Z',F'.or g,rfl,?_,aD,?_,?_,?_,?_⟩⟩⟩
 ·exact W.mono fun b o hb h=>h.elim (fun h=>l b o (q b o h)) fun h=>z b o h
 ·intro b o m;rcases ab b o m with h1|⟨h1,d⟩
  ·exact .inl h1
  ·exact .inr ⟨h1.imp (fun h=>h.elim (fun h=>l b o (q b o h)) fun h=>z b o h) fun h=>h,d⟩
 ·rintro b o (h1|h1)
  ·obtain⟨d,k⟩:=ac b o h1;exact⟨d.imp (fun h=>h.elim (fun h=>l b o (q b o h)) fun h=>z b o h) fun h=>h,k⟩
  ·exact⟨.inl (s b o h1).1,jW (s b o h1).2 W.size⟩
 ·rintro b o (h1|h1) m
  ·exact aE b o h1 m
  ·rcases ab b o m with d|⟨(d|d)|d,_⟩
   ·exact L b o (s b o h1).1 d
   ·exact N b o h1 d
   ·exact D b o (B b o h1) d
   ·have:=(s b o h1).2;omega
 ·simp only[gW];refine⟨aF,[],F'.or g,ae.none,rfl,?_,⟨rfl,by simp only[hC]at af⊢;exact af⟩,fun _ _ _ h=>h.elim,fun _ _ h=>h,fun _ _ h=>h.elim⟩;simp only[U.al]at I⊢;obtain⟨aI,c',rfl,I⟩:=I;refine⟨aI,c',by rw[<-J.len],?_⟩;rcases I with⟨h1,d⟩|⟨b0,aJ,u⟩
  ·refine .inl ⟨lq ?_,d⟩;rw[<-J.len,h1];rfl
  ·obtain⟨aO,aK,_⟩:=u.row;refine .inr ⟨b0,aJ,u.spot,by rw[<-J.len];exact u.cap,by have:=u.wr;rwa[X]at this,?_,g,J.row aK,?_,fun _ _ h=>.inr h⟩
   ·intro j E;exact .inl (ah _ _ (u.inF j (by rw[X];exact E)))
   ·intro j E V;exact aG _ _ V (ah _ _ (u.inF j (by rw[X];exact E)))
end
end Go.LM
