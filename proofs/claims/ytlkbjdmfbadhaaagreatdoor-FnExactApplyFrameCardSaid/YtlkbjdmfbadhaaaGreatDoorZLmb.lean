/- Each operation of the model is what the interpreter says. Conditions: each theorem's own hypotheses. -/
import Derived.Test.YtlkbjdmfbadhaaaGreatDoorZLma
import Derived.Laws.BytesString
import Derived.Laws.Tables
import Derived.Laws.Append
set_option linter.unusedVariables false
set_option linter.defProp false
set_option linter.unusedSimpArgs false
namespace Go.LM
section
variable{P:Program}{Q:Exit->Act->World->Prop}
variable{w0:World}{F0 Z0:ae}{n:cl}{s an:av}{a b0:Act}{w w':World}{ι a':Nat->bz}{Z Z':ae}
def cO(w0:World)(F0 Z0:ae)(n:cl)(s:av)(a:Act)(w:World):Prop:=∃ ι Z,Inv w0 F0 Z0 n s a w ι Z
def Y'(v:Value):aR w Z s ι (GR v) v:=by
 unfold GR;split<;>simp only[aR,cd]
 exact⟨_,rfl,rfl⟩
def ew(h:Inv w0 F0 Z0 n s a w ι Z)(x:Operand):aR w Z s ι (bP s x) (a.eval x):=by
 cases x with
 |tmp t=>exact h.tmps t
 |const v=>exact Y' v
 |func f=>simp only[bP,Act.eval,aR];exact⟨[],[],rfl,by simp only[aX],by simp only[aX]⟩
 |global g=>simp only[bP,aR]
def Hq{E:Env}{t:Nat}{x y:aY}{v:Value}(h:typed E t x=some y)(hv:aR w Z s ι x v):aR w Z s ι y v:=by
 cases x<;>simp only[typed]at h<;>try (obtain rfl:=aS h;exact hv)
 ·simp at h
 ·simp at h
 ·cases ht:E.ty t with
  |none=>rw[ht]at h;simp at h
  |some T=>
   rw[ht]at h;cases T<;>simp at h
   subst h;simp only[aR]at hv⊢;exact hv
def e8{α:Type}{a:Sem α}{f:α->Next}{v:α}(h:a.run P w=.ok v w'):(do pure (f (<-a)):Sem Next).run P w=.ok (f v) w':=by rw[run_bind,h];rfl
def ko{o:Oper}{v:Value}{x:aY}{b:av}(hr:(execOp a.eval o).run P w=.ok (.value v) w')(h:Inv w0 F0 Z0 n b a w' ι Z)(hv:aR w' Z b ι x v)
  (aa:∀k,o.dst=some k->k<n):o.wp P a w (fun b0 w'=>cO w0 F0 Z0 n (b.dst o.dst x) b0 w') Q:=by
 unfold Oper.wp;rw[hr,Oper.upon_value];exact⟨ι,Z,h.dst hv aa⟩
def wp_skip{o:Oper}{b:av}(hr:(execOp a.eval o).run P w=.ok .skip w')(h:Inv w0 F0 Z0 n b a w' ι Z)
  (aa:∀k,o.dst=some k->k<n):o.wp P a w (fun b0 w'=>cO w0 F0 Z0 n (b.dst o.dst .bf) b0 w') Q:=by
 unfold Oper.wp;rw[hr,Oper.upon_skip];exact⟨ι,Z,h.dst (by simp only[aR]) aa⟩
def Pure(P:Program)(o:Oper)(a:Act)(w:World)(R:Act->World->Prop):Prop:=∃v,(∀w',(execOp a.eval o).run P w'=.ok (.value v) w')/\R (a.put o.dst v) w
def Pure.wp{o:Oper}{R:Act->World->Prop}(h:Pure P o a w R):o.wp P a w R Q:=by obtain⟨v,h1,b⟩:=h;unfold Oper.wp;rw[h1 w,Oper.upon_value];exact b
def du{o:Oper}{v:Value}{x:aY}{b:av}(hr:∀w',(execOp a.eval o).run P w'=.ok (.value v) w')(h:Inv w0 F0 Z0 n b a w ι Z)(hv:aR w Z b ι x v)
  (aa:∀k,o.dst=some k->k<n):Pure P o a w (cO w0 F0 Z0 n (b.dst o.dst x)):=
 ⟨v,hr,ι,Z,h.dst hv aa⟩
structure fU(P:Program)(E:Env):Prop where
 ty:∀id T,E.ty id=some T->T.ok P id
 ptr:∀id,E.re id=true->∃e,P.underlying id=some (.pointer e)
variable{E:Env}{o:Oper}{bn:Type}{K:av->Option bn}{r:bn}{id:Nat}
def zj{x:Operand}(h:Inv w0 F0 Z0 n s a w ι Z)(aa:∀k,o.dst=some k->k<n)(b:o.op=.move x\/o.op=.assign x)(hk:cK E id o s K=some r):
  ∃an,K an=some r/\Pure P o a w (cO w0 F0 Z0 n an):=by
 have d:(match typed E o.type (bP s x)with|some v=>K (s.dst o.dst v)|none=>none)=some r:=by rcases b with b|b<;>(unfold cK at hk;rw[b]at hk;exact hk)
 cases ht:typed E o.type (bP s x)with
 |none=>rw[ht]at d;simp at d
 |some v=>rw[ht]at d;refine⟨_,d,du (v:=a.eval x) (fun w'=>?_) h (Hq ht (ew h x)) aa⟩;rcases b with b|b<;>(unfold execOp;rw[b];rfl)
def O2{c x y:Operand}(h:Inv w0 F0 Z0 n s a w ι Z)(aa:∀k,o.dst=some k->k<n)(e:o.op=.pick c x y)(hk:cK E id o s K=some r):
  ∃an,K an=some r/\Pure P o a w (cO w0 F0 Z0 n an):=by
 unfold cK at hk;rw[e]at hk;simp only at hk;have hc:=ew h c;have i:=ew h x;have j:=ew h y;have l:∀t,a.eval c=.bool t->∀w',(execOp a.eval o).run P w'=.ok (.value (if t then a.eval x else a.eval y)) w':=by intro t ht w';unfold execOp;rw[e];simp only[run_bind,asBool,ht,run_pure]
 cases g:bP s c with
 |aP m=>
  rw[g]at hk hc
  cases m with
  |bool t=>
   simp only[aR,cd]at hc;have hr:=l t hc
   cases t with
   |true=>
    cases b:typed E o.type (bP s x)with
    |none=>rw[b]at hk;cases d:typed E o.type (bP s y)<;>rw[d]at hk<;>simp at hk
    |some v=>
     rw[b]at hk;have:K (s.dst o.dst v)=some r:=by cases d:typed E o.type (bP s y)<;>rw[d]at hk<;>exact hk
     exact⟨_,this,du hr h (Hq b i) aa⟩
   |false=>
    cases d:typed E o.type (bP s y)with
    |none=>rw[d]at hk;cases b:typed E o.type (bP s x)<;>rw[b]at hk<;>simp at hk
    |some v=>
     rw[d]at hk;have:K (s.dst o.dst v)=some r:=by cases b:typed E o.type (bP s x)<;>rw[b]at hk<;>exact hk
     exact⟨_,this,du hr h (Hq d j) aa⟩
  |_=>simp at hk
 |_=>rw[g]at hk;simp at hk
def n_{i:Nat}{a:b9}(h:mkObj s i a=some an):s.o i=.none/\an=s.bA i a:=by
 unfold mkObj at h;cases b:s.o i<;>rw[b]at h<;>simp at h
 exact⟨rfl,h.symm⟩
def Za{t:Nat}(d:fU P E)(h:Inv w0 F0 Z0 n s a w ι Z)(aa:∀k,o.dst=some k->k<n)(b:o.op=.alloc t)(hk:cK E id o s K=some r):
  ∃an,K an=some r/\o.wp P a w (cO w0 F0 Z0 n an) Q:=by
 unfold cK at hk;rw[b]at hk;simp only at hk
 cases ht:E.ty t with
 |none=>rw[ht]at hk;simp at hk
 |some T=>
  rw[ht]at hk;simp only at hk
  cases hm:mkObj s id (.var 0 T.iE)with
  |none=>rw[hm]at hk;simp at hk
  |some j=>
   rw[hm]at hk;obtain⟨e,rfl⟩:=n_ hm;have g:=d.ty t T ht;have i:bG w Z s ι T.iE (c8 T T.cD).cells.toList:=by rw[zi (U.kn T) ((pP (w:=w) (Z:=Z) (s:=s) (ι :=ι) T).dD)];exact pP T
   have hn:=h.newVar e i t;refine⟨_,hk,ko (v:=.pointer (some (at_ w.heap.size 0))) (w':={ w with heap:=w.heap.push (.cells (c8 T T.cD).cells t) }) ?_ hn ?_ aa⟩
   ·unfold execOp;rw[b];refine e8 ?_;simp only[Instr.alloc,run_bind,zg g,O1,run_pure]
   ·simp only[aR];refine⟨by show bF s.o id _ id≠_;rw[b6];simp,_,rfl,rfl,?_⟩;show match (bF s.o id _ id).core with|.var _ _=>_|.row .. => _|_=>_
    rw[b6];exact⟨rfl,_,by rw[b6],by simp[at_]⟩
def Zb{t:Nat}{x:Operand}(e:fU P E)(h:Inv w0 F0 Z0 n s a w ι Z)(aa:∀k,o.dst=some k->k<n)(b:o.op=.box t x)(hk:cK E id o s K=some r):
  ∃an,K an=some r/\o.wp P a w (cO w0 F0 Z0 n an) Q:=by
 unfold cK at hk;rw[b]at hk;simp only at hk
 cases ht:E.ty t with
 |none=>rw[ht]at hk;simp at hk
 |some T=>
  rw[ht]at hk;simp only at hk
  cases hc:ib T (bP s x)with
  |none=>rw[hc]at hk;simp at hk
  |some cs=>
   rw[hc]at hk;simp only at hk;cases hb:Nat.beq cs.length T.size
   ·rw[hb]at hk;simp at hk
   rw[hb]at hk;simp only[au]at hk
   cases hm:mkObj s id (.var 0 cs)with
   |none=>rw[hm]at hk;simp at hk
   |some g=>
    rw[hm]at hk;obtain⟨d,rfl⟩:=n_ hm;have hn:=h.newVar d (pO hc (ew h x)) t;refine⟨_,hk,ko (v:=.pointer (some (at_ w.heap.size 0))) (w':={ w with heap:=w.heap.push (.cells (a.eval x).cells t) }) ?_ hn ?_ aa⟩
    ·unfold execOp;rw[b];refine e8 ?_;simp only[Instr.box,run_bind,O1,run_pure]
    ·simp only[aR];refine⟨by show bF s.o id _ id≠_;rw[b6];simp,_,rfl,rfl,?_⟩;show match (bF s.o id _ id).core with|.var _ _=>_|.row .. => _|_=>_
     rw[b6];exact⟨rfl,_,by rw[b6],by simp[at_]⟩
def Zc{t:Nat}{x:Operand}(y:fU P E)(h:Inv w0 F0 Z0 n s a w ι Z)(aa:∀k,o.dst=some k->k<n)(q:o.op=.load t x)(hk:cK E id o s K=some r):
  ∃an,K an=some r/\o.wp P a w (cO w0 F0 Z0 n an) Q:=by
 unfold cK at hk;rw[q]at hk;simp only at hk;have d:=ew h x
 have u:∀{T:U}{b i:Nat}{vs:List Value},E.ty t=some T->a.eval x=.pointer (some (at_ b i))->bV w b i vs->vs.length=T.size →
   (execOp a.eval o).run P w=.ok (.value (c8 T vs)) w:=by
  intro T b i vs ht he hc hl;unfold execOp;rw[q];refine e8 ?_;simp only[Instr.loadAt,Instr.sureAddr,he,run_bind,run_pure,wm (y.ty t T ht) hc hl]
 cases ht:E.ty t with
 |none=>rw[ht]at hk;simp at hk
 |some T=>
  rw[ht]at hk
  cases g:bP s x with
  |ptr p=>
   rw[g]at hk d;simp only at hk
   cases e:(kL s T.size p).bind (iX T)with
   |none=>rw[e]at hk;simp at hk
   |some v=>rw[e]at hk;obtain⟨cs,h1,j⟩:=a6 e;simp only[aR]at d;obtain⟨_,A,he,ai⟩:=d;obtain⟨b,i,vs,rfl,hc,l,hl⟩:=wk h h1 ai;exact⟨_,hk,ko (u ht he l hl) h (ml j hc) aa⟩
  |c2 dp cs off=>
   rw[g]at hk d;simp only at hk
   cases e:(takeN off T.size cs).bind (iX T)with
   |none=>rw[e]at hk;simp at hk
   |some v=>
    rw[e]at hk;simp only at hk;cases m:alive s dp
    ·rw[m]at hk;simp at hk
    rw[m]at hk;obtain⟨z,h1,j⟩:=a6 e;obtain⟨B,rfl⟩:=m5 h1;simp only[aR]at d;obtain⟨_,b,i,vs,he,d⟩:=d;obtain⟨hc,l,_⟩:=d m;have hl:=hc.len;exact⟨_,hk,ko (u ht he (l.part off T.size) (by simp;omega)) h (ml j ((hc.drop _).take _)) aa⟩
  |_=>rw[g]at hk;simp at hk
def Inv.Zd(h:Inv w0 F0 Z0 n s a w ι Z){id:Nat}(e:(s.o id).live)(l:Ext w w' (ι id).F):Inv w0 F0 Z0 n (s.bA id .dead) a w' ι Z:=by
 have hm:d_ w Z s ι w' Z (s.bA id .dead) ι :=by
  refine⟨fun j=>?_,fun _ _ h=>h,bS.gw l h.pN ?_⟩
  ·show gf (s.o j) (ι j) (bF s.o id .dead j) (ι j);by_cases d:id=j
   ·subst d;rw[b6];exact .dead _ _ _
   ·rw[ca d];exact .stay _ _
  ·rintro b o (q|⟨dR,r,u,_,g⟩) m
   ·exact h.cB id e b o m q
   ·have i:dR≠id:=by
     rintro rfl
     have:bF s.o dR .dead dR=s.o dR:=u;rw[b6]at this;rw[<-this]at e;exact e
    exact h.apart dR id r e i b o g m
 have p:∀{j},((s.bA id .dead).o j).live->id≠j/\(s.o j).live:=fun {j} hl=>by
  have hl:(bF s.o id .dead j).live:=hl;by_cases d:id=j
  ·subst d;rw[b6]at hl;exact hl.elim
  ·rw[ca d]at hl;exact⟨d,hl⟩
 refine h.next hm l (fun b o g=>(h.own id e b o g).1) (fun _ _ h=>.inl h) ?_ ?_ (fun k=>(h.tmps k).move hm) h.size h.defers
 ·intro j hl i;exact absurd ⟨ca (p hl).1,rfl⟩ i
 ·intro j hl;exact h.cB j (p hl).2
def Ze{t:Nat}{x y:Operand}(F:fU P E)(h:Inv w0 F0 Z0 n s a w ι Z)(aa:∀k,o.dst=some k->k<n)(m:o.op=.store t x y)(hk:cK E id o s K=some r):
  ∃an,K an=some r/\o.wp P a w (cO w0 F0 Z0 n an) Q:=by
 unfold cK at hk;rw[m]at hk;simp only at hk;have e:=ew h x;have g:=ew h y
 cases ht:E.ty t with
 |none=>rw[ht]at hk;simp at hk
 |some T=>
  rw[ht]at hk
  cases G:bP s x with
  |ptr p=>
   rw[G]at hk e;simp only at hk
   cases hc:ib T (bP s y)with
   |none=>
    rw[hc]at hk;simp only at hk;cases H:bP s y<;>rw[H]at hk<;>try (simp at hk;done)
    rename_i W;cases l:s.o p.id<;>rw[l]at hk<;>try (simp at hk;done)
    rename_i ver old
    cases I:p.eH with
    |some i=>rw[I]at hk;simp at hk
    |none=>
     rw[I]at hk;simp only at hk;cases hb:(U.beq W T&&Nat.beq p.off 0&&Nat.ble T.size old.length)
     ·rw[hb]at hk;simp at hk
     rw[hb]at hk;simp only[au]at hk;simp only[bs]at hb;obtain⟨⟨X,q⟩,J⟩:=hb;have:=U.eq_of_beq _ _ X;subst this;have q:=cG q;have J:=fc J;rw[H]at g;simp only[aR]at e g;obtain⟨_,A,he,ai⟩:=e;obtain⟨u,Y⟩:=g;have ab:(s.o p.id).live:=by rw[l];trivial
     have L:=h.eU p.id;rw[l]at L;obtain⟨d,us,ac,af,ah,aj,M⟩:=L;obtain⟨hs,ai⟩:=ai;rw[l]at ai;obtain⟨_,ak,N,V⟩:=ai;rw[ac]at N;obtain rfl:=aS N;rw[q]at V;subst V;have ad:Ext w (setCells w d.block (d.off+0) (a.eval y).cells.toList) (ι p.id).F:=lp _ _ _ _ fun i z=>by have:=(M i (by rw[u]at z;omega)).2;simpa using this
     refine⟨_,hk,wp_skip (w':=setCells w d.block (d.off+0) (a.eval y).cells.toList) ?_ (h.Zd ab ad) aa⟩;unfold execOp;rw[m];have:=zh (P:=P) (w:=w) (F.ty t _ ht) (b:=d.block) (o:=d.off+0) (v:=a.eval y) (by rw[<-lu,u]) Y (fun j B=>by have:=(M j (by rw[<-lu,u]at B;omega)).1;simpa using this);simp only[Instr.storeAt,Instr.sureAddr,he,run_bind,run_pure,this]
   |some cs=>
    rw[hc]at hk;simp only at hk;cases hb:Nat.beq cs.length T.size
    ·rw[hb]at hk;simp at hk
    rw[hb]at hk;simp only[au]at hk
    cases C:y9 s p cs with
    |none=>rw[C]at hk;simp at hk
    |some al=>rw[C]at hk;have hb:=cG hb;have D:=pO hc g;simp only[aR]at e;obtain⟨_,A,he,ai⟩:=e;obtain⟨b,i,rfl,ae,a',Z',z⟩:=Y_ h C ai D;have hl:=D.len;refine⟨_,hk,wp_skip (w':=setCells w b i (a.eval y).cells.toList) ?_ z aa⟩;unfold execOp;rw[m];have:=zh (P:=P) (w:=w) (F.ty t T ht) (b:=b) (o:=i) (v:=a.eval y) (by simp at hl;omega) D.dD (fun j B=>ae j (by simpa using B));simp only[Instr.storeAt,Instr.sureAddr,he,run_bind,run_pure,this]
  |_=>rw[G]at hk;simp at hk
end
end Go.LM
namespace Go.LM
section
variable{P:Program}{Q:Exit->Act->World->Prop}
variable{w0:World}{F0 Z0:ae}{n:cl}{s an:av}{a b0:Act}{w w':World}{ι a':Nat->bz}{Z Z':ae}
variable{E:Env}{o:Oper}{bn:Type}{K:av->Option bn}{r:bn}{id:Nat}
def uf{m:Nat}{i:Int}{k:Nat}(h:ax m i=some k):0<=i/\i<(m:Int)/\k=i.toNat/\k<m:=by
 unfold ax at h;split at h
 ·rename_i hc;have:=aS h;exact⟨hc.1,hc.2,this.symm,by omega⟩
 ·simp at h
def Zf{m:Nat}{lo a:Int}{q:Nat×Nat}(h:cZ m lo a=some q):0<=lo/\lo<=a/\a<=(m:Int)/\q=(lo.toNat,a.toNat):=by
 unfold cZ at h;split at h
 ·rename_i hc;exact⟨hc.1,hc.2.1,hc.2.2,(aS h).symm⟩
 ·simp at h
def n'{x:aY}{i:Int}{v:Value}(h:iY x=some i)(hv:aR w Z s ι x v):∃k,v=.int k i:=by
 cases x with
 |aP c=>
  cases c<;>simp[iY]at h
  subst h;simp only[aR,cd]at hv;exact⟨_,hv⟩
 |_=>simp[iY]at h
def O3{x:Operand}(h:Inv w0 F0 Z0 n s a w ι Z)(aa:∀k,o.dst=some k->k<n)(e:o.op=.nilCheck x)(hk:cK E id o s K=some r):
  ∃an,K an=some r/\Pure P o a w (cO w0 F0 Z0 n an):=by
 unfold cK at hk;rw[e]at hk;simp only at hk;have d:=ew h x
 cases g:bP s x with
 |ptr p=>rw[g]at hk d;refine⟨_,hk,du (v:=a.eval x) (fun w'=>?_) h d aa⟩;simp only[aR]at d;obtain⟨_,A,he,_⟩:=d;unfold execOp;rw[e];simp only[he];rfl
 |c2 dp cs off=>rw[g]at hk d;refine⟨_,hk,du (v:=a.eval x) (fun w'=>?_) h d aa⟩;simp only[aR]at d;obtain⟨_,b,i,vs,he,_⟩:=d;unfold execOp;rw[e];simp only[he];rfl
 |may b dp cs=>
  rw[g]at hk d;cases b
  ·cases hk
  refine⟨_,hk,du (v:=a.eval x) (fun w'=>?_) h ?_ aa⟩
  ·simp only[aR]at d;rcases d with⟨d,_⟩|⟨_,_,b,i,vs,he,_⟩
   ·cases d
   unfold execOp;rw[e];simp only[he];rfl
  ·simp only[aR]at d⊢;rcases d with⟨d,_⟩|⟨_,d⟩
   ·cases d
   ·exact d
 |fn f l m=>rw[g]at hk d;refine⟨_,hk,du (v:=a.eval x) (fun w'=>?_) h d aa⟩;simp only[aR]at d;obtain⟨us,vs,he,_⟩:=d;unfold execOp;rw[e];simp only[he];rfl
 |opt i q=>
  rw[g]at hk d;simp only at hk;obtain⟨k,h1,hk⟩:=a6 hk;obtain⟨u,y,rfl,z⟩:=uf h1;simp only[aR]at d;obtain⟨j,d⟩:=d;rcases d with⟨d,_⟩|⟨_,A,he,ai⟩
  ·omega
  refine⟨_,hk,du (v:=a.eval x) (fun w'=>?_) h ?_ aa⟩
  ·unfold execOp;rw[e];simp only[he];rfl
  ·simp only[aR];exact⟨j,A,he,ai⟩
 |_=>rw[g]at hk;simp at hk
def aw.zk{P:Program}:∀{ah:aw}{b:List Field}{base i k:Nat}{u:U},ah.okF P b base->ah.off i=some (k,u) →
  ∃f,b[i]?=some f/\f.offset=base+k/\u.ok P f.type
 |.nil,_,_,_,_,_,_,h=>by simp[aw.off]at h
 |.cons t ah,b,base,0,k,u,a,h=>by simp only[aw.okF]at a;obtain⟨f,j,rfl,h1,d,e⟩:=a;simp only[aw.off,cQ,fj]at h;obtain⟨rfl,rfl⟩:=h;exact⟨f,rfl,by simpa using h1,d⟩
 |.cons t ah,b,base,i+1,k,u,a,h=>by simp only[aw.okF]at a;obtain⟨f,j,rfl,h1,d,e⟩:=a;simp only[aw.off]at h;obtain⟨q,l,g⟩:=a6 h;simp only[cQ,fj]at g;obtain⟨rfl,rfl⟩:=g;obtain⟨m,n,k2,k3⟩:=aw.zk e l;exact⟨m,by simpa using n,by omega,k3⟩
def Hr{ah:aw}{id:TypeId}(h:(U.st ah).ok P id):∃a,P.underlying id=some (.struct a)/\ah.okF P a.toList 0:=by simp only[U.ok]at h;exact h.2
def j2{t:U}{id:TypeId}(h:(U.sl t).ok P id):∃e,P.underlying id=some (.slice e)/\t.ok P e:=by simp only[U.ok]at h;exact h.2
def O4{f:Field}{u:U}{b i:Nat}(a:u.ok P f.type)(d:u.size≠0):(fieldPlace (at_ b i) f).run P w=.ok (at_ b (i+f.offset)) w:=by unfold fieldPlace;rw[run_bind,run_sizeOf a];simp only;rw[bd d,run_pure,n5]
def O5{t:Nat}{x:Operand}{i:Nat}(H:fU P E)(h:Inv w0 F0 Z0 n s a w ι Z)(aa:∀k,o.dst=some k->k<n)(C:o.op=.fieldAddr t x i)(hk:cK E id o s K=some r):
  ∃an,K an=some r/\Pure P o a w (cO w0 F0 Z0 n an):=by
 unfold cK at hk;rw[C]at hk;simp only at hk;have l:=ew h x
 cases ht:E.ty t with
 |none=>rw[ht]at hk;simp at hk
 |some T=>
  rw[ht]at hk
  cases T with
  |st ah=>
   obtain⟨Q,I,J⟩:=Hr (H.ty t _ ht)
   have D:∀{k:Nat}{m:U}{b j:Nat},ah.off i=some (k,m)->m.size≠0->a.eval x=.pointer (some (at_ b j))->∀{w':World},
     (execOp a.eval o).run P w'=.ok (.value (.pointer (some (at_ b (j+k))))) w':=by
    intro k m b j d L he w';obtain⟨f,h1,v,u⟩:=aw.zk J d;rw[Array.getElem?_toList]at h1;unfold execOp;rw[C];refine e8 ?_;simp only[Instr.fieldAt,run_bind,run_underlying I,h1,Instr.sureAddr,he,run_pure,O4 u L,v,bE]
   cases y:bP s x with
   |ptr p=>
    rw[y]at hk l;simp only at hk
    cases d:ah.off i with
    |none=>rw[d]at hk;simp at hk
    |some q=>
     obtain⟨k,m⟩:=q;rw[d]at hk;simp only at hk;cases g:Nat.beq m.size 0
     case true=>rw[g]at hk;simp at hk
     rw[g]at hk;simp only[aR]at l;obtain⟨M,A,he,ai⟩:=l;obtain⟨b,j,V⟩:=A;obtain⟨F,ai⟩:=ai;simp only at F;subst F;refine⟨_,hk,du (fun w'=>D d (fun e=>by rw[e]at g;simp at g) he) h ?_ aa⟩;simp only[aR];refine⟨M,_,rfl,rfl,?_⟩
     cases G:(s.o p.id).core with
     |var ver cs=>rw[G]at ai;obtain⟨h1,z,v,u⟩:=ai;simp only[at_,Addr.mk.injEq]at u;exact⟨h1,z,v,by simp[at_,u.1,u.2.1];omega⟩
     |row W em ver xs=>rw[G]at ai;obtain⟨q,h1,v,z,u,B⟩:=ai;simp only[at_,Addr.mk.injEq]at B;exact⟨q,h1,v,z,u,by simp[at_,B.1,B.2.1];omega⟩
     |_=>trivial
   |c2 dp cs off=>
    rw[y]at hk l;simp only at hk
    cases d:ah.off i with
    |none=>rw[d]at hk;simp at hk
    |some q=>
     obtain⟨k,m⟩:=q;rw[d]at hk;simp only at hk;cases g:Nat.beq m.size 0
     case true=>rw[g]at hk;simp at hk
     rw[g]at hk;simp only[aR]at l;obtain⟨N,b,j,vs,he,l⟩:=l;refine⟨_,hk,du (fun w'=>D d (fun e=>by rw[e]at g;simp at g) he) h ?_ aa⟩;simp only[aR];exact⟨N,b,j,vs,by rw[dQ],l⟩
   |_=>rw[y]at hk;simp at hk
  |_=>simp at hk
def Hs{u:U}{id:TypeId}{cs:List Value}{k:Nat}(b:u.ok P id)(hk:k+u.size<=cs.length):(Go.part id cs.toArray k).run P w=.ok (c8 u ((cs.drop k).take u.size)) w:=by
 unfold Go.part;rw[run_bind,O0 b];simp only;cases a:u.agg
 ·have h1:=Hm a;simp only[gq,fT];rw[h1]at hk⊢;have d:k<cs.length:=by omega
  have:(cs.drop k).take 1=[cs[k]]:=by rw[kf d,List.take_succ_cons,List.take_zero]
  rw[this,Ho a];simp[d,run_pure]
 ·simp only[if_true];rw[run_bind,run_sizeOf b,Hn a];simp only[run_pure];congr 2;apply Array.ext';simp[List.take_drop,Nat.add_comm]
def O6{t:Nat}{x:Operand}{i:Nat}(p:fU P E)(h:Inv w0 F0 Z0 n s a w ι Z)(aa:∀k,o.dst=some k->k<n)(j:o.op=.field t x i)(hk:cK E id o s K=some r):
  ∃an,K an=some r/\Pure P o a w (cO w0 F0 Z0 n an):=by
 unfold cK at hk;rw[j]at hk;simp only at hk;have b:=ew h x
 cases ht:E.ty t with
 |none=>rw[ht]at hk;simp at hk
 |some T=>
  rw[ht]at hk
  cases T with
  |st ah=>
   obtain⟨C,u,y⟩:=Hr (p.ty t _ ht)
   cases l:bP s x with
   |hJ cs=>
    rw[l]at hk b;simp only at hk
    cases d:ah.off i with
    |none=>rw[d]at hk;simp at hk
    |some q=>
     obtain⟨k,e⟩:=q;rw[d]at hk;simp only at hk
     cases g:(takeN k e.size cs).bind (iX e)with
     |none=>rw[g]at hk;simp at hk
     |some v=>rw[g]at hk;obtain⟨D,h1,z⟩:=a6 g;obtain⟨F,rfl⟩:=m5 h1;simp only[aR]at b;obtain⟨vs,he,hc⟩:=b;obtain⟨f,m,A,B⟩:=aw.zk y d;rw[Array.getElem?_toList]at m;have hl:=hc.len;refine⟨_,hk,du (fun w'=>?_) h (ml z ((hc.drop k).take e.size)) aa⟩;unfold execOp;rw[j];refine e8 ?_;simp only[Instr.field,run_bind,run_underlying u,m,he,asAgg,run_pure];have:=Hs (P:=P) (w:=w') B (cs:=vs) (k:=k) (by omega);rw[A,bE];exact this
   |_=>rw[l]at hk;simp at hk
  |_=>simp at hk
def O7{x:Operand}{i:Nat}(h:Inv w0 F0 Z0 n s a w ι Z)(aa:∀k,o.dst=some k->k<n)(j:o.op=.extract x i)(hk:cK E id o s K=some r):
  ∃an,K an=some r/\Pure P o a w (cO w0 F0 Z0 n an):=by
 unfold cK at hk;rw[j]at hk;simp only at hk;have e:=ew h x
 cases m:bP s x with
 |mZ l=>
  rw[m]at hk e;simp only at hk
  cases b:l[i]? with
  |none=>rw[b]at hk;simp at hk
  |some v=>
   rw[b]at hk;simp only[aR]at e;obtain⟨vs,he,hl⟩:=e
   have:∀(l:List aY) (vs:List Value) (i:Nat),aX w Z s ι l vs->l[i]?=some v->∃d,vs[i]?=some d/\aR w Z s ι v d:=by
    intro l
    induction l with
    |nil=>intro vs i _ b;simp at b
    |cons q l p=>
     intro vs i hl b;simp only[aX]at hl;obtain⟨d,us,rfl,h1,g⟩:=hl
     cases i with
     |zero=>simp at b;subst b;exact⟨d,rfl,h1⟩
     |succ i=>exact p us i g (by simpa using b)
   obtain⟨d,h1,g⟩:=this l vs i hl b;refine⟨_,hk,du (v:=d) (fun w'=>?_) h g aa⟩;unfold execOp;rw[j];refine e8 ?_;simp only[Instr.extract,he];simp[h1,run_pure]
 |_=>rw[m]at hk;simp at hk
def Ht(h:Inv w0 F0 Z0 n s a w ι Z):∀(l:List Operand),aX w Z s ι (l.map (bP s)) (l.map a.eval)
 | []=>by simp only[List.map_nil,aX]
 |x::l=>by simp only[dh,aX];exact⟨_,_,rfl,ew h x,Ht h l⟩
def O8{f:FuncId}{first kh:Array Operand}(h:Inv w0 F0 Z0 n s a w ι Z)(aa:∀k,o.dst=some k->k<n)(b:o.op=.makeFunc (.func f) first kh)(hk:cK E id o s K=some r):
  ∃an,K an=some r/\Pure P o a w (cO w0 F0 Z0 n an):=by
 unfold cK at hk;rw[b]at hk;simp only at hk;refine⟨_,hk,du (v:=.func (.func f) (first.map a.eval) (kh.map a.eval)) (fun w'=>?_) h ?_ aa⟩
 ·unfold execOp;rw[b];rfl
 ·simp only[aR];refine⟨first.toList.map a.eval,kh.toList.map a.eval,?_,Ht h _,Ht h _⟩;congr 1<;>(apply Array.ext';simp)
end
end Go.LM
namespace Go.LM
section
variable{P:Program}{Q:Exit->Act->World->Prop}
variable{w0:World}{F0 Z0:ae}{n:cl}{s an:av}{a b0:Act}{w w':World}{ι a':Nat->bz}{Z Z':ae}
variable{E:Env}{o:Oper}{bn:Type}{K:av->Option bn}{r:bn}{id:Nat}
def Hu{k:IntKind}{i:Int}:(asIntOf (.int k i)).run P w=.ok (k,i) w:=rfl
def zl{t:TypeId}{u:U}{e:TypeId}{A:Addr}{b o len c:Nat}{k:IntKind}{i:Int}(a:P.underlying t=some (.slice e))(he:u.ok P e)
  (d:0<=i) (h1:i<(len:Int)):(Instr.indexAt t (.slice (some (at_ b o)) len c) (.int k i)).run P w=.ok (.pointer (some (at_ b (o+i.toNat*u.size)))) w:=by
 unfold Instr.indexAt;simp only[run_bind,Hu,run_underlying a,run_pure];rw[bg ⟨d,h1⟩];simp only[run_bind,run_sizeOf he,run_pure,n5]
def beq_eq{u v:U}(h:U.beq u v=true):u=v:=U.eq_of_beq _ _ h
def O9{t:Nat}{x i:Operand}(ac:fU P E)(h:Inv w0 F0 Z0 n s a w ι Z)(aa:∀k,o.dst=some k->k<n)(D:o.op=.indexAddr t x i)(hk:cK E id o s K=some r):
  ∃an,K an=some r/\Pure P o a w (cO w0 F0 Z0 n an):=by
 unfold cK at hk;rw[D]at hk;simp only at hk;have u:=ew h x;have ad:=ew h i
 cases ht:E.ty t with
 |none=>rw[ht]at hk;simp at hk
 |some T=>
  cases T with
  |sl b=>
   obtain⟨e,N,Q⟩:=j2 (ac.ty t _ ht);rw[ht]at hk
   cases F:iY (bP s i)with
   |none=>rw[F]at hk;cases bP s x<;>simp at hk
   |some q=>
    rw[F]at hk;obtain⟨cX,V⟩:=n' F ad
    cases W:bP s x with
    |aP c=>
     rw[W]at hk u;simp only[aR]at u
     cases c with
     |aa j sub=>
      simp only at hk;obtain⟨ae,A,m,c,y,af⟩:=u
      cases z:s.o j with
      |row v em ver xs=>
       rw[z]at hk;simp only at hk;cases hb:U.beq b v
       ·rw[hb]at hk;simp at hk
       rw[hb]at hk;obtain rfl:=beq_eq hb;obtain⟨k,h1,hk⟩:=a6 hk;obtain⟨H,B,rfl,d⟩:=uf h1;obtain⟨X,au,av,aw,Y⟩:=af _ _ _ _ (kk z)
       have hm:iF sub xs=m:=by
        cases sub with
        |none=>simp[iF,X]
        |some p=>obtain⟨ax,l⟩:=p;simp[iF,X]
       rw[hm]at B d;rcases Y with Y|⟨g,ah,rfl⟩
       ·omega
       refine⟨_,hk,du (v:=.pointer (some (at_ g.block (g.off+dz sub*b.size+q.toNat*b.size)))) (fun w'=>?_) h ?_ aa⟩
       ·unfold execOp;rw[D];refine e8 ?_;simp only[y,V];exact zl (A:=g) N Q H B
       ·simp only[aR];refine⟨ae,_,rfl,rfl,?_⟩;simp only;rw[z];exact⟨_,rfl,by omega,g,ah,by simp[at_,jJ];omega⟩
      |_=>rw[z]at hk;simp at hk
     |bq v dp ay xs=>
      simp only at hk;cases hb:(alive s dp&&U.beq b v)
      ·rw[hb]at hk;simp at hk
      rw[hb]at hk;simp only[bs]at hb;obtain⟨aj,hb⟩:=hb;obtain rfl:=beq_eq hb;obtain⟨k,h1,hk⟩:=a6 hk;obtain⟨H,B,rfl,d⟩:=uf h1;obtain⟨J,⟨A,m,c,y⟩,ak,_⟩:=u;have hr:=ak aj;simp only[U.al]at hr;obtain⟨az,c',hv,hr⟩:=hr;rw[y]at hv;simp only[jI,Value.slice.injEq,fK]at hv;obtain⟨rfl,rfl,rfl⟩:=hv;rcases hr with hr|⟨g,rfl,ab,al,ao,aA⟩
      ·rw[hr]at d;simp at d
      obtain⟨vs,G,C,k2,k3,aZ⟩:=al.get q.toNat d;obtain⟨L,M,aB⟩:=g;simp only at ab;subst ab;refine⟨_,hk,du (v:=.pointer (some (at_ L (M+q.toNat*b.size)))) (fun w'=>?_) h ?_ aa⟩
      ·unfold execOp;rw[D];refine e8 ?_;simp only[y,V];exact zl (A:=at_ L M) N Q H B
      ·simp only[aR];refine⟨J,L,M+q.toNat*b.size,vs,rfl,fun _=>⟨?_,k3,fun j aq=>?_⟩⟩
       ·rw[cC d];exact U.n8 b dp none J (fun _=>C) ⟨_,_,_,C⟩ .none
       ·have ar:(b.cells dp none (I b xs q.toNat)).length=b.size:=by
         rw[cC d,<-k2];exact((U.n8 (s:=s) (w:=w) (Z:=Z) (ι :=ι) b dp none J (fun _=>C) ⟨_,_,_,C⟩ .none).len).symm
        rw[ar]at aq
        have:=ao (q.toNat*b.size+j) (by
         have:(q.toNat+1)*b.size<=xs.length*b.size:=c3 _ d
         rw[de]at this;omega)
        rwa[<-dQ]at this
     |_=>simp at hk
    |_=>rw[W]at hk;simp at hk
  |_=>rw[ht]at hk;simp at hk
def O_{t:Nat}{x i:Operand}(p:fU P E)(h:Inv w0 F0 Z0 n s a w ι Z)(aa:∀k,o.dst=some k->k<n)(l:o.op=.index t x i)(hk:cK E id o s K=some r):
  ∃an,K an=some r/\Pure P o a w (cO w0 F0 Z0 n an):=by
 unfold cK at hk;rw[l]at hk;simp only at hk;have g:=ew h x;have u:=ew h i
 cases ht:E.ty t with
 |none=>rw[ht]at hk;simp at hk
 |some T=>
  cases T with
  |str=>
   have y:P.underlying t=some .string:=by have:=p.ty t _ ht;simp only[U.ok]at this;exact this.1
   rw[ht]at hk
   cases j:iY (bP s i)with
   |none=>rw[j]at hk;cases e:bP s x with
    |aP c=>rw[e]at hk;cases c<;>simp at hk
    |_=>rw[e]at hk;simp at hk
   |some q=>
    rw[j]at hk;obtain⟨cX,z⟩:=n' j u
    cases e:bP s x with
    |aP c=>
     rw[e]at hk g;simp only[aR]at g
     cases c with
     |str b=>
      simp only at hk;obtain⟨k,h1,hk⟩:=a6 hk;obtain⟨A,F,rfl,B⟩:=uf h1;obtain⟨d,C,rfl⟩:=g;refine⟨_,hk,du (v:=.int .u8 ((d.data.toList.getD q.toNat 0).toNat:Int)) (fun w'=>?_) h (by simp only[aR,cd]) aa⟩;unfold execOp;rw[l];refine e8 ?_;have m:q.toNat<d.size:=by simpa using B
      simp only[Instr.index,C,z,run_bind,Hu,run_underlying y,bg A];have D:d[q.toNat]?=some d[q.toNat]:=by simp[m]
      rw[D];simp only[run_pure];congr 3;have:d.data.toList.getD q.toNat 0=d[q.toNat]:=by simp[List.getD_eq_getElem?_getD,m];rfl
      rw[this]
     |_=>simp at hk
    |_=>rw[e]at hk;simp at hk
  |_=>rw[ht]at hk;simp at hk
end
end Go.LM
namespace Go.LM
section
variable{P:Program}{Q:Exit->Act->World->Prop}
variable{w0:World}{F0 Z0:ae}{n:cl}{s an:av}{a b0:Act}{w w':World}{ι a':Nat->bz}{Z Z':ae}
variable{E:Env}{o:Oper}{bn:Type}{K:av->Option bn}{r:bn}{id:Nat}
def run_sliceBound{k:IntKind}{i:Int}{y:Nat}{code:BoundsCode}(a:0<=i)(h1:i<=(y:Int)):(Instr.sliceBound (.int k i) y code).run P w=.ok i.toNat w:=by unfold Instr.sliceBound;simp only[run_bind,Hu];rw[bg ⟨a,h1⟩];rfl
def Hv(h:Inv w0 F0 Z0 n s a w ι Z){x:Option Operand}{d i:Int}(hb:bound s x d=some i):
  (x=none/\i=d)\/∃y k,x=some y/\a.eval y=.int k i:=by
 cases x with
 |none=>simp[bound]at hb;exact .inl ⟨rfl,hb.symm⟩
 |some y=>obtain⟨k,hk⟩:=n' (x:=bP s y) hb (ew h y);exact .inr ⟨y,k,rfl,hk⟩
def O'(h:Inv w0 F0 Z0 n s a w ι Z){i:Bool}{len cap:Nat}{lo b:Option Operand}{l q:Int}(hl:bound s lo 0=some l)(j:bound s b len=some q)
  (d:0<=l) (h1:l<=q) (m:q<=(len:Int)) (hc:len<=cap):
  (Instr.sliceBounds i len cap (lo.map a.eval) (b.map a.eval) none).run P w'=.ok (l.toNat,q.toNat,cap) w':=by
 unfold Instr.sliceBounds;rcases Hv h hl with⟨rfl,rfl⟩|⟨o,k,rfl,e⟩<;>rcases Hv h j with⟨rfl,rfl⟩|⟨p,k',rfl,g⟩
 ·simp only[Option.map_none,run_bind,run_pure,ed];rfl
 ·simp only[Option.map_none,fe,run_bind,run_pure,g];rw[run_sliceBound (by omega) (by omega)];rfl
 ·simp only[Option.map_none,fe,run_bind,run_pure,e,ed];simp only[Option.isSome_none,gq,fT];rw[run_sliceBound d (by omega)]
 ·simp only[fe,run_bind,run_pure,e,g];rw[run_sliceBound (by omega) (by omega)];simp only[Option.isSome_none,gq,fT];rw[run_sliceBound d (by omega)]
def Zg(h:Inv w0 F0 Z0 n s a w ι Z){len cap:Nat}{lo:Option Operand}{y m:Operand}{l q:Int}{k k':IntKind}(hl:bound s lo 0=some l)(b:a.eval y=.int k q)(hm:a.eval m=.int k' q)
  (e:0<=l) (h1:l<=q) (d:q<=(cap:Int)):
  (Instr.sliceBounds true len cap (lo.map a.eval) (some (a.eval y)) (some (a.eval m))).run P w'=.ok (l.toNat,q.toNat,q.toNat) w':=by
 unfold Instr.sliceBounds;rcases Hv h hl with⟨rfl,rfl⟩|⟨z,i,rfl,g⟩
 ·simp only[Option.map_none,run_bind,run_pure,b,hm,if_true];rw[run_sliceBound (by omega) d];simp only;rw[run_sliceBound (by omega) (by omega)];rfl
 ·simp only[fe,run_bind,run_pure,b,hm,g,if_true];rw[run_sliceBound (by omega) d];simp only;rw[run_sliceBound (by omega) (by omega)];simp only[Option.isSome_some,if_true];rw[run_sliceBound e (by omega)]
def extract_toList(b:ByteArray)(l h:Nat):(b.extract l h).data.toList=part b.data.toList l (h-l):=by unfold part;rw[ByteArray.data_extract,Array.toList_extract,List.extract_eq_take_drop]
def Pb{T:U}{c c':a7}{A:Option Addr}{m k:Nat}{l q:Nat}{e6:Nat}{u:U}(r:T=.sl u)(a:j0 s T c=true)(hlen:mf s c=some m)
  (b:tX c l (q-l)=some c') (hc:cd w Z s ι c (.slice A m k)) (h1:l<=q) (y:q<=m) (N:q<=e6) (P:e6<=k):
  cd w Z s ι c' (.slice (if e6=l then A else A.map (·.add (l*u.size))) (q-l) (e6-l)):=by
 subst r
 cases c with
 |nil v=>
  obtain rfl:=aS b;have hv:Value.slice A m k=.slice none 0 0:=hc;simp only[Value.slice.injEq]at hv;obtain⟨rfl,rfl,rfl⟩:=hv;have:l=0:=by omega
  have:e6=0:=by omega
  have:q=0:=by omega
  subst_vars
  exact rfl
 |bq v dp Q xs=>
  obtain rfl:=aS b;simp only[j0]at a;have g:=beq_eq a;injection g with g
  subst g;obtain⟨aa,_,hr,_⟩:=hc;refine⟨aa,⟨_,_,_,rfl⟩,fun z=>?_,.none⟩;have:=hr z;simp only[U.al]at this⊢;obtain⟨B,V,hv,C⟩:=this;simp only[jI,Value.slice.injEq,fK]at hv;obtain⟨rfl,rfl,rfl⟩:=hv;have d:(part xs l (q-l)).length=q-l:=by simp only[part,dX,fS];omega
  refine⟨_,_,by rw[d],?_⟩;by_cases D:q-l=0
  ·left;exact lq (by rw[d,D])
  ·right;rcases C with rfl|⟨h,rfl,n,E,F,W⟩
   ·simp at y;omega
   obtain⟨G,H,X⟩:=h;simp only at n;subst n;refine⟨at_ G (H+l*u.size),?_,rfl,(E.drop l).take _,fun j I=>?_,by rw[d];omega⟩
   ·rw[bd (by omega)];exact congrArg some (n5 _ _ _)
   ·rw[d]at I
    have:=F (l*u.size+j) (by
     have J:(l +(q-l))*u.size<=xs.length*u.size:=c3 _ (by omega)
     rw[jJ]at J;omega)
    rwa[<-dQ]at this
 |aa j sub=>
  obtain rfl:=aS b;obtain⟨K,B,m',k',hv,L⟩:=hc;simp only[Value.slice.injEq]at hv;obtain⟨rfl,rfl,rfl⟩:=hv;refine⟨K,_,_,_,rfl,fun t em ver xs e=>?_⟩;obtain⟨Y,ab,ac,ad,o⟩:=L t em ver xs e
  have ht:t=u:=by
   simp only[j0]at a
   cases p:s.o j with
   |row=>
    rw[p]at a e;simp only[b9.core,b9.row.injEq]at e;obtain⟨rfl,_⟩:=e;have:=beq_eq a;injection this with this
    exact this.symm
   |_=>rw[p]at a;simp at a
  subst ht;have i:dz (some (dz sub+l,q-l))=dz sub+l:=rfl;refine⟨rfl,by rw[i];omega,by omega,by rw[i];omega,?_⟩;by_cases M:e6=l
  ·left;omega
  ·right;rcases o with o|⟨h,hb,rfl⟩
   ·omega
   ·refine⟨h,hb,?_⟩;rw[bd M];simp only[fe,n5,i,jJ,dQ]
 |_=>simp[tX]at b<;>(simp[j0]at a<;>simp[U.beq]at a)
def Hw{T:U}{c:a7}{v:Value}{m:Nat}{u:U}(d:T=.sl u)(e:j0 s T c=true)(hlen:mf s c=some m)(hc:cd w Z s ι c v):
  ∃A k,v=.slice A m k/\m<=k:=by
 subst d
 cases c with
 |nil x=>simp only[mf,cQ]at hlen;subst hlen;exact⟨none,0,hc,bu _⟩
 |bq x dp o xs=>
  simp only[mf]at hlen;cases a:alive s dp
  ·rw[a]at hlen;simp at hlen
  rw[a]at hlen;simp only[au,cQ]at hlen;subst hlen;have:=hc.2.2.1 a;simp only[U.al]at this;obtain⟨A,c,hv,g⟩:=this;simp only[jI,fK]at hv;refine⟨A,c,hv,?_⟩;rcases g with rfl|⟨_,_,_,_,_,h⟩
  ·simp
  ·exact h
 |aa j sub=>
  simp only[mf]at hlen
  cases b:s.o j with
  |row t em ver xs=>
   rw[b]at hlen;simp only[cQ]at hlen;obtain⟨_,A,m',k,rfl,i⟩:=hc;obtain⟨l,q,n,r,y⟩:=i _ _ _ _ (kk b)
   have:m'=m:=by
    rw[<-hlen,l]
    cases sub with
    |none=>rfl
    |some p=>rfl
   subst this;exact⟨A,k,rfl,n⟩
  |_=>rw[b]at hlen;simp at hlen
 |_=>simp[j0,U.beq]at e
def Pc{t:Nat}{x:Operand}{lo I e6:Option Operand}(J:fU P E)(h:Inv w0 F0 Z0 n s a w ι Z)(aa:∀k,o.dst=some k->k<n)(H:o.op=.slice t x lo I e6)(hk:cK E id o s K=some r):
  ∃an,K an=some r/\Pure P o a w (cO w0 F0 Z0 n an):=by
 unfold cK at hk;rw[H]at hk;simp only at hk;have g:=ew h x
 cases ht:E.ty t with
 |none=>rw[ht]at hk;simp at hk
 |some T=>
  rw[ht]at hk;simp only[OL]at hk
  cases Q:bP s x with
  |aP c=>
   rw[Q]at hk g;simp only at hk;simp only[aR]at g;cases d:j0 s T c
   ·rw[d]at hk;simp at hk
   rw[d]at hk;simp only[au]at hk
   cases hlen:mf s c with
   |none=>rw[hlen]at hk;simp at hk
   |some m=>
    rw[hlen]at hk;simp only at hk
    cases hl:bound s lo 0 with
    |none=>rw[hl]at hk;simp at hk
    |some l=>
     cases B:bound s I (m:Int)with
     |none=>rw[hl,B]at hk;simp at hk
     |some q=>
      rw[hl,B]at hk;simp only at hk
      have main:(cZ m l q).bind (fun r=>match tX c r.1 (r.2-r.1)with|some c'=>K (s.dst o.dst (.aP c'))|none=>none)=some r →
        ∃c',K (s.dst o.dst (.aP c'))=some r/\0<=l/\l<=q/\q<=(m:Int)/\tX c l.toNat (q.toNat-l.toNat)=some c':=by
       intro hk;obtain⟨p,h1,hk⟩:=a6 hk;obtain⟨u,y,C,rfl⟩:=Zf h1
       cases i:tX c l.toNat (q.toNat-l.toNat)with
       |none=>simp only[i]at hk;simp at hk
       |some c'=>simp only[i]at hk;exact⟨c',hk,u,y,C,rfl⟩
      cases e6 with
      |none=>
       obtain⟨c',hk,u,y,C,i⟩:=main hk;refine⟨_,hk,?_⟩;by_cases z:T=.str
       ·subst z;have D:P.underlying t=some .string:=by have:=J.ty t _ ht;simp only[U.ok]at this;exact this.1
        cases c<;>simp only[j0,U.beq]at d<;>try (simp at d;done)
        ·rename_i b;obtain⟨V,j,rfl⟩:=g;simp only[mf,cQ]at hlen;obtain rfl:=aS i;refine du (v:=.string (V.extract l.toNat q.toNat)) (fun w'=>?_) h ?_ aa
         ·unfold execOp;rw[H];refine e8 ?_;have Y:V.size=m:=by rw[<-hlen];simp
          simp only[Instr.sliceAt,Instr.slice,run_bind,run_underlying D,j,Option.map_none];simp only[Option.isSome_none,gq,fT];rw[Y,run_bind,O' h hl B u y C (bu _)];rfl
         ·simp only[aR];exact⟨_,rfl,extract_toList _ _ _⟩
        ·cases F:s.o _<;>rw[F]at d<;>simp[U.beq]at d
       ·cases T with
        |str=>exact absurd rfl z
        |sl L=>
         obtain⟨e,D,M⟩:=j2 (J.ty t _ ht);have hv:=Hw rfl d hlen g;obtain⟨A,k,j,W⟩:=hv;rw[j]at g;refine du (fun w'=>?_) h (x:=.aP c') (v:=.slice (if k=l.toNat then A else A.map (·.add (l.toNat*L.size))) (q.toNat-l.toNat) (k-l.toNat)) ?_ aa
         ·unfold execOp;rw[H];refine e8 ?_;simp only[Instr.sliceAt,Instr.slice,run_bind,run_underlying D,j,Option.map_none];rw[O' h hl B u y C W];simp only[run_bind,run_sizeOf M,run_pure]
         ·simp only[aR];exact Pb rfl d hlen i g (by omega) (by omega) (by omega) (bu _)
        |_=>cases c<;>simp only[j0,U.beq]at d<;>first|(simp at d;done)|(cases F:s.o _<;>rw[F]at d<;>simp[U.beq]at d)
      |some X=>
       simp only at hk;cases z:U.beq T .str
       case true=>rw[z]at hk;simp at hk
       rw[z]at hk;simp only[ay]at hk
       cases N:iY (bP s X)with
       |none=>rw[N]at hk;simp at hk
       |some ab=>
        rw[N]at hk;simp only at hk
        cases I with
        |none=>simp at hk
        |some ac=>
         simp only[Option.isSome_some,au,iV]at hk;cases G:decide (q=ab)
         ·rw[G]at hk;simp at hk
         rw[G]at hk;have G:=of_decide_eq_true G;subst G;obtain⟨c',hk,u,y,C,i⟩:=main hk;obtain⟨af,ad⟩:=n' B (ew h ac);obtain⟨k2,ae⟩:=n' N (ew h X);refine⟨_,hk,?_⟩
         cases T with
         |str=>simp[U.beq]at z
         |sl L=>
          obtain⟨e,D,M⟩:=j2 (J.ty t _ ht);obtain⟨A,k,j,W⟩:=Hw rfl d hlen g;rw[j]at g;refine du (fun w'=>?_) h (x:=.aP c') (v:=.slice (if q.toNat=l.toNat then A else A.map (·.add (l.toNat*L.size))) (q.toNat-l.toNat) (q.toNat-l.toNat)) ?_ aa
          ·unfold execOp;rw[H];refine e8 ?_;simp only[Instr.sliceAt,Instr.slice,run_bind,run_underlying D,j,fe];rw[Zg h hl ad ae u y (by omega)];simp only[run_bind,run_sizeOf M,run_pure]
          ·simp only[aR];exact Pb rfl d hlen i g (by omega) (by omega) (by omega) (by omega)
         |_=>cases c<;>simp only[j0,U.beq]at d<;>first|(simp at d;done)|(cases F:s.o _<;>rw[F]at d<;>simp[U.beq]at d)
  |_=>rw[Q]at hk;simp at hk
end
end Go.LM
namespace Go.LM
section
variable{P:Program}{Q:Exit->Act->World->Prop}
variable{w0:World}{F0 Z0:ae}{n:cl}{s an:av}{a b0:Act}{w w':World}{ι a':Nat->bz}{Z Z':ae}
variable{E:Env}{o:Oper}{bn:Type}{K:av->Option bn}{r:bn}{id:Nat}
def zm{k k':IntKind}(h:Nat.beq (df k) (df k')=true):k=k':=rb (cG h)
def pQ{α:Type}{b:Bool}{x:Option α}{y:α}(h:iV b x=some y):b=true/\x=some y:=by
 cases b
 ·simp[iV]at h
 ·exact⟨rfl,h⟩
def toList_data(z:ByteArray):z.toList=z.data.toList:=by
 unfold ByteArray.toList
 have key:∀(m i:Nat) (r:List UInt8),z.size-i=m->i<=z.size->ByteArray.toList.loop z i r=r.reverse++z.data.toList.drop i:=by
  intro m
  induction m with
  |zero=>intro i r h b;unfold ByteArray.toList.loop;rw[bd (by omega),gp (by simp;show z.data.size<=i;have:z.data.size=z.size:=rfl;omega)];simp
  |succ m d=>
   intro i r h b;unfold ByteArray.toList.loop;rw[bg (by omega),d (i+1) _ (by omega) (by omega)];have a:i<z.data.toList.length:=by simp;show i<z.data.size;have:z.data.size=z.size:=rfl;omega
   rw[kf a]
   have e:z.get! i=z.data.toList[i]:=by
    simp[ByteArray.get!];have:i<z.data.size:=by simpa using a
    exact getElem!_pos z.data i this
   rw[e];simp
 have:=key z.size 0 [] rfl (by omega);simpa using this
def Pd(x y:ByteArray):(x.toList==y.toList)=bm x.data.toList y.data.toList:=by rw[toList_data,toList_data,jj];simp[bm]
def Pe{x:Option aY}{K:aY->Option bn}(h:lift x K=some r):∃v,x=some v/\K v=some r:=by
 cases x with
 |none=>simp[lift]at h
 |some v=>exact⟨v,rfl,h⟩
def Zh{op:BinOp}{k:IntKind}{x y:Int}{v:aY}{ty yty:TypeId}{xo yo:Operand}(h:y_ op k x y=some v)(h1:op≠.shl)(a:op≠.shr)(b:op≠.quo)(d:op≠.rem):
  ∃u,(∀w:World,(binOp op ty (.int k x) (.int k y)).run P w=.ok u w)/\∀w Z s ι,aR w Z s ι v u:=by
 cases op<;>simp only[y_]at h<;>first|(simp at h;done)|(obtain rfl:=aS h)
 all_goals
  refine⟨_,fun w=>by simp only[binOp];rw[bd (by simp)];rfl,fun w Z s ι => ?_⟩;simp only[aR,cd]
  try rfl
def ug{op:BinOp}{ty:TypeId}{xo yo:Operand}{u v:Value}(h1:(∃k x,u=.int k x)\/(∃x,u=.string x)\/(∃x,u=.bool x)\/(∃x,u=.pointer x)):
  (eqGuard op ty xo yo u v).run P w=.ok () w:=by
 unfold eqGuard;rcases h1 with⟨k,x,rfl⟩|⟨x,rfl⟩|⟨x,rfl⟩|⟨x,rfl⟩<;>(cases op<;>rfl)
def iH{op:BinOp}{ty yty:TypeId}{xo yo:Operand}{u:Value}(b:o.op=.binOp op ty xo yo yty)(d:(eqGuard op ty xo yo (a.eval xo) (a.eval yo)).run P w=.ok () w)
  (hr:(binOp op ty (a.eval xo) (a.eval yo)).run P w=.ok u w):(execOp a.eval o).run P w=.ok (.value u) w:=by
 unfold execOp;rw[b];refine e8 ?_;rw[run_bind,d];exact hr
def Zi{op:BinOp}{x y:ByteArray}{v:aY}{ty:TypeId}(h:y' op x.data.toList y.data.toList=some v):
  ∃u,(∀w:World,(binOp op ty (.string x) (.string y)).run P w=.ok u w)/\∀w Z s ι,aR w Z s ι v u:=by
 cases op<;>simp only[y']at h<;>first|(simp at h;done)|(obtain rfl:=aS h)
 all_goals
  refine⟨_,fun w=>rfl,fun w Z s ι => ?_⟩;have:=Pd x y;simp only[toList_data]at this;simp only[aR,cd,dr,toList_data,Value.bool.injEq,this]
def Pf{op:UnOp}{t:Nat}{x:Operand}(h:Inv w0 F0 Z0 n s a w ι Z)(aa:∀k,o.dst=some k->k<n)(g:o.op=.unOp op t x)(hk:cK E id o s K=some r):
  ∃an,K an=some r/\Pure P o a w (cO w0 F0 Z0 n an):=by
 unfold cK at hk;rw[g]at hk;simp only at hk;have b:=ew h x;have d:∀{e:Value}{w:World},(Op.unary op (a.eval x)).run P w=.ok e w->(execOp a.eval o).run P w=.ok (.value e) w:=by intro e w j;unfold execOp;rw[g];exact e8 j
 cases i:bP s x with
 |aP c=>
  rw[i]at hk b;simp only[aR]at b;cases op<;>cases c<;>simp only[GS]at hk<;>try (simp at hk;done)
  ·simp only[cd]at b;exact⟨_,hk,du (fun w'=>d (by rw[b];rfl)) h (by simp only[aR,cd]) aa⟩
  ·simp only[cd]at b;exact⟨_,hk,du (fun w'=>d (by rw[b];rfl)) h (by simp only[aR,cd];rfl) aa⟩
  ·simp only[cd]at b;exact⟨_,hk,du (fun w'=>d (by rw[b];rfl)) h (by simp only[aR,cd]) aa⟩
 |_=>rw[i]at hk;cases op<;>simp[GS]at hk
def Pg(P:Program)(E:Env):Prop:=∀id T,E.GQ id=true->E.ty id=some T->∀(op:BinOp) (b d:Operand) (w:World) (Z:ae) (s:av) (ι:Nat->bz) (cs a:List a7) (us vs:List Value) (q:Bool),
  bG w Z s ι cs us->bG w Z s ι a vs->T.cmp cs a=some (q,[],[]) →
  (eqGuard op id b d (.agg us.toArray) (.agg vs.toArray)).run P w=.ok () w ∧
  (op=.eql->(binOp op id (.agg us.toArray) (.agg vs.toArray)).run P w=.ok (.bool q) w) ∧
  (op=.neq->(binOp op id (.agg us.toArray) (.agg vs.toArray)).run P w=.ok (.bool (!q)) w)
mutual
def U.wo{w w':World}{Z:ae}{s:av}{ι:Nat->bz}:∀(t:U) {cs ds:List a7}{r:Bool×List a7×List a7}{us vs:List Value},t.cmp cs ds=some r->bG w Z s ι cs us->bG w Z s ι ds vs →
  ∃e g i j a b,us=e++g/\vs=i++j/\cs=a++r.2.1/\ds=b++r.2.2/\bG w' Z s ι a e/\bG w' Z s ι b i/\bG w Z s ι r.2.1 g/\bG w Z s ι r.2.2 j
 |.int k,.int n x::a,.int k2 l::b,r,us,vs,h,h1,d=>by
  simp only[U.cmp]at h;cases hk:(Nat.beq (df n) (df k)&&Nat.beq (df k2) (df k))
  ·rw[hk]at h;cases h
  rw[hk]at h;obtain rfl:=aS h
  cases us with
  |nil=>exact h1.elim
  |cons m us=>cases vs with
   |nil=>exact d.elim
   |cons v vs=>exact⟨[m],us,[v],vs,[.int n x],[.int k2 l],rfl,rfl,rfl,rfl,⟨h1.1,trivial⟩,⟨d.1,trivial⟩,h1.2,d.2⟩
 |.bool,.bool x::a,.bool l::b,r,us,vs,h,h1,d=>by
  obtain rfl:=aS h
  cases us with
  |nil=>exact h1.elim
  |cons m us=>cases vs with
   |nil=>exact d.elim
   |cons v vs=>exact⟨[m],us,[v],vs,[.bool x],[.bool l],rfl,rfl,rfl,rfl,⟨h1.1,trivial⟩,⟨d.1,trivial⟩,h1.2,d.2⟩
 |.str,.str x::a,.str l::b,r,us,vs,h,h1,d=>by
  obtain rfl:=aS h
  cases us with
  |nil=>exact h1.elim
  |cons m us=>cases vs with
   |nil=>exact d.elim
   |cons v vs=>exact⟨[m],us,[v],vs,[.str x],[.str l],rfl,rfl,rfl,rfl,⟨h1.1,trivial⟩,⟨d.1,trivial⟩,h1.2,d.2⟩
 |.st ah,cs,ds,r,us,vs,h,h1,d=>aw.wo ah (by simpa only[U.cmp]using h) h1 d
 |.sl t,cs,ds,r,us,vs,h,h1,d=>by simp[U.cmp]at h
 |.raw,cs,ds,r,us,vs,h,h1,d=>by simp[U.cmp]at h
 |.int k,[],_,_,_,_,h,_,_=>by simp[U.cmp]at h
 |.bool,[],_,_,_,_,h,_,_=>by simp[U.cmp]at h
 |.str,[],_,_,_,_,h,_,_=>by simp[U.cmp]at h
 |.int k,c::_,[],_,_,_,h,_,_=>by cases c<;>simp[U.cmp]at h
 |.bool,c::_,[],_,_,_,h,_,_=>by cases c<;>simp[U.cmp]at h
 |.str,c::_,[],_,_,_,h,_,_=>by cases c<;>simp[U.cmp]at h
 |.int k,.bool _::_,_::_,_,_,_,h,_,_|.int k,.str _::_,_::_,_,_,_,h,_,_|.int k,.nil _::_,_::_,_,_,_,h,_,_|.int k,.bq _ _ _ _::_,_::_,_,_,_,h,_,_|.int k,.aa _ _::_,_::_,_,_,_,h,_,_|.int k,.raw _::_,_::_,_,_,_,h,_,_=>by simp[U.cmp]at h
 |.bool,.int _ _::_,_::_,_,_,_,h,_,_|.bool,.str _::_,_::_,_,_,_,h,_,_|.bool,.nil _::_,_::_,_,_,_,h,_,_|.bool,.bq _ _ _ _::_,_::_,_,_,_,h,_,_|.bool,.aa _ _::_,_::_,_,_,_,h,_,_|.bool,.raw _::_,_::_,_,_,_,h,_,_=>by simp[U.cmp]at h
 |.str,.int _ _::_,_::_,_,_,_,h,_,_|.str,.bool _::_,_::_,_,_,_,h,_,_|.str,.nil _::_,_::_,_,_,_,h,_,_|.str,.bq _ _ _ _::_,_::_,_,_,_,h,_,_|.str,.aa _ _::_,_::_,_,_,_,h,_,_|.str,.raw _::_,_::_,_,_,_,h,_,_=>by simp[U.cmp]at h
 |.int k,.int _ _::_,.bool _::_,_,_,_,h,_,_|.int k,.int _ _::_,.str _::_,_,_,_,h,_,_|.int k,.int _ _::_,.nil _::_,_,_,_,h,_,_|.int k,.int _ _::_,.bq _ _ _ _::_,_,_,_,h,_,_|.int k,.int _ _::_,.aa _ _::_,_,_,_,h,_,_|.int k,.int _ _::_,.raw _::_,_,_,_,h,_,_=>by simp[U.cmp]at h
 |.bool,.bool _::_,.int _ _::_,_,_,_,h,_,_|.bool,.bool _::_,.str _::_,_,_,_,h,_,_|.bool,.bool _::_,.nil _::_,_,_,_,h,_,_|.bool,.bool _::_,.bq _ _ _ _::_,_,_,_,h,_,_|.bool,.bool _::_,.aa _ _::_,_,_,_,h,_,_|.bool,.bool _::_,.raw _::_,_,_,_,h,_,_=>by simp[U.cmp]at h
 |.str,.str _::_,.int _ _::_,_,_,_,h,_,_|.str,.str _::_,.bool _::_,_,_,_,h,_,_|.str,.str _::_,.nil _::_,_,_,_,h,_,_|.str,.str _::_,.bq _ _ _ _::_,_,_,_,h,_,_|.str,.str _::_,.aa _ _::_,_,_,_,h,_,_|.str,.str _::_,.raw _::_,_,_,_,h,_,_=>by simp[U.cmp]at h
def aw.wo{w w':World}{Z:ae}{s:av}{ι:Nat->bz}:∀(t:aw) {cs ds:List a7}{r:Bool×List a7×List a7}{us vs:List Value},t.cmp cs ds=some r->bG w Z s ι cs us->bG w Z s ι ds vs →
  ∃e g i j a b,us=e++g/\vs=i++j/\cs=a++r.2.1/\ds=b++r.2.2/\bG w' Z s ι a e/\bG w' Z s ι b i/\bG w Z s ι r.2.1 g/\bG w Z s ι r.2.2 j
 |.nil,cs,ds,r,us,vs,h,h1,d=>by obtain rfl:=aS h;exact⟨[],us,[],vs,[],[],rfl,rfl,rfl,rfl,trivial,trivial,h1,d⟩
 |.cons t ah,cs,ds,r,us,vs,h,h1,d=>by simp only[aw.cmp]at h;obtain⟨L,o,h⟩:=a6 h;obtain⟨M,p,h⟩:=a6 h;obtain rfl:=aS h;obtain⟨q,N,u,P,a,b,rfl,rfl,y,z,n,k2,k3,aZ⟩:=U.wo (w':=w') t o h1 d;obtain⟨A,B,C,D,b0,E,rfl,rfl,F,G,H,I,J,K⟩:=aw.wo (w':=w') ah p k3 aZ;exact⟨q++A,B,u++C,D,a++b0,b++E,by simp,by simp,by rw[y,F];simp,by rw[z,G];simp,n.append H,k2.append I,J,K⟩
end
def Ph{w:World}{Z:ae}{s:av}{ι:Nat->bz}{T:U}{cs ds:List a7}{q:Bool}{us vs:List Value}(h:T.cmp cs ds=some (q,[],[]))(h1:bG w Z s ι cs us)(l:bG w Z s ι ds vs)(w':World):
  bG w' Z s ι cs us/\bG w' Z s ι ds vs:=by
 obtain⟨o,d,p,e,a,b,g,i,j,k,a_,c7,dE,cE⟩:=U.wo (w':=w') T h h1 l;have m:d=[]:=by cases d with|nil=>rfl|cons=>exact dE.elim
 have n:e=[]:=by cases e with|nil=>rfl|cons=>exact cE.elim
 subst m n;simp only[dn]at g i j k;rw[g,i,j,k];exact⟨a_,c7⟩
def Pj{op:BinOp}{t ao:Nat}{x y:Operand}(W:fU P E)(Q:Pg P E)(h:Inv w0 F0 Z0 n s a w ι Z)(aa:∀k,o.dst=some k->k<n)(z:o.op=.binOp op t x y ao)(hk:cK E id o s K=some r):
  ∃an,K an=some r/\Pure P o a w (cO w0 F0 Z0 n an):=by
 unfold cK at hk;rw[z]at hk;simp only at hk;have g:=ew h x;have l:=ew h y
 cases V:bP s x with
 |aP c=>
  rw[V]at hk g;simp only[aR]at g
  cases B:bP s y with
  |aP d=>
   rw[B]at hk l;simp only[aR]at l;cases c<;>cases d<;>simp only[jZ]at hk<;>try (simp at hk;done)
   ·rename_i k i k' j;simp only[cd]at g l;have u:∀w:World,(eqGuard op t x y (a.eval x) (a.eval y)).run P w=.ok () w:=fun w=>ug (by rw[g];exact .inl ⟨_,_,rfl⟩)
    by_cases h1:op=.shl
    ·subst h1;obtain⟨m,hk⟩:=pQ hk;have m:=of_decide_eq_true m;refine⟨_,hk,du (fun w'=>iH z (u w') (by rw[g,l];simp only[binOp,Op.shift];rw[bd (by omega)];rfl)) h (by simp only[aR,cd]) aa⟩
    by_cases L:op=.shr
    ·subst L;obtain⟨m,hk⟩:=pQ hk;have m:=of_decide_eq_true m;refine⟨_,hk,du (fun w'=>iH z (u w') (by rw[g,l];simp only[binOp,Op.shift];rw[bd (by omega)];rfl)) h (by simp only[aR,cd]) aa⟩
    by_cases M:op=.quo
    ·subst M;cases D:Nat.beq (df k) (df k')
     ·rw[D]at hk;simp at hk
     have af:iV (j != 0) (K (s.dst o.dst (.aP (.int k (k.wrap (i.tdiv j))))))=some r:=by have X:cond (Nat.beq (df k) (df k')) (iV (j != 0) (K (s.dst o.dst (.aP (.int k (k.wrap (i.tdiv j))))))) none=some r:=hk;rw[D]at X;exact X
     clear hk;obtain⟨m,hk⟩:=pQ af;obtain rfl:=zm D;have m:j≠0:=by simpa using m
     refine⟨_,hk,du (fun w'=>iH z (u w') (by rw[g,l];simp only[binOp,Op.intDiv];rw[bd (by simp),bd m];rfl)) h (by simp only[aR,cd]) aa⟩
    by_cases ah:op=.rem
    ·subst ah;cases D:Nat.beq (df k) (df k')
     ·rw[D]at hk;simp at hk
     have af:iV (j != 0) (K (s.dst o.dst (.aP (.int k (i.tmod j)))))=some r:=by have X:cond (Nat.beq (df k) (df k')) (iV (j != 0) (K (s.dst o.dst (.aP (.int k (i.tmod j)))))) none=some r:=hk;rw[D]at X;exact X
     clear hk;obtain⟨m,hk⟩:=pQ af;obtain rfl:=zm D;have m:j≠0:=by simpa using m
     refine⟨_,hk,du (fun w'=>iH z (u w') (by rw[g,l];simp only[binOp,Op.intDiv];rw[bd (by simp),bd m];rfl)) h (by simp only[aR,cd]) aa⟩
    have G:cond (Nat.beq (df k) (df k')) (lift (y_ op k i j) fun v=>K (s.dst o.dst v)) none=some r:=by cases op<;>first|exact hk|exact absurd rfl h1|exact absurd rfl L|exact absurd rfl M|exact absurd rfl ah
    cases D:Nat.beq (df k) (df k')
    ·rw[D]at G;simp at G
    rw[D]at G;obtain rfl:=zm D;obtain⟨v,hv,G⟩:=Pe G;obtain⟨aq,C,I⟩:=Zh (P:=P) (ty:=t) (yty:=ao) (xo:=x) (yo:=y) hv h1 L M ah;exact⟨_,G,du (fun w'=>iH z (u w') (by rw[g,l];exact C w')) h (I _ _ _ _) aa⟩
   ·rename_i i j;simp only[cd]at g l;have u:∀w:World,(eqGuard op t x y (a.eval x) (a.eval y)).run P w=.ok () w:=fun w=>ug (by rw[g];exact .inr (.inr (.inl ⟨_,rfl⟩)))
    cases ht:E.ty t with
    |none=>rw[ht]at hk;simp at hk
    |some T=>
     cases T with
     |bool=>
      rw[ht]at hk;have C:P.underlying t=some .bool:=by have:=W.ty t _ ht;simp only[U.ok]at this;exact this.1
      have hb:∀(i j:Bool) {w:World},(Op.equal t (.bool i) (.bool j)).run P w=.ok (i==j) w:=by intro i j w;unfold Op.equal Op.maxDepth Op.equalIn;rw[run_bind,run_underlying C];rfl
      cases op<;>simp only at hk<;>try (simp at hk;done)
      ·exact⟨_,hk,du (fun w'=>iH z (u w') (by rw[g,l];simp only[binOp,run_bind,hb];rfl)) h (by simp only[aR,cd]) aa⟩
      ·exact⟨_,hk,du (fun w'=>iH z (u w') (by rw[g,l];simp only[binOp,run_bind,hb];rfl)) h (by simp only[aR,cd]) aa⟩
     |_=>rw[ht]at hk;simp at hk
   ·obtain⟨ad,g,rfl⟩:=g;obtain⟨ae,l,rfl⟩:=l;have u:∀w:World,(eqGuard op t x y (a.eval x) (a.eval y)).run P w=.ok () w:=fun w=>ug (by rw[g];exact .inr (.inl ⟨_,rfl⟩))
    by_cases h1:op=.add
    ·subst h1;obtain⟨m,hk⟩:=pQ hk;have m:=fc m;simp only[lu]at m
     refine⟨_,hk,du (v:=.string (ad++ae)) (fun w'=>iH z (u w') (by
      rw[g,l];simp only[binOp,Op.stringOp];rw[bd];rfl;have aB:ad.data.size=ad.size:=rfl;have aC:ae.data.size=ae.size:=rfl;simp only[IntKind.max,IntKind.signed,IntKind.bits,if_true]
      omega)) h (by simp only[aR,cd];exact⟨_,rfl,by simp⟩) aa⟩
    ·have G:lift (y' op ad.data.toList ae.data.toList) (fun v=>K (s.dst o.dst v))=some r:=by
      cases op<;>first|exact hk|exact absurd rfl h1
     obtain⟨v,hv,G⟩:=Pe G;obtain⟨aq,C,I⟩:=Zi (P:=P) (ty:=t) hv;exact⟨_,G,du (fun w'=>iH z (u w') (by rw[g,l];exact C w')) h (I _ _ _ _) aa⟩
  |jX=>
   rw[B]at hk l;simp only[aR]at l
   cases c with
   |bq aD dp aE xs=>
    cases dp with
    |cons=>simp[jZ]at hk
    |nil=>
     simp only[jZ]at hk
     cases J:E.ty t with
     |none=>rw[J]at hk;simp at hk
     |some T=>
      cases T with
      |sl aq=>
       rw[J]at hk;obtain⟨e,C,_⟩:=j2 (W.ty _ _ J);obtain⟨_,_,I,_⟩:=g;have I:=I rfl;simp only[U.al]at I;obtain⟨A,c',hv,Y⟩:=I;have aj:a.eval x=.slice A xs.length c':=by simpa using hv
       have u:∀w:World,(eqGuard op t x y (a.eval x) (a.eval y)).run P w=.ok () w:=fun w=>by rw[aj,l];unfold eqGuard;cases op<;>rfl
       have hb:∀{w:World},(Op.equal t (.slice A xs.length c') (.slice none 0 0)).run P w=.ok A.isNone w:=by intro w;unfold Op.equal Op.maxDepth Op.equalIn;rw[run_bind,run_underlying C];cases A<;>rfl
       have he:A.isNone=true->xs.isEmpty=true:=fun ab=>by
        rcases Y with Y|⟨aF,Y,_⟩
        ·rw[Y];rfl
        ·rw[Y]at ab;cases ab
       have pick:∀{ak al:Option bn},za xs.isEmpty ak al=some r->(cond A.isNone ak al)=some r:=by
        intro ak al hk;unfold za both at hk;cases ab:A.isNone
        ·rw[ab]at he;cases ar:xs.isEmpty
         ·rw[ar]at hk;exact hk
         ·rw[ar]at hk;simp only[au]at hk;split at hk
          ·rename_i h;rw[ay,<-h];exact hk
          ·cases hk
        ·rw[he ab]at hk;simp only[au]at hk⊢;split at hk
         ·exact hk
         ·cases hk
       cases op<;>simp only at hk<;>try (simp at hk;done)
       ·have hk:=pick hk;refine⟨s.dst o.dst (.aP (.bool A.isNone)),by cases A<;>exact hk,du (fun w'=>iH z (u w') (by rw[aj,l];simp only[binOp,run_bind,hb];rfl)) h (by simp only[aR,cd]) aa⟩
       ·have hk:=pick hk;refine⟨s.dst o.dst (.aP (.bool (!A.isNone))),by cases A<;>exact hk,du (fun w'=>iH z (u w') (by rw[aj,l];simp only[binOp,run_bind,hb];rfl)) h (by simp only[aR,cd]) aa⟩
      |_=>rw[J]at hk;simp at hk
   |_=>simp[jZ]at hk
  |_=>rw[B]at hk;cases c<;>simp[jZ]at hk
 |hJ cs=>
  rw[V]at hk g;simp only[aR]at g
  cases B:bP s y with
  |hJ av=>
   rw[B]at hk l;simp only[aR]at l;obtain⟨us,g,aw⟩:=g;obtain⟨vs,l,ax⟩:=l;simp only[jZ]at hk;cases he:E.GQ t
   ·rw[he]at hk;simp at hk
   rw[he]at hk;simp only[au]at hk
   cases J:E.ty t with
   |none=>rw[J]at hk;simp at hk
   |some T=>
   rw[J]at hk;simp only at hk
   cases N:T.cmp cs av with
   |none=>rw[N]at hk;cases op<;>simp at hk
   |some q=>
    obtain⟨q,az,aA⟩:=q;rw[N]at hk
    match az,aA,N,hk with
    | [],[],N,hk=>
     have Q:=fun w'=>Q t T he J op x y w' Z s ι cs av us vs q (Ph N aw ax w').1 (Ph N aw ax w').2 N
     cases op<;>simp only at hk<;>try (simp at hk;done)
     ·exact⟨_,hk,du (fun w'=>iH z (by rw[g,l];exact(Q w').1) (by rw[g,l];exact(Q w').2.1 rfl)) h (by simp only[aR,cd]) aa⟩
     ·exact⟨_,hk,du (fun w'=>iH z (by rw[g,l];exact(Q w').1) (by rw[g,l];exact(Q w').2.2 rfl)) h (by simp only[aR,cd]) aa⟩
    |_::_,_,_,hk=>cases op<;>simp at hk
    | [],_::_,_,hk=>cases op<;>simp at hk
  |_=>rw[B]at hk;simp[jZ]at hk
 |opt j i=>
  rw[V]at hk g;simp only[aR]at g
  cases B:bP s y with
  |jl=>
   rw[B]at hk l;simp only[aR]at l;simp only[jZ]at hk;cases F:E.re t
   ·rw[F]at hk;simp at hk
   rw[F]at hk;obtain⟨e,C⟩:=W.ptr t F;have u:∀w:World,(eqGuard op t x y (a.eval x) (a.eval y)).run P w=.ok () w:=by intro w;rcases g.2 with⟨_,g⟩|⟨_,A,g,_⟩<;>exact ug (by rw[g];exact .inr (.inr (.inr ⟨_,rfl⟩)))
   have hb:∀{w:World},(Op.equal t (a.eval x) (.pointer none)).run P w=.ok (decide (i<0)) w:=by
    intro w;rcases g.2 with⟨m,g⟩|⟨m,A,g,_⟩
    ·rw[g];unfold Op.equal Op.maxDepth Op.equalIn;rw[run_bind,run_underlying C];simp[m,run_pure]
    ·rw[g];unfold Op.equal Op.maxDepth Op.equalIn;rw[run_bind,run_underlying C];have:¬i<0:=by omega
     simp[this,run_pure]
   have ac:∀(op:BinOp) (v:Value),(op=.eql->v=.bool (decide (i<0)))->(op=.neq->v=.bool (!decide (i<0)))->(op=.eql\/op=.neq)->∀{w:World},(binOp op t (a.eval x) (a.eval y)).run P w=.ok v w:=by
    intro op v h1 L M w;rw[l];have H:∃q,a.eval x=.pointer q:=by rcases g.2 with⟨_,g⟩|⟨_,A,g,_⟩<;>exact⟨_,g⟩
    obtain⟨q,H⟩:=H;rw[H];have hb:∀{w:World},(Op.equal t (.pointer q) (.pointer none)).run P w=.ok (decide (i<0)) w:=fun {w}=> by rw[<-H];exact hb
    rcases M with rfl|rfl
    ·rw[h1 rfl];simp only[binOp,run_bind,hb];rfl
    ·rw[L rfl];simp only[binOp,run_bind,hb];rfl
   cases op<;>simp only at hk<;>try (simp at hk;done)
   ·exact⟨_,hk,du (fun w'=>iH z (u w') (ac .eql _ (fun _=>rfl) (fun h=>by simp at h) (.inl rfl))) h (by simp only[aR,cd]) aa⟩
   ·exact⟨_,hk,du (fun w'=>iH z (u w') (ac .neq _ (fun h=>by simp at h) (fun _=>rfl) (.inr rfl))) h (by simp only[aR,cd]) aa⟩
  |_=>rw[B]at hk;simp[jZ]at hk
 |may b dp cs=>
  rw[V]at hk g;simp only[aR]at g
  cases B:bP s y with
  |jl=>
   rw[B]at hk l;simp only[aR]at l;simp only[jZ]at hk;cases F:E.re t
   ·rw[F]at hk;simp at hk
   rw[F]at hk;obtain⟨e,C⟩:=W.ptr t F;have u:∀w:World,(eqGuard op t x y (a.eval x) (a.eval y)).run P w=.ok () w:=by intro w;rcases g with⟨_,g⟩|⟨_,_,_,_,_,g,_⟩<;>exact ug (by rw[g];exact .inr (.inr (.inr ⟨_,rfl⟩)))
   have hb:∀{w:World},(Op.equal t (a.eval x) (.pointer none)).run P w=.ok (!b) w:=by
    intro w;rcases g with⟨m,g⟩|⟨m,_,_,_,_,g,_⟩
    ·rw[g];unfold Op.equal Op.maxDepth Op.equalIn;rw[run_bind,run_underlying C];simp[m,run_pure]
    ·rw[g];unfold Op.equal Op.maxDepth Op.equalIn;rw[run_bind,run_underlying C];simp[m,run_pure]
   have ac:∀(op:BinOp) (v:Value),(op=.eql->v=.bool (!b))->(op=.neq->v=.bool (b))->(op=.eql\/op=.neq)->∀{w:World},(binOp op t (a.eval x) (a.eval y)).run P w=.ok v w:=by
    intro op v h1 L M w;rw[l];have H:∃q,a.eval x=.pointer q:=by rcases g with⟨_,g⟩|⟨_,_,_,_,_,g,_⟩<;>exact⟨_,g⟩
    obtain⟨q,H⟩:=H;rw[H];have hb:∀{w:World},(Op.equal t (.pointer q) (.pointer none)).run P w=.ok (!b) w:=fun {w}=> by rw[<-H];exact hb
    rcases M with rfl|rfl
    ·rw[h1 rfl];simp only[binOp,run_bind,hb];rfl
    ·rw[L rfl];simp only[binOp,run_bind,hb];simp only[Bool.not_not];rfl
   cases op<;>simp only at hk<;>try (simp at hk;done)
   ·exact⟨_,hk,du (fun w'=>iH z (u w') (ac .eql _ (fun _=>rfl) (fun h=>by simp at h) (.inl rfl))) h (by simp only[aR,cd]) aa⟩
   ·exact⟨_,hk,du (fun w'=>iH z (u w') (ac .neq _ (fun h=>by simp at h) (fun _=>rfl) (.inr rfl))) h (by simp only[aR,cd]) aa⟩
  |_=>rw[B]at hk;simp[jZ]at hk
 |ptr p=>
  rw[V]at hk g;simp only[aR]at g;obtain⟨_,A,g,_⟩:=g
  cases B:bP s y with
  |jl=>
   rw[B]at hk l;simp only[aR]at l;simp only[jZ]at hk;cases F:E.re t
   ·rw[F]at hk;simp at hk
   rw[F]at hk;obtain⟨e,C⟩:=W.ptr t F;have u:∀w:World,(eqGuard op t x y (a.eval x) (a.eval y)).run P w=.ok () w:=fun w=>ug (by rw[g];exact .inr (.inr (.inr ⟨_,rfl⟩)))
   have hb:∀{w:World},(Op.equal t (.pointer (some A)) (.pointer none)).run P w=.ok false w:=by intro w;unfold Op.equal Op.maxDepth Op.equalIn;rw[run_bind,run_underlying C];rfl
   cases op<;>simp only at hk<;>try (simp at hk;done)
   ·exact⟨_,hk,du (fun w'=>iH z (u w') (by rw[g,l];simp only[binOp,run_bind,hb];rfl)) h (by simp only[aR,cd]) aa⟩
   ·exact⟨_,hk,du (fun w'=>iH z (u w') (by rw[g,l];simp only[binOp,run_bind,hb];rfl)) h (by simp only[aR,cd];rfl) aa⟩
  |_=>rw[B]at hk;simp[jZ]at hk
 |_=>rw[V]at hk;simp[jZ]at hk
end
end Go.LM
namespace Go.LM
def cV{α:Type}(R:α->List Value->ae->Prop)(size:Nat):List α->List Value->ae->Prop
 | [],vs,_=>vs=[]
 |x::xs,vs,F=>∃us ah G H,vs=us++ah/\R x us G/\us.length=size/\cV R size xs ah H/\ae.apart G H/\ae.sub G F/\ae.sub H F
section
variable{α:Type}{R ie:α->List Value->ae->Prop}{size:Nat}{w:World}
def cV.len:∀{xs:List α}{vs:List Value}{F:ae},cV R size xs vs F->vs.length=xs.length*size
 | [],_,_,h=>by simp only[cV]at h;subst h;simp
 |x::xs,_,_,h=>by obtain⟨us,ah,G,H,rfl,_,h1,a,_⟩:=h;rw[bZ,h1,cV.len a,b2,de];omega
def cV.mono:∀{xs:List α}{vs:List Value}{F F':ae},ae.sub F F'->cV R size xs vs F->cV R size xs vs F'
 | [],_,_,_,_,h=>h
 |x::xs,_,_,_,hs,⟨us,ah,G,H,h1,a,d,e,g,i,j⟩=>⟨us,ah,G,H,h1,a,d,e,g,fun b o h=>hs b o (i b o h),fun b o h=>hs b o (j b o h)⟩
def cV.imp:∀{xs:List α}{vs:List Value}{F:ae},cV R size xs vs F->(∀y us G,ae.sub G F->R y us G->ie y us G)->cV ie size xs vs F
 | [],_,_,h,_=>h
 |x::xs,_,F,⟨us,ah,G,H,h1,g,i,j,k,a,d⟩,e=>⟨us,ah,G,H,h1,e _ _ _ a g,i,cV.imp j (fun y us l hs=>e y us l fun b o h=>d b o (hs b o h)),k,a,d⟩
def cV.bare:∀{xs:List α}{vs:List Value}{F:ae},cV R size xs vs F->(∀y us G,ae.sub G F->R y us G->ie y us ae.none)->cV ie size xs vs ae.none
 | [],_,_,h,_=>h
 |x::xs,_,F,⟨us,ah,G,H,h1,d,e,g,l,i,j⟩,a=>⟨us,ah,ae.none,ae.none,h1,a _ _ _ i d,e,cV.bare g (fun y us k hs=>a y us k fun b o h=>j b o (hs b o h)),fun _ _ h=>h.elim,fun _ _ h=>h,fun _ _ h=>h⟩
def cV.append:∀{xs d:List α}{us vs:List Value}{F G:ae},cV R size xs us F->cV R size d vs G->ae.apart F G->cV R size (xs++d) (us++vs) (F.or G)
 | [],d,us,vs,F,G,h,k,_=>by simp only[cV]at h;subst h;exact k.mono fun _ _ h=>.inr h
 |x::xs,d,us,vs,F,G,⟨a,b,A,B,h1,l,m,n,p,e,i⟩,k,j=>by
  refine⟨a,b++vs,A,B.or G,by rw[h1,dW],l,m,cV.append n k (fun b o h=>j b o (i b o h)),?_,fun b o h=>.inl (e b o h),fun b o h=>h.imp (i b o) id⟩
  rintro b o g (h|h)
  ·exact p b o g h
  ·exact j b o (e b o g) h
def cV.row:∀{xs:List α}{vs:List Value}{F:ae}{b o:Nat},cV R size xs vs F->bV w b o vs->Row w R size xs b o F
 | [],_,_,_,_,_,_=>trivial
 |x::xs,_,_,b,o,⟨us,ah,G,H,h1,d,a,e,g,h,i⟩,hc=>by subst h1;exact⟨us,G,H,d,a,hc.left,cV.row e (a▸hc.right),g,h,i⟩
def Row.q5:∀{xs:List α}{b o:Nat}{F:ae},Row w R size xs b o F->∃vs,cV R size xs vs F/\bV w b o vs
 | [],_,_,_,_=>⟨[],rfl,bV.nil _ _ _⟩
 |x::xs,b,o,F,⟨us,G,H,h1,a,d,e,g,h,i⟩=>by obtain⟨ah,j,k2⟩:=Row.q5 e;exact⟨us++ah,⟨us,ah,G,H,rfl,h1,a,j,g,h,i⟩,d.append (by rw[a];exact k2)⟩
def cV.replicate{x:α}{us:List Value}(a:R x us ae.none)(hl:us.length=size):∀n,cV R size (List.replicate n x) (List.replicate n us).flatten ae.none
 |0=>rfl
 |n+1=>by rw[List.replicate_succ,List.replicate_succ,kH];exact⟨us,_,ae.none,ae.none,rfl,a,hl,cV.replicate a hl n,fun _ _ h=>h.elim,fun _ _ h=>h,fun _ _ h=>h⟩
end
mutual
def Hy{w:World}{Z F:ae}:∀(t:U) (m:a8),t.al w Z m t.zero t.cD F
 |.int _,_=>by simp only[U.al,U.zero,U.cD]
 |.bool,_=>by simp only[U.al,U.zero,U.cD]
 |.str,_=>by simp only[U.al,U.zero,U.cD];exact⟨_,rfl,rfl⟩
 |.raw,_=>by simp only[U.al,U.zero,U.cD];exact⟨trivial,_,_,_,rfl⟩
 |.sl t,.O e=>by simp only[U.al,U.zero,U.cD];exact⟨none,0,rfl,.inl (by simp)⟩
 |.sl t,.R=>by simp only[U.al,U.zero,U.cD];exact⟨none,0,rfl,.inl trivial⟩
 |.sl t,.S _=>by simp only[U.al,U.zero,U.cD];exact⟨none,0,rfl,.inl trivial⟩
 |.st ah,m=>by simp only[U.al,U.zero,U.cD];exact Pk ah m.parts
def Pk{w:World}{Z F:ae}:∀(ah:aw) (m:cA),ah.al w Z m ah.zero ah.cD F
 |.nil,_=>by simp only[aw.al,aw.cD]
 |.cons t ah,m=>by simp only[aw.al,aw.zero,aw.cD];exact⟨t.cD,ah.cD,ae.none,ae.none,rfl,Hy t m.aa,Pk ah m.dq,fun _ _ h=>h.elim,fun _ _ h=>h.elim,fun _ _ h=>h.elim⟩
end
section
variable{P:Program}{Q:Exit->Act->World->Prop}
variable{w0:World}{F0 Z0:ae}{n:cl}{s an:av}{a b0:Act}{w w':World}{ι a':Nat->bz}{Z Z':ae}
variable{E:Env}{o:Oper}{bn:Type}{K:av->Option bn}{r:bn}{id:Nat}
def bD.ext{F S:ae}(a:bD w0 F0 s w ι Z F)(d:Ext w w' S):bD w0 F0 s w' ι Z F:=
 ⟨fun b o h=>⟨(a.own b o h).1,jW (a.own b o h).2 d.size⟩,a.apart,a.cB⟩
def Inv.fresh(h:Inv w0 F0 Z0 n s a w ι Z){F:ae}(d:∀b o,F b o->w.heap.size<=b/\b<w'.heap.size):bD w0 F0 s w' ι Z F:=by
 have:=h.ext.size;refine⟨fun b o g=>⟨.inr (by have:=(d b o g).1;omega),(d b o g).2⟩,fun id hl b o h1 e=>?_,fun b o h1 e=>?_⟩
 ·have:=(h.own id hl b o e).2;have:=(d b o h1).1;omega
 ·have:=h.hK b o e;have:=(d b o h1).1;omega
def grown(w:World)(d:Nat)(arr:Array Value)(e:TypeId)(f:Nat×Nat):World:={ w with drawn:=d,heap:=w.heap.push (.cells arr e f) }
def yZ(w:World)(d:Nat)(arr:Array Value)(e:TypeId)(f:Nat×Nat)(F:ae):Ext w (grown w d arr e f) F:=
 ⟨rfl,rfl,rfl,by simp[grown],fun b hb=>.inl (by simp only[grown];rw[Array.getElem?_push,bd (by omega)])⟩
def v_(w:World)(d:Nat)(arr:Array Value)(e:TypeId)(f:Nat×Nat):(grown w d arr e f).heap[w.heap.size]?=some (.cells arr e f):=by simp[grown]
def v8(w:World)(d:Nat)(arr:Array Value)(e:TypeId)(f:Nat×Nat)(o:Nat):(grown w d arr e f).cell? (at_ w.heap.size o)=arr[o]?:=cell_of_heap (v_ ..) o
def GI(w:World)(d:Nat)(arr:Array Value)(e:TypeId)(f:Nat×Nat):(grown w d arr e f).heap.size=w.heap.size+1:=by simp[grown]
def Inv.newRow(h:Inv w0 F0 Z0 n s a w ι Z){id:Nat}(q:s.o id=.none){t:U}{em:a8}{xs:List t.D}{vs:List Value}{G:ae}
  (he:cV (t.al w Z em) t.size xs vs G) (m:bD w0 F0 s w ι Z G) (d:Nat) (arr:Array Value) (e:TypeId) (f:Nat×Nat) (c:Nat)
  (hv:∀(j:Nat) (v:Value),vs[j]?=some v->arr[j]?=some v) (hc:xs.length<=c) (A:c*t.size<=arr.size) (B:f.1=f.2\/c*t.size<=f.1) (r:t.size=1\/f.1=f.2):
  Inv w0 F0 Z0 n (s.bA id (.row t em 0 xs)) a (grown w d arr e f) (bF ι id ⟨some (at_ w.heap.size 0),c,(ae.run w.heap.size 0 (c*t.size)).or G⟩) Z:=by
 have l:=yZ w d arr e f ae.none;have h1:=h.world l;have u:bD w0 F0 s (grown w d arr e f) ι Z (ae.run w.heap.size 0 (c*t.size)):=h.fresh (by rintro b o ⟨rfl,_,_⟩;rw[GI];omega);have y:=m.ext l;refine h1.ze q ?_ (u.or y);refine .inr ⟨at_ w.heap.size 0,rfl,rfl,hc,fun j g=>⟨⟨⟨arr[j]'(by simp only at g;omega),?_⟩,?_⟩,?_⟩,fun j g=>.inl ⟨rfl,by simp[at_],by simpa[at_]using g⟩,G,?_,?_,fun _ _ h=>.inr h⟩
 ·show World.cell? _ (at_ w.heap.size (0+j))=_;rw[v8];simp
 ·show World.frozen? _ (at_ w.heap.size (0+j))=_;rw[nV,v_];simp only at g;simp only[ji,hH];omega
 ·refine r.imp (fun h=>h) fun C k=>?_
  show World.frozen? _ (at_ w.heap.size k)=_;rw[nV,v_];simp only[ji,hH];omega
 ·refine cV.row (he.imp fun D us E hs hr=>U.al.same (bS.gw l h.hK fun _ _ _ h=>h) _ _ (bS.gw l (fun b o p=>(m.own b o (hs b o p)).2) fun _ _ _ h=>h) hr) ?_;intro i v z;show World.cell? _ (at_ w.heap.size (0+i))=_;rw[v8,bE];exact hv i v z
 ·intro j g p;have:=(m.own _ _ p).2;simp[at_]at this
def wq{id:Nat}{t:U}{em:a8}{ver:Nat}{xs:List t.D}{A:Addr}{c:Nat}{F:ae}(h:A.spot=none)(hc:xs.length<=c):
  cd w Z (s.bA id (.row t em ver xs)) (bF ι id ⟨some A,c,F⟩) (.aa id none) (.slice (some A) xs.length c):=by
 refine⟨?_,some A,xs.length,c,rfl,?_⟩
 ·show bF s.o id _ id≠_;rw[b6];simp
 ·intro b eV d et e;have a:(bF s.o id (b9.row t em ver xs) id).core=.row b eV d et:=e;rw[b6]at a⊢;obtain⟨rfl,_,_,g⟩:=b9.row.inj a;have:=eq_of_heq g;subst this;refine⟨rfl,by simp[dz],hc,by simp[dz],.inr ⟨A,rfl,?_⟩⟩;simp only[dz,Nat.zero_mul,cz];cases A;simp_all[at_]
def Pl(us:List Value):∀(n j:Nat),j<n*us.length->(List.replicate n us).flatten[j]?=us[j%us.length]?
 |0,j,h=>by simp at h
 |n+1,j,h=>by
  rw[List.replicate_succ,kH];by_cases a:j<us.length
  ·rw[List.getElem?_append_left a,mY a]
  ·have b:j<n*us.length+us.length:=by rw[<-de];exact h
   rw[List.getElem?_append_right (by omega),Pl us n (j-us.length) (by omega),<-Nat.mod_eq_sub_mod (by omega)]
def Hz{z:Array Value}{m j:Nat}(us:List Value)(n:Nat)(e:z.toList=us)(hm:m=n*us.length)(v:Value)(h:(List.replicate n us).flatten[j]?=some v):
  ((Array.range m).map (z[· % z.size]!))[j]?=some v:=by
 subst e
 have a:j<n*z.toList.length:=by
  rcases ff j (n*z.toList.length)with h1|h1
  ·exact h1
  ·rw[List.getElem?_eq_none (by simp;simpa using h1)]at h;simp at h
 rw[Pl _ _ _ a]at h;have hl:z.toList.length=z.size:=by simp
 rw[hl]at h a;rw[Array.getElem?_map,Array.getElem?_range,bg (by rw[hm,hl];exact a)];simp only[fe,cQ]
 have d:j%z.size<z.size:=by
  apply Nat.mod_lt;rcases l_ z.size with b|b
  ·rw[b]at a;simp at a
  ·exact b
 rw[getElem!_pos z _ d];simpa[d]using h
def wrap_i64{i:Int}(a:0<=i)(h1:i<=68719476736):IntKind.wrap .i64 i=i:=by simp[IntKind.wrap,IntKind.bits,IntKind.signed];omega
def Zj{k:IntKind}{i:Int}:(asInt (.int k i)).run P w=.ok i w:=rfl
def uh(T:U):(c8 T T.cD).cells.toList=T.cD:=zi (U.kn T) ((pP (w:=default) (Z:=ae.none) (s:=⟨fun _=>.bf,fun _=>.none,[]⟩) (ι :=fun _=>⟨none,0,ae.none⟩) T).dD)
def run_askRoom{b:Nat}:(askRoom b).run P w=.ok () w:=by unfold askRoom;split<;>rfl
def zn{e:TypeId}{arr:Array Value}:(newRow e arr).run P w=.ok (at_ w.heap.size 0) (grown w w.drawn arr e (0,0)):=by simp[newRow,Go.newObj,run_bind,Sem.run,run_pure,at_,grown]
def run_makeSlice{T:U}{t e:TypeId}{k k':IntKind}{m:Int}(h:P.underlying t=some (.slice e))(b:T.ok P e)(g:0<=m)(h1:m<=68719476736):
  ∃arr:Array Value,(∀(j:Nat) (v:Value),(List.replicate m.toNat T.cD).flatten[j]?=some v->arr[j]?=some v)/\arr.size=m.toNat*T.size ∧
   (Instr.makeSlice t (.int k m) (.int k' m)).run P w=.ok (.slice (some (at_ w.heap.size 0)) m.toNat m.toNat) (grown w w.drawn arr e (0,0)):=by
 obtain⟨i,l,o,p,q⟩:=b.info;have hb:¬((i.bytes:Int)*m>2^48):=by have:(i.bytes:Int)*m<=2048*68719476736:=Int.mul_le_mul (by omega) h1 g (by omega);omega
 have r:(c8 T T.cD).cells.size=T.size:=by have:=congrArg List.length (uh T);rw[lu,U.kn]at this;exact this
 refine⟨(Array.range (m.toNat*T.size)).map fun j=>(if m.toNat*T.size=0 then #[] else(c8 T T.cD).cells)[j%(if m.toNat*T.size=0 then #[] else(c8 T T.cD).cells).size]!,?_,by simp,?_⟩
 ·intro j v d;by_cases a:m.toNat*T.size=0
  ·have:(List.replicate m.toNat T.cD).flatten=[]:=by
    apply lq;simp[U.kn];simpa using a
   rw[this]at d;simp at d
  ·simp only[bd a];exact Hz T.cD m.toNat (uh T) (by rw[U.kn]) v d
 ·unfold Instr.makeSlice;simp only[run_bind,run_underlying h,Zj,run_typeInfo l,wrap_i64 g h1];have n:¬m<0:=by omega
  simp only[n,hb,decide_false,Bool.or_false,Bool.false_or,gq,fT,gt_iff_lt,Int.lt_irrefl];simp only[run_bind,run_askRoom,run_sizeOf b];by_cases a:m.toNat*T.size=0
  ·simp only[bg a,run_bind,run_pure,zn]
  ·simp only[bd a,run_bind,run_pure,zn,zg b]
def Zk{t:Nat}{x y:Operand}(l:fU P E)(h:Inv w0 F0 Z0 n s a w ι Z)(aa:∀k,o.dst=some k->k<n)(g:o.op=.makeSlice t x y)(hk:cK E id o s K=some r):
  ∃an,K an=some r/\o.wp P a w (cO w0 F0 Z0 n an) Q:=by
 unfold cK at hk;rw[g]at hk;simp only at hk
 cases ht:E.ty t with
 |none=>rw[ht]at hk;simp at hk
 |some T=>
  rw[ht]at hk
  cases T with
  |sl T=>
   cases b:iY (bP s x)with
   |none=>rw[b]at hk;simp at hk
   |some m=>
    cases d:iY (bP s y)with
    |none=>rw[b,d]at hk;simp at hk
    |some m'=>
     rw[b,d]at hk;obtain⟨i,j⟩:=pQ hk;clear hk;have hk:=j;clear j;simp only[bs,ei,room]at i;obtain⟨⟨p,rfl⟩,h1⟩:=i;have h1:=fc h1
     cases hm:mkObj s id (.row T T.own 0 (List.replicate m.toNat T.zero))with
     |none=>rw[hm]at hk;simp at hk
     |some C=>
      rw[hm]at hk;obtain⟨q,rfl⟩:=n_ hm;obtain⟨k,b⟩:=n' b (ew h x);obtain⟨k',d⟩:=n' d (ew h y);obtain⟨e,u,z⟩:=j2 (l.ty t _ ht);obtain⟨arr,B,has,hr⟩:=run_makeSlice (P:=P) (w:=w) (k:=k) (k':=k') u z p (by omega);have hn:=h.newRow q (cV.replicate (Hy T T.own) (U.kn T) m.toNat) bD.none w.drawn arr e (0,0) m.toNat B (by simp) (by omega) (.inl rfl) (.inr rfl);refine⟨_,hk,ko (v:=.slice (some (at_ w.heap.size 0)) m.toNat m.toNat) ?_ hn ?_ aa⟩
      ·unfold execOp;rw[g];refine e8 ?_;rw[b,d];exact hr
      ·simp only[aR];have:=wq (w:=grown w w.drawn arr e (0,0)) (Z:=Z) (s:=s) (ι :=ι) (id:=id) (em:=T.own) (ver:=0) (xs:=List.replicate m.toNat T.zero) (A:=at_ w.heap.size 0) (c:=m.toNat) (F:=(ae.run w.heap.size 0 (m.toNat*T.size)).or ae.none) rfl (by simp);simpa using this
  |_=>simp at hk
end
end Go.LM
namespace Go.LM
section
variable{P:Program}{Q:Exit->Act->World->Prop}
variable{w0:World}{F0 Z0:ae}{n:cl}{s an:av}{a b0:Act}{w w':World}{ι a':Nat->bz}{Z Z':ae}
variable{E:Env}{o:Oper}{bn:Type}{K:av->Option bn}{r:bn}{id:Nat}
def ui{k:IntKind}{t:TypeId}(h:(U.int k).ok P t):P.underlying t=some (.int k):=by simp only[U.ok]at h;exact h.1
def uj{t:TypeId}(h:U.str.ok P t):P.underlying t=some .string:=by simp only[U.ok]at h;exact h.1
def HA{w:World}{Z:ae}{k:IntKind}:∀l:List Int,cV ((U.int k).al w Z .R) 1 l (l.map (Value.int k)) ae.none
 | []=>rfl
 |x::l=>⟨[.int k x],l.map (Value.int k),ae.none,ae.none,rfl,by simp only[U.al],rfl,HA l,fun _ _ h=>h.elim,fun _ _ h=>h,fun _ _ h=>h⟩
def Zl{e:TypeId}{b:ByteArray}:
  ∃(arr:Array Value) (c d:Nat),(Conv.stringToBytes e b).run P w=.ok (.slice (some (at_ w.heap.size 0)) b.size c) (grown w d arr e (c,c+1))/\b.size<=c/\arr.size=c ∧
   ∀(j:Nat) (v:Value),((eg b.data.toList).map (Value.int .u8))[j]?=some v->arr[j]?=some v:=by
 have n:(Question.appendCap b.size 0 e).forced=false:=rfl;have k:b.data.size=b.size:=rfl;refine⟨(b.data.map fun x=>Value.int .u8 x.toNat)++Array.replicate (b.size+w.tape w.drawn (.appendCap b.size 0 e)%(2^63-b.size)-b.size) (.int .u8 0),b.size+w.tape w.drawn (.appendCap b.size 0 e)%(2^63-b.size),w.drawn+1,?_,by omega,by simp[k],?_⟩
 ·unfold Conv.stringToBytes;simp only[run_bind,choose,Sem.run,n,gq,fT,Question.cut];simp only[newRow,Go.newObj,run_bind,Sem.run,run_pure,markStringish,Go.shape,Go.freeze];simp only[World.shape?,Array.getElem?_push_size,Sem.run];simp only[World.freeze,grown];simp only[Nat.succ_ne_zero,fT,Nat.one_ne_zero,Result.ok.injEq,World.mk.injEq,true_and,fK];apply Array.ext_getElem?;intro i;rw[Array.getElem?_modify,Array.getElem?_push,Array.getElem?_push];by_cases g:w.heap.size=i
  ·subst g;have:b.size +(w.tape w.drawn (Question.appendCap b.size 0 e)%(2^63-b.size)+b.size-b.size)=b.size+w.tape w.drawn (Question.appendCap b.size 0 e)%(2^63-b.size):=by omega
   simp[k]
  ·simp[g];by_cases l:i=w.heap.size
   ·exact absurd l.symm g
   ·simp[l]
 ·intro j v m;simp only[eg,List.map_map,List.getElem?_map,Option.map_eq_some_iff]at m;obtain⟨x,a,rfl⟩:=m
  have o:j<b.data.size:=by
   rcases ff j b.data.size with h|h
   ·exact h
   ·rw[List.getElem?_eq_none (by simpa using h)]at a;simp at a
  rw[Array.getElem?_append_left (by simpa using o),Array.getElem?_map];rw[Array.getElem?_toList]at a;rw[a];rfl
def Pm{w:World}{k:IntKind}{b:Nat}:∀{l:List Int}{o:Nat}{F:ae},Row w (fun(y:Int) us _=>us=[Value.int k y]) 1 l b o F->bV w b o (l.map (Value.int k))
 | [],_,_,_=>bV.nil _ _ _
 |x::l,o,_,⟨us,G,H,h1,e,a,d,_⟩=>by subst h1;exact bV.cons a.head (Pm d)
def Zm(l:List Int):∀b:ByteArray,(l.foldl (fun r n=>r.push (UInt8.ofNat n.toNat)) b).data.toList=b.data.toList++ek l:=by
 induction l with
 |nil=>intro b;simp[ek]
 |cons x l a=>intro b;rw[List.foldl_cons,a];simp[ek,ByteArray.push]
def Zn{src dst:Nat}{x:Operand}{i k2:IntKind}(d:fU P E)(h:Inv w0 F0 Z0 n s a w ι Z)(aa:∀k,o.dst=some k->k<n)(e:o.op=.convert src dst x)(hs:E.ty src=some (.int i))(ht:E.ty dst=some (.int k2))(hk:cK E id o s K=some r):
  ∃an,K an=some r/\Pure P o a w (cO w0 F0 Z0 n an):=by
 unfold cK at hk;rw[e]at hk;simp only at hk;have b:=ew h x;have j:=d.ty _ _ hs;have l:=d.ty _ _ ht
 cases g:bP s x with
 |aP c=>
  rw[g]at b hk;simp only[aR]at b;unfold pF at hk;rw[hs,ht]at hk
  cases c with
  |int k m=>simp only[cd]at b;refine⟨_,hk,du (v:=.int k2 (k2.wrap m)) (fun w'=>?_) h (by simp only[aR,cd]) aa⟩;unfold execOp;rw[e];refine e8 ?_;rw[b];unfold convert;simp only[run_bind,run_underlying (ui j),run_underlying (ui l)];rfl
  |_=>simp at hk
 |_=>rw[g]at hk;unfold pF at hk;rw[hs,ht]at hk;simp at hk
def Zo{src dst:Nat}{x:Operand}(J:fU P E)(h:Inv w0 F0 Z0 n s a w ι Z)(aa:∀k,o.dst=some k->k<n)(L:o.op=.convert src dst x)(hk:cK E id o s K=some r):
  ∃an,K an=some r/\o.wp P a w (cO w0 F0 Z0 n an) Q:=by
 unfold cK at hk;rw[L]at hk;simp only at hk;have i:=ew h x;have y:∀{u:Value}{w':World},(convert src dst (a.eval x)).run P w=.ok u w'->(execOp a.eval o).run P w=.ok (.value u) w':=by intro u w' z;unfold execOp;rw[L];exact e8 z
 cases hs:E.ty src with
 |none=>unfold pF at hk;rw[hs]at hk;simp at hk
 |some S=>
 cases ht:E.ty dst with
 |none=>unfold pF at hk;rw[hs,ht]at hk;cases S<;>simp at hk
 |some T=>
 have B:=J.ty _ _ hs;have C:=J.ty _ _ ht
 cases D:bP s x with
 |aP c=>
  rw[D]at i;simp only[aR]at i;have g:pF E id s src dst (.aP c) (fun v s=>K (s.dst o.dst v))=some r:=by rw[<-D];exact hk
  unfold pF at g;rw[hs,ht]at g;split at g
  ·rename_i M k m p q j;obtain rfl:=aS p;obtain rfl:=aS q;simp only[aY.aP.injEq]at j;subst j;simp only[cd]at i;refine⟨_,g,ko (y (u:=.int M (M.wrap m)) (w':=w) ?_) h (by simp only[aR,cd]) aa⟩;rw[i];unfold convert;simp only[run_bind,run_underlying (ui B),run_underlying (ui C)];rfl
  ·rename_i b p q j;obtain rfl:=aS p;obtain rfl:=aS q;simp only[aY.aP.injEq]at j;subst j;obtain⟨l,i,Y⟩:=i;refine⟨_,g,ko (y (u:=a.eval x) (w':=w) ?_) h (by simp only[aR];exact⟨l,i,Y⟩) aa⟩;rw[i];unfold convert;simp only[run_bind,run_underlying (uj B),run_underlying (uj C)];rfl
  ·rename_i b p q j;obtain rfl:=aS p;obtain rfl:=aS q;simp only[aY.aP.injEq]at j;subst j;obtain⟨l,i,rfl⟩:=i;obtain⟨e,z,G⟩:=j2 C
   cases hm:mkObj s id (.row (.int .u8) .R 0 (eg l.data.toList))with
   |none=>rw[hm]at g;simp at g
   |some ad=>
    rw[hm]at g;obtain⟨ab,rfl⟩:=n_ hm;obtain⟨arr,c,d,hr,hc,has,hv⟩:=Zl (P:=P) (w:=w) (e:=e) (b:=l);have hlen:(eg l.data.toList).length=l.size:=by simp[eg]
    have hn:=h.newRow ab (t:=.int .u8) (em:=.R) (HA (eg l.data.toList)) bD.none d arr e (c,c+1) c hv (by rw[hlen];exact hc) (by simp only[U.size];omega) (.inr (by simp[U.size])) (.inl rfl);refine⟨_,g,ko (y (u:=.slice (some (at_ w.heap.size 0)) l.size c) ?_) hn ?_ aa⟩
    ·rw[i];unfold convert;simp only[run_bind,run_underlying (uj B),run_underlying z,run_underlying (ui G)];exact hr
    ·simp only[aR];have:=wq (w:=grown w d arr e (c,c+1)) (Z:=Z) (s:=s) (ι :=ι) (id:=id) (em:=.R) (ver:=0) (t:=.int .u8) (xs:=eg l.data.toList) (A:=at_ w.heap.size 0) (c:=c) (F:=(ae.run w.heap.size 0 (c*(U.int .u8).size)).or ae.none) rfl (by rw[hlen];exact hc);rw[hlen]at this;exact this
  ·rename_i c' p q j;obtain rfl:=aS p;obtain rfl:=aS q;simp only[aY.aP.injEq]at j;subst j;obtain⟨e,z,G⟩:=j2 B
   cases hl:m2 s (.int .u8) c with
   |none=>rw[hl]at g;simp at g
   |some xs=>
    rw[hl]at g;simp only at g;obtain⟨N,_,_⟩:=Hg h hl i;simp only[U.al]at N;obtain⟨A,H,hv,I⟩:=N;simp only[jI,fK]at hv;have V:(convert src dst (a.eval x)).run P w=(Conv.bytesToString (a.eval x)).run P w:=by rw[hv];exact run_convert_bytes_string w src dst e A xs.length H z (ui G) (uj C)
    rcases I with rfl|⟨ac,rfl,W,I,_,_⟩
    ·refine⟨_,g,ko (v:=.string .empty) (w':=w) (y ?_) h ?_ aa⟩
     ·rw[V,hv]
      cases A with
      |none=>rfl
      |some A=>exact run_bytesToString w A 0 H [] (by rfl)
     ·simp only[aR,cd];exact⟨_,rfl,rfl⟩
    ·obtain⟨af,ah,aj⟩:=ac;simp only at W;subst W;have hc:=Pm (k:=.u8) (by simpa only[U.size]using I);have X:=run_loadCells (P:=P) hc;rw[List.length_map]at X;refine⟨_,g,ko (v:=.string (xs.foldl (fun r n=>r.push (UInt8.ofNat n.toNat)) ByteArray.empty)) (w':=w) (y ?_) h ?_ aa⟩
     ·rw[V,hv];exact run_bytesToString w _ xs.length H xs X
     ·simp only[aR,cd];exact⟨_,rfl,by rw[Zm];rfl⟩
  ·simp at g
 |_=>exfalso;rw[D,pF.eq_def,hs,ht]at hk;split at hk<;>simp_all
def HB{e6:Bool}{k:IntKind}:∀(l:List aY) (x:Int) (vs:List Value) (k':IntKind) (z:Int),aX w Z s ι l vs->rh e6 k x l=some (k',z) →
  (vs.foldlM (if e6 then Builtin.max2 else Builtin.min2) (.int k x)).run P w'=.ok (.int k' z) w'
 | [],x,vs,k',z,hr,h=>by simp only[aX]at hr;subst hr;simp only[rh,cQ,fj]at h;obtain⟨rfl,rfl⟩:=h;rfl
 |v::l,x,vs,k',z,hr,h=>by
  simp only[aX]at hr;obtain⟨d,us,rfl,h1,b⟩:=hr
  cases v with
  |aP c=>
   cases c with
   |int e g=>
    simp only[rh]at h;simp only[aR,cd]at h1;subst h1;rw[List.foldlM_cons,run_bind];have a:=HB l _ us k' z b h;cases e6
    ·exact a
    ·exact a
   |_=>simp[rh]at h
  |_=>simp[rh]at h
def rr(h:Inv w0 F0 Z0 n s a w ι Z):∀l:List Operand,aX w Z s ι (l.map (bP s)) (l.map a.eval)
 | []=>by simp only[List.map_nil,aX]
 |x::l=>by simp only[dh,aX];exact⟨_,_,rfl,ew h x,rr h l⟩
def Pn{b:Builtin}{c:Call}(G:fU P E)(h:Inv w0 F0 Z0 n s a w ι Z)(aa:∀k,o.dst=some k->k<n)(D:o.op=.call c)(hb:c.callee=.builtin b)(H:b≠.append)(I:b≠.clear)(hk:cK E id o s K=some r):
  ∃an,K an=some r/\Pure P o a w (cO w0 F0 Z0 n an):=by
 unfold cK at hk;rw[D]at hk;simp only[hb]at hk;have g:=rr h c.args.toList;have p:∀{i:Value}{cs:Array Bool}{w:World},(builtin b c.argTypes o.type (c.args.map fun|.const _=>true|_=>false) (c.args.map a.eval)).run P w=.ok (.value i) w->(execOp a.eval o).run P w=.ok (.value i) w:=by intro i _ w u;unfold execOp;rw[D];simp only[run_bind,resolve,hb,run_pure,invoke];exact u
 have y:(c.args.map a.eval).toList=c.args.toList.map a.eval:=by simp
 cases b with
 |append=>exact absurd rfl H
 |clear=>exact absurd rfl I
 |len=>
  generalize hl:c.args.toList.map (bP s)=l at hk g
  match l,hk,g with
  | [.aP j],hk,g=>
   simp only[jm]at hk
   cases B:c.argTypes.toList with
   |nil=>rw[B]at hk;simp at hk
   |cons t ah=>
    rw[B]at hk;simp only at hk
    cases ht:E.ty t with
    |none=>rw[ht]at hk;simp at hk
    |some T=>
     rw[ht]at hk;simp only at hk;cases d:j0 s T j
     ·rw[d]at hk;simp at hk
     rw[d]at hk;simp only[au]at hk
     cases hlen:mf s j with
     |none=>rw[hlen]at hk;simp at hk
     |some m=>
      rw[hlen]at hk;simp only[aX,aR]at g;obtain⟨i,us,he,hc,rfl⟩:=g;have J:(c.args.map a.eval)[0]?=some i:=by rw[<-Array.getElem?_toList,y,he];rfl
      have L:c.argTypes[0]?=some t:=by rw[<-Array.getElem?_toList,B];rfl
      have F:=G.ty _ _ ht;refine⟨_,hk,du (v:=.int .i64 m) (fun w'=>p (cs:= #[]) ?_) h (by simp only[aR,cd]) aa⟩;unfold builtin;refine e8 ?_;unfold Builtin.len_;rw[J,L];simp only
      have M:T=.str\/∃i,T=.sl i:=by
       cases j<;>simp only[j0]at d<;>try (simp at d;done)
       ·exact .inl (beq_eq d)
       ·exact .inr ⟨_,beq_eq d⟩
       ·exact .inr ⟨_,beq_eq d⟩
       ·split at d
        ·exact .inr ⟨_,beq_eq d⟩
        ·simp at d
      rcases M with rfl|⟨v,rfl⟩
      ·rw[run_bind,run_underlying (uj F)];cases j<;>simp only[j0]at d<;>try (simp[U.beq]at d;done)
       ·obtain⟨N,rfl,rfl⟩:=hc;simp only[mf,cQ]at hlen;subst hlen;rfl
       ·split at d<;>simp[U.beq]at d
      ·obtain⟨e,u,_⟩:=j2 F;rw[run_bind,run_underlying u];obtain⟨A,k,rfl,_⟩:=Hw rfl d hlen hc;rfl
  | [],hk,_=>simp[jm]at hk
  |_::_::_,hk,_=>simp[jm]at hk
  | [.bf],hk,_| [.hJ _],hk,_| [.ptr _],hk,_| [.c2 _ _ _],hk,_| [.jl],hk,_| [.jX],hk,_| [.opt _ _],hk,_| [.may _ _ _],hk,_| [.pB _],hk,_| [.fn _ _ _],hk,_| [.mZ _],hk,_=>simp[jm]at hk
 |max=>
  simp only[jm]at hk
  cases hm:tV true (c.args.toList.map (bP s))with
  |none=>rw[hm]at hk;simp at hk
  |some q=>
   obtain⟨k,z⟩:=q;rw[hm]at hk;simp only at hk;refine⟨_,hk,du (v:=.int k z) (fun w'=>p (cs:= #[]) ?_) h (by simp only[aR,cd]) aa⟩;unfold builtin;refine e8 ?_;unfold Builtin.max_;rw[y];generalize c.args.toList.map (bP s)=l at hm g;generalize c.args.toList.map a.eval=vs at g;unfold tV at hm;split at hm
   ·simp only[aX,aR,cd]at g;obtain⟨i,us,rfl,rfl,C⟩:=g;exact HB _ _ us k z C hm
   ·simp at hm
 |min=>
  simp only[jm]at hk
  cases hm:tV false (c.args.toList.map (bP s))with
  |none=>rw[hm]at hk;simp at hk
  |some q=>
   obtain⟨k,z⟩:=q;rw[hm]at hk;simp only at hk;refine⟨_,hk,du (v:=.int k z) (fun w'=>p (cs:= #[]) ?_) h (by simp only[aR,cd]) aa⟩;unfold builtin;refine e8 ?_;unfold Builtin.min_;rw[y];generalize c.args.toList.map (bP s)=l at hm g;generalize c.args.toList.map a.eval=vs at g;unfold tV at hm;split at hm
   ·simp only[aX,aR,cd]at g;obtain⟨i,us,rfl,rfl,C⟩:=g;exact HB _ _ us k z C hm
   ·simp at hm
 |_=>simp[jm]at hk
end
end Go.LM
namespace Go.LM
def Po{α:Type}:∀(B:List (List α)) (i:Nat) (b cs:List α),B[i]?=some b->cs.length=b.length->(B.set i cs).flatten=c9 B.flatten (B.take i).flatten.length cs
 | [],i,b,cs,h,_=>by simp at h
 |x::B,0,b,cs,h,hl=>by simp at h;subst h;simp only[List.set_cons_zero,kH,List.take_zero,List.flatten_nil,cU];unfold c9;simp[hl]
 |x::B,i+1,b,cs,h,hl=>by simp only[List.getElem?_cons_succ]at h;simp only[List.set_cons_succ,kH,List.take_succ_cons,bZ];rw[OY (by omega),Po B i b cs h hl];congr 2;omega
def Zp{α:Type}{B:List (List α)}{i:Nat}{b:List α}(h:B[i]?=some b):(B.take i).flatten.length+b.length<=B.flatten.length:=by
 induction B generalizing i with
 |nil=>simp at h
 |cons x B a=>
  cases i with
  |zero=>simp at h;subst h;simp
  |succ i=>simp only[List.getElem?_cons_succ]at h;have:=a h;simp only[List.take_succ_cons,kH,bZ];omega
def Pp:∀(vs:List Value) (k off:Nat) (cells:Array Value),off+k+vs.length<=cells.size →
  ((vs.zipIdx k).foldl (fun cs (c,j)=>cs.setIfInBounds (off+j) c) cells).toList=c9 cells.toList (off+k) vs
 | [],k,off,cells,_=>by simp[zf]
 |v::vs,k,off,cells,h=>by
  simp only[b2]at h;rw[List.zipIdx_cons,List.foldl_cons,Pp vs (k+1) off _ (by simp;omega)];simp only[Array.toList_setIfInBounds];have a:off+k<cells.toList.length:=by simp;omega
  apply List.ext_getElem?;intro j;unfold c9;simp only[List.getElem?_append,bZ,dX,bL,b2,List.getElem?_take,List.getElem?_drop,List.getElem?_set];have d:min (off +(k+1)) cells.toList.length=off+k+1:=by omega
  have e:min (off+k) cells.toList.length=off+k:=by omega
  rw[d,e];by_cases h1:j<off+k
  ·have:j≠off+k:=by omega
   simp[show j<off+k+1+vs.length by omega,show j<off+k+1 by omega,show j<off +(k+1) by omega,show j<off+k +(vs.length+1) by omega,h1,Ne.symm this]
  ·by_cases g:j=off+k
   ·subst g;simp only[lu]at a;simp[show off+k<off+k+1+vs.length by omega,show off+k<off +(k+1) by omega,a]
   ·by_cases b:j<off+k+1+vs.length
    ·rw[bg b,bd (show ¬j<off+k+1 by omega),bg (show j<off+k +(vs.length+1) by omega),bd h1];rw[show j-(off+k)=(j-(off+k+1))+1 by omega,List.getElem?_cons_succ]
    ·rw[bd b,bd (show ¬j<off+k +(vs.length+1) by omega)];rw[bd (by omega)];congr 1;omega
def HC(place:Nat->Option (Nat×Nat))(ty:Nat->Option U)(lens:List Nat):Prop:=
 ∀i t,ty i=some t->place i=some ((lens.take i).sum,t.size)/\lens[i]?=some t.size
section
variable{P:Program}{Q:Exit->Act->World->Prop}
variable{w0:World}{F0 Z0:ae}{n:cl}{s an:av}{a b0:Act}{w w':World}{ι a':Nat->bz}{Z Z':ae}
variable{E:Env}{o:Oper}{bn:Type}{K:av->Option bn}{r:bn}{id:Nat}
def Zq{α:Type}(B:List (List α)):B.flatten.length=(B.map List.length).sum:=by simp[List.length_flatten]
def HD(h:Inv w0 F0 Z0 n s a w ι Z){place:Nat->Option (Nat×Nat)}{ty:Nat->Option U}{lens:List Nat}(o:HC place ty lens):
  ∀(ps:List (Nat×Operand)) (B g:List (List a7)) (cells:Array Value),B.map List.length=lens->bG w Z s ι B.flatten cells.toList->pD s ty ps B=some g →
   ∃l,Instr.fill place cells (ps.map fun p=>(p.1,a.eval p.2))=some l/\bG w Z s ι g.flatten l.toList/\g.map List.length=lens
 | [],B,g,cells,hl,hc,d=>by simp only[pD,cQ]at d;subst d;exact⟨cells,rfl,hc,hl⟩
 |(i,x)::ps,B,g,cells,hl,hc,d=>by
  simp only[pD]at d
  cases ht:ty i with
  |none=>rw[ht]at d;simp at d
  |some t=>
   rw[ht]at d;simp only at d
   cases m:ib t (bP s x)with
   |none=>rw[m]at d;simp at d
   |some cs=>
    rw[m]at d;simp only at d;cases hb:Nat.beq cs.length t.size
    ·rw[hb]at d;simp at d
    rw[hb]at d;simp only[au]at d;have hb:=cG hb;obtain⟨ai,e⟩:=o i t ht;have q:=pO m (ew h x);have r:=q.len;rw[hb]at r
    have v:∃b,B[i]?=some b/\b.length=t.size:=by
     rw[<-hl,List.getElem?_map]at e
     cases k:B[i]? with
     |none=>rw[k]at e;simp at e
     |some b=>rw[k]at e;simp at e;exact⟨b,rfl,e⟩
    obtain⟨b,k,H⟩:=v;have y:(B.take i).flatten.length=(lens.take i).sum:=by rw[Zq,<-hl,List.map_take]
    have hle:=Zp k;have z:=hc.len;simp only[lu]at r z;have A:bG w Z s ι (B.set i cs).flatten (c9 cells.toList (lens.take i).sum (a.eval x).cells.toList):=by rw[Po B i b cs k (by omega),y];unfold c9;have:=bG.c9 hc q (lens.take i).sum;unfold c9 at this;exact this
    have C:(B.set i cs).map List.length=lens:=by
     rw[List.map_set,hl];apply List.ext_getElem?;intro j;rw[List.getElem?_set];by_cases u:i=j
     ·subst u;rw[e,bg rfl]
      have:i<lens.length:=by
       rcases ff i lens.length with h|h
       ·exact h
       ·rw[List.getElem?_eq_none h]at e;simp at e
      rw[bg this,hb]
     ·rw[bd u]
    have D:=Pp (a.eval x).cells.toList 0 (lens.take i).sum cells (by simp;omega)
    have E:=HD h o ps (B.set i cs) g (((a.eval x).cells.zipIdx).foldl (fun cs (c,j)=>cs.setIfInBounds ((lens.take i).sum+j) c) cells) C (by
     rw[<-Array.foldl_toList,Array.toList_zipIdx]
     rw[D];exact A) d
    obtain⟨l,h1,F,G⟩:=E;refine⟨l,?_,F,G⟩;rw[dh];unfold Instr.fill;rw[ai];simp only;rw[bd (by simp only[kI,ei,not_or,ne_eq,Decidable.not_not];omega)];exact h1
def aw.places:aw->Nat->List (Nat×Nat)
 |.nil,_=>[]
 |.cons t ah,off=>(off,t.size)::aw.places ah (off+t.size)
def Pq:∀(ah:aw) (a:List Field) (off:Nat),ah.okF P a off->a.mapM (fun f=>(P.info? f.type).map fun i=>(f.offset,i.size))=some (ah.places off)
 |.nil,a,off,h=>by simp only[aw.okF]at h;subst h;rfl
 |.cons t ah,a,off,h=>by simp only[aw.okF]at h;obtain⟨f,b,rfl,rfl,h1,d⟩:=h;obtain⟨i,e,g,_⟩:=h1.info;have j:=Pq ah b _ d;simp only[List.mapM_cons,e,fe,j,aw.places,g];rfl
def Pr:∀ah:aw,ah.mg.flatten=ah.iE
 |.nil=>rfl
 |.cons t ah=>by simp only[aw.mg,aw.iE,kH,Pr ah]
def HE(t:U):t.iE.length=t.size:=by have:=(pP (w:=default) (Z:=ae.none) (s:=⟨fun _=>.bf,fun _=>.none,[]⟩) (ι :=fun _=>⟨none,0,ae.none⟩) t).len;rw[<-this,U.kn]
def Ps:∀(ah:aw) (off:Nat) (i:Nat) (t:U),ah.nth i=some t->(ah.places off)[i]?=some (off +((ah.mg.map List.length).take i).sum,t.size)/\(ah.mg.map List.length)[i]?=some t.size
 |.nil,_,_,_,h=>by simp[aw.nth]at h
 |.cons a ah,off,0,t,h=>by simp only[aw.nth,cQ]at h;subst h;simp[aw.places,aw.mg,HE]
 |.cons a ah,off,i+1,t,h=>by simp only[aw.nth]at h;obtain⟨h1,b⟩:=Ps ah (off+a.size) i t h;simp only[aw.places,aw.mg,dh,List.getElem?_cons_succ,List.take_succ_cons,eM,HE];exact⟨by rw[h1];simp;omega,b⟩
def Pt{t:Nat}{parts:Array (Nat×Operand)}(j:fU P E)(h:Inv w0 F0 Z0 n s a w ι Z)(aa:∀k,o.dst=some k->k<n)(g:o.op=.build t parts)(hk:cK E id o s K=some r):
  ∃an,K an=some r/\Pure P o a w (cO w0 F0 Z0 n an):=by
 unfold cK at hk;rw[g]at hk;simp only at hk
 cases ht:E.ty t with
 |none=>rw[ht]at hk;simp at hk
 |some T=>
  rw[ht]at hk
  cases T with
  |st ah=>
   simp only at hk
   cases b:pD s ah.nth parts.toList ah.mg with
   |none=>rw[b]at hk;simp at hk
   |some B=>
    rw[b]at hk;have d:=j.ty t _ ht;obtain⟨it,l,F,m,G⟩:=d.info;simp only[U.ok]at d;obtain⟨_,p,q,u⟩:=d;have y:=Pq ah p.toList 0 u;have z:HC ((ah.places 0).toArray[·]?) ah.nth (ah.mg.map List.length):=by intro i A C;have:=Ps ah 0 i A C;simpa using this
    obtain⟨e,h1,D,H⟩:=HD h z parts.toList ah.mg B (c8 (.st ah) (U.st ah).cD).cells rfl (by rw[Pr,uh];exact pP (.st ah)) b;refine⟨_,hk,du (v:=.agg e) (fun w'=>?_) h (by simp only[aR];exact⟨e.toList,rfl,D⟩) aa⟩;unfold execOp;rw[g];refine e8 ?_;refine run_build w' t _ e ?_;unfold Program.built;rw[l,q];simp only[m,y];rw[<-h1];congr 1;simp
  |_=>simp at hk
def Pu{t:U}{m:a8}{x:t.D}{us:List Value}{F:ae}(h:t.al w (Z.or (db ι [])) m x us F):t.al w Z m x us F:=
 U.al.mono (fun b o a=>by rcases a with h|⟨d,aa,_⟩;exact h;simp at aa) t m (fun _ _ h=>h) h
def Pv:∀(B:List (List a7)) (t:U) (m:a8) (s e:av) (xs:List t.D) (vs:List Value) (Z:ae),n2 t m B s=some (xs,e)->Inv w0 F0 Z0 n s a w ι Z->bG w Z s ι B.flatten vs →
  ∃F Z',Inv w0 F0 Z0 n e a w ι Z'/\eN s ι Z e Z'/\bD w0 F0 e w ι Z' F/\cV (t.al w Z' m) t.size xs vs F/\∀b o,F b o->∃id,(s.o id).live/\(ι id).F b o
 | [],t,m,s,e,xs,vs,Z,d,h,hc=>by
  simp only[n2,cQ,fj]at d;obtain⟨rfl,rfl⟩:=d
  cases vs with
  |nil=>exact⟨ae.none,Z,h,.refl,.none,rfl,fun _ _ h=>h.elim⟩
  |cons v vs=>exact hc.elim
 |cs::B,t,m,s,e,xs,vs,Z,d,h,hc=>by
  simp only[n2]at d;obtain⟨r,hr,d⟩:=a6 d;rw[kH]at hc;obtain⟨us,ah,rfl,V,D,E⟩:=hc.split;obtain⟨W,H,F,I,he,h1,i,y,z,g,_,J,_,K⟩:=U.j1 t false m cs s [] r us Z hr h D (by simp)
  cases A:r.2.1 with
  |cons c l=>rw[A]at d;simp at d
  |nil=>
   rw[A]at d y;simp only at d;obtain⟨q,L,d⟩:=a6 d;simp only[cQ,fj]at d;obtain⟨rfl,rfl⟩:=d
   cases H with
   |cons v l=>exact y.elim
   |nil=>
    rw[dn]at he;subst he;rw[J rfl]at g;have g:=Pu g;obtain⟨G,bK,M,k,N,P,C⟩:=Pv B t m r.2.2.1 q.2 q.1 ah I L h1 (Y9 i E);refine⟨F.or G,bK,M,i.trans k,(z.shrink k).or N,⟨us,ah,F,G,rfl,U.al.mono k.dt t m (fun _ _ h=>h) g,(U.al.len t m g).1,P,?_,fun _ _ h=>.inl h,fun _ _ h=>.inr h⟩,?_⟩
    ·intro b o hb Q;obtain⟨j,p,u⟩:=C b o Q;exact z.apart j p b o hb u
    ·rintro b o (hb|hb)
     ·exact K b o hb
     ·obtain⟨j,p,u⟩:=C b o hb;obtain⟨T,X⟩:=i.live p;exact⟨j,T,u⟩
def Pw{t:U}{m:a8}:∀(B:List (List a7)) (s:av) {xs:List t.D}{a:av},n2 t m B s=some (xs,a)->xs.length=B.length
 | [],s,xs,a,h=>by simp only[n2,cQ,fj]at h;rw[<-h.1];rfl
 |cs::B,s,xs,a,h=>by
  simp only[n2]at h;obtain⟨r,hr,h⟩:=a6 h;split at h
  ·obtain⟨q,b,h⟩:=a6 h;simp only[cQ,fj]at h;rw[<-h.1,b2,b2,Pw B _ b]
  ·simp at h
def Zr{T:U}{t e len:Nat}{parts:Array (Nat×Value)}{cells:Array Value}(g:P.underlying t=some (.slice e))(b:T.ok P e)(hs:len*T.size<=16777216)
  (a:Instr.fill (fun i=>some (i*T.size,T.size)) ((Array.range (len*T.size)).map ((if len*T.size=0 then #[] else(c8 T T.cD).cells)[· % (if len*T.size=0 then #[] else(c8 T T.cD).cells).size]!)) parts.toList=some cells):
  (Instr.buildSlice t len parts).run P w=.ok (.slice (some (at_ w.heap.size 0)) len len) (grown w w.drawn cells e (0,0)):=by
 unfold Instr.buildSlice;simp only[run_bind,run_underlying g,run_sizeOf b];rw[bd (by omega)];by_cases d:len*T.size=0
 ·simp only[d,if_true]at a⊢;simp only[run_bind,run_pure,a,zn]
 ·simp only[d,fT]at a⊢;simp only[run_bind,run_pure,zg b,a,zn]
def Zs{t len:Nat}{parts:Array (Nat×Operand)}(C:fU P E)(h:Inv w0 F0 Z0 n s a w ι Z)(aa:∀k,o.dst=some k->k<n)(u:o.op=.buildSlice t len parts)(hk:cK E id o s K=some r):
  ∃an,K an=some r/\o.wp P a w (cO w0 F0 Z0 n an) Q:=by
 unfold cK at hk;rw[u]at hk;simp only at hk
 cases ht:E.ty t with
 |none=>rw[ht]at hk;simp at hk
 |some S=>
  rw[ht]at hk
  cases S with
  |sl T=>
   simp only at hk;cases hle:Nat.ble (len*T.size) 16777216
   ·rw[hle]at hk;simp at hk
   rw[hle]at hk;simp only[au]at hk;have hle:=fc hle
   cases d:pD s (fun i=>cond (Nat.blt i len) (some T) none) parts.toList (List.replicate len T.iE)with
   |none=>rw[d]at hk;simp at hk
   |some B=>
    rw[d]at hk;simp only at hk;generalize hm:GW T s B=m at hk
    cases b:n2 T m B s with
    |none=>rw[b]at hk;simp at hk
    |some q=>
     obtain⟨xs,g⟩:=q;rw[b]at hk;simp only at hk
     cases l:mkObj g id (.row T m 0 xs)with
     |none=>rw[l]at hk;simp at hk
     |some aj=>
      rw[l]at hk;obtain⟨D,rfl⟩:=n_ l;obtain⟨e,G,H⟩:=j2 (C.ty t _ ht)
      have I:HC (fun i=>some (i*T.size,T.size)) (fun i=>cond (Nat.blt i len) (some T) none) (List.replicate len T.size):=by
       intro i J b;have b:cond (Nat.blt i len) (some T) none=some J:=b;cases hb:Nat.blt i len
       ·rw[hb]at b;simp at b
       ·rw[hb]at b;simp only[au,cQ]at b;subst b;have L:i<len:=jW (Nat.lt_succ_self i) (fc hb);refine⟨?_,by simp[List.getElem?_replicate,L]⟩;rw[List.take_replicate,Nat.min_eq_left (by omega)];simp
      have M:∀k,bG w Z s ι (List.replicate k T.iE).flatten (List.replicate k T.cD).flatten:=by
       intro k
       induction k with
       |zero=>exact trivial
       |succ k N=>rw[List.replicate_succ,List.replicate_succ,kH,kH];exact(pP T).append N
      have V:((Array.range (len*T.size)).map ((if len*T.size=0 then #[] else(c8 T T.cD).cells)[· % (if len*T.size=0 then #[] else(c8 T T.cD).cells).size]!)).toList=(List.replicate len T.cD).flatten:=by
       apply List.ext_getElem?;intro j;have ak:(List.replicate len T.cD).flatten.length=len*T.size:=by simp[U.kn]
       by_cases al:j<len*T.size
       ·have W:¬len*T.size=0:=by omega
        simp only[bd W];obtain⟨v,hv⟩:∃v,(List.replicate len T.cD).flatten[j]?=some v:=⟨_,List.getElem?_eq_getElem (by omega)⟩
        rw[hv,Array.getElem?_toList];exact Hz T.cD len (uh T) (by rw[U.kn]) v hv
       ·rw[List.getElem?_eq_none (by simp;omega),List.getElem?_eq_none (by omega)]
      obtain⟨p,h1,X,Y⟩:=HD h I parts.toList (List.replicate len T.iE) B _ (by simp[HE]) (by rw[V];exact M len) d;obtain⟨F,ab,ac,ao,ad,y,_⟩:=Pv B T m s g xs _ Z b h X
      have z:xs.length=len:=by
       have af:B.length=len:=by have:=congrArg List.length Y;simpa using this
       rw[<-af];exact Pw B s b
      have ah:len*T.size<=p.size:=by have:=y.len;simp only[lu]at this;rw[z]at this;omega
      have hn:=ac.newRow D y ad w.drawn p e (0,0) len (fun j v hv=>by simpa using hv) (by omega) ah (.inl rfl) (.inr rfl);refine⟨_,hk,ko (v:=.slice (some (at_ w.heap.size 0)) len len) ?_ hn ?_ aa⟩
      ·unfold execOp;rw[u];refine e8 ?_;refine Zr G H hle ?_;rw[<-h1];congr 1;simp
      ·simp only[aR];have:=wq (w:=grown w w.drawn p e (0,0)) (Z:=ab) (s:=g) (ι :=ι) (id:=id) (em:=m) (ver:=0) (xs:=xs) (A:=at_ w.heap.size 0) (c:=len) (F:=(ae.run w.heap.size 0 (len*T.size)).or F) rfl (by omega);rw[z]at this;exact this
  |_=>simp at hk
end
end Go.LM
namespace Go.LM
section
variable{P:Program}{Q:Exit->Act->World->Prop}
variable{w0:World}{F0 Z0:ae}{n:cl}{s an:av}{a b0:Act}{w w':World}{ι a':Nat->bz}{Z Z':ae}
variable{E:Env}{o:Oper}{bn:Type}{K:av->Option bn}{r:bn}{id:Nat}
def Inv.zo(h:Inv w0 F0 Z0 n s a w ι Z){S:ae}(d:bD w0 F0 s w ι Z S)(e:Ext w w' S):Inv w0 F0 Z0 n s a w' ι Z:=by
 have hm:d_ w Z s ι w' Z s ι :=by
  refine⟨fun id=>.stay _ _,fun _ _ h=>h,bS.gw e h.pN ?_⟩
  rintro b o (g|⟨id,hl,_,_,i⟩) hs
  ·exact d.cB b o hs g
  ·exact d.apart id hl b o hs i
 refine h.next hm e (fun b o hs=>(d.own b o hs).1) (fun _ _ h=>.inl h) ?_ h.cB (fun k=>(h.tmps k).move hm) h.size h.defers;intro id _ j;exact absurd ⟨rfl,rfl⟩ j
def Inv.freeze(h:Inv w0 F0 Z0 n s a w ι Z){S:ae}(e:bD w0 F0 s w ι Z S):Inv w0 F0 Z0 n s a w ι (Z.or S):=by
 have hm:d_ w Z s ι w (Z.or S) s ι :=⟨fun id=>.stay _ _,fun _ _ h=>.inl h,bS.refl _ _⟩;refine h.next hm (Ext.refl _ ae.none) (fun _ _ h=>h.elim) ?_ ?_ ?_ (fun k=>(h.tmps k).move hm) h.size h.defers
 ·rintro b o (g|hs)
  ·exact .inl g
  ·exact .inr (e.own b o hs)
 ·intro id _ i;exact absurd ⟨rfl,rfl⟩ i
 ·rintro id hl b o h1 (d|d)
  ·exact h.cB id hl b o h1 d
  ·exact e.apart id hl b o d h1
def bD.freeze{F S:ae}(a:bD w0 F0 s w ι Z F)(d:ae.apart F S):bD w0 F0 s w ι (Z.or S) F:=
 ⟨a.own,a.apart,fun b o h1 e=>e.elim (a.cB b o h1) (d b o h1)⟩
def bD.sub{F G:ae}(d:bD w0 F0 s w ι Z F)(h:ae.sub G F):bD w0 F0 s w ι Z G:=
 ⟨fun b o a=>d.own b o (h b o a),fun id hl b o a=>d.apart id hl b o (h b o a),fun b o a=>d.cB b o (h b o a)⟩
def ae.diff(F G:ae):ae:=fun b o=>F b o/\¬G b o
def y0{t:U}{m:a8}:∀{xs:List t.D}{vs:List Value}{F:ae},cV (t.al w Z m) t.size xs vs F->∀v∈vs,dD v=true
 | [],_,_,h=>by simp only[cV]at h;subst h;simp
 |x::xs,_,_,⟨us,ah,G,H,h1,a,d,b,_⟩=>by
  subst h1;intro v hv;rcases List.mem_append.1 hv with h|h
  ·exact(U.al.len t m a).2 v h
  ·exact y0 b v h
def pw{A:Option Addr}{size m c:Nat}{vs:List Value}(hl:vs.length=m*size)(h:m=0\/∃b o,A=some (at_ b o)/\bV w b o vs):
  (Builtin.firstCells size m (.slice A m c)).run P w=.ok vs.toArray w:=by
 unfold Builtin.firstCells;rcases h with rfl|⟨b,o,rfl,hc⟩
 ·have:vs=[]:=lq (by simpa using hl);subst this
  cases A with
  |none=>rfl
  |some A=>simp only[Nat.zero_mul];rfl
 ·simp only[<-hl];exact run_loadCells hc
def zp{t:U}{e:a8}{xs:List t.D}{v:Value}{F:ae}(h:(U.sl t).al w Z (.O e) xs [v] F):
  ∃A c vs,v=.slice A xs.length c/\cV (t.al w Z e) t.size xs vs F/\∀d,(Builtin.firstCells t.size xs.length v).run P { w with drawn:=d } = .ok vs.toArray { w with drawn:=d }:=by
 simp only[U.al]at h;obtain⟨A,c,hv,h⟩:=h;simp only[jI,fK]at hv;subst hv;rcases h with⟨rfl,rfl⟩|⟨⟨b,o,k⟩,rfl,hr⟩
 ·exact⟨A,0,[],rfl,rfl,fun d=>pw (by simp) (.inl rfl)⟩
 ·obtain⟨G,g,l,i⟩:=hr.row;have a:=hr.spot;simp only at a;subst a;obtain⟨vs,h1,j⟩:=g.q5;exact⟨_,c,vs,rfl,h1.mono i,fun d=>pw h1.len (.inr ⟨b,o,rfl,j⟩)⟩
def Zt{t:U}{xs:List t.D}{v:Value}{F:ae}(h:(U.sl t).al w Z .R xs [v] F):
  ∃A c vs,v=.slice A xs.length c/\cV (t.al w Z .R) t.size xs vs ae.none/\∀d,(Builtin.firstCells t.size xs.length v).run P { w with drawn:=d } = .ok vs.toArray { w with drawn:=d }:=by
 simp only[U.al]at h;obtain⟨A,c,hv,h⟩:=h;simp only[jI,fK]at hv;subst hv;rcases h with rfl|⟨⟨b,o,g⟩,rfl,a,hr,_,_⟩
 ·exact⟨A,c,[],rfl,rfl,fun d=>pw (by simp) (.inl rfl)⟩
 ·simp only at a;subst a;obtain⟨vs,h1,e⟩:=hr.q5;exact⟨_,c,vs,rfl,h1.imp (fun i us G hs hr=>pI hr |> fun h=>U.al.mono (fun _ _ h=>h) t .R (fun _ _ h=>h.elim) h),fun d=>pw h1.len (.inr ⟨b,o,rfl,e⟩)⟩
def Px{t:U}{c:a7}{v:Value}{C:a8}{p:List t.D}{q:av}(g:added s t c=some (C,p,q))(h:Inv w0 F0 Z0 n s a w ι Z)(hc:cd w Z s ι c v):
  ∃vs F,(Builtin.lenOf v).run P w=.ok p.length w/\(∀d,(Builtin.firstCells t.size p.length v).run P { w with drawn:=d } = .ok vs.toArray { w with drawn:=d })/\cV (t.al w Z C) t.size p vs F ∧
   Inv w0 F0 Z0 n q a w ι Z/\eN s ι Z q Z/\bD w0 F0 q w ι Z F:=by
 cases c with
 |nil r=>simp only[added]at g;obtain⟨x,i,g⟩:=a6 g;obtain⟨e,rfl⟩:=gx i;subst e;simp only[cQ,fj]at g;obtain⟨rfl,rfl,rfl⟩:=g;have hv:v=.slice none 0 0:=hc;subst hv;exact⟨[],ae.none,rfl,fun _=>rfl,rfl,h,.refl,.none⟩
 |bq r dp K xs=>
  simp only[added]at g;cases u:alive s dp
  ·rw[u]at g;simp at g
  cases l:(t.flat||dp.isEmpty)
  ·rw[u,l]at g;simp at g
  rw[u,l]at g;simp only[jk,au]at g;obtain⟨x,i,g⟩:=a6 g;obtain⟨e,rfl⟩:=gx i;subst e;simp only[cQ,fj]at g;obtain⟨rfl,rfl,rfl⟩:=g;obtain⟨A,I,vs,rfl,h1,k⟩:=Zt (P:=P) (hc.2.2.1 u);refine⟨vs,ae.none,rfl,k,?_,h,.refl,.none⟩;simp only[kI,List.isEmpty_iff]at l;rcases l with l|rfl
  ·exact h1.imp fun D us G _ hr=>py r l hr
  ·exact h1.imp fun D us G _ hr=>Pu hr
 |aa j sub=>
  simp only[added]at g;obtain⟨hk,A,m,I,rfl,J⟩:=hc
  cases o:s.o j with
  |row r em ver xs=>
   rw[o]at g;have E:=h.eU j;rw[o]at E;have y:(s.o j).live:=by rw[o];trivial
   have z:=uc E (J r em ver xs (kk o))
   cases em with
   |R=>simp only at g;obtain⟨x,i,g⟩:=a6 g;obtain⟨e,rfl⟩:=gx i;subst e;simp only[cQ,fj]at g;obtain⟨rfl,rfl,rfl⟩:=g;obtain⟨H,c',vs,hv,h1,k⟩:=zp (P:=P) z;refine⟨vs,ae.none,?_,k,h1.bare fun D us G _ hr=>pI hr,h,.refl,.none⟩;rw[hv];rfl
   |O L=>simp only at g;obtain⟨x,i,g⟩:=a6 g;obtain⟨e,rfl⟩:=gx i;subst e;simp only[cQ,fj]at g;obtain⟨rfl,rfl,rfl⟩:=g;obtain⟨H,c',vs,hv,h1,k⟩:=zp (P:=P) z;refine⟨vs,(ι j).F,?_,k,h1,h.take j (fun _ _ h=>h) (fun _ _ h=>.inl h),ub j y,h.ua y⟩;rw[hv];rfl
   |S ms=>simp only at g;obtain⟨x,i,g⟩:=a6 g;obtain⟨e,rfl⟩:=gx i;subst e;simp only[cQ,fj]at g;obtain⟨rfl,rfl,rfl⟩:=g;obtain⟨H,c',vs,hv,h1,k⟩:=zp (P:=P) z;refine⟨vs,(ι j).F,?_,k,h1,h.take j (fun _ _ h=>h) (fun _ _ h=>.inl h),ub j y,h.ua y⟩;rw[hv];rfl
  |_=>rw[o]at g;simp at g
 |str b=>
  simp only[added]at g;obtain⟨x,i,g⟩:=a6 g;obtain⟨e,rfl⟩:=gx i;subst e;simp only[cQ,fj]at g;obtain⟨rfl,rfl,rfl⟩:=g;obtain⟨B,rfl,rfl⟩:=hc;have hlen:(eg B.data.toList).length=B.size:=by simp[eg]
  refine⟨(eg B.data.toList).map (Value.int .u8),ae.none,?_,?_,HA _,h,.refl,.none⟩
  ·rw[hlen];rfl
  ·intro d;rw[hlen];simp only[Builtin.firstCells,run_pure];congr 1;apply Array.ext';simp[eg]
 |_=>simp[added]at g
def Py{t:U}{c:a7}{v:Value}{p:a8}{xs:List t.D}{i:av}(d:taken s t c=some (p,xs,i))(h:Inv w0 F0 Z0 n s a w ι Z)(hc:cd w Z s ι c v):
  ∃F,(U.sl t).al w Z (.O p) xs [v] F/\Inv w0 F0 Z0 n i a w ι Z/\eN s ι Z i Z/\bD w0 F0 i w ι Z F/\∀b o,F b o->∃id,(s.o id).live/\(ι id).F b o:=by
 cases c with
 |nil q=>simp only[taken]at d;obtain⟨x,k,d⟩:=a6 d;obtain⟨e,rfl⟩:=gx k;subst e;simp only[cQ,fj]at d;obtain⟨rfl,rfl,rfl⟩:=d;have hv:v=.slice none 0 0:=hc;subst hv;refine⟨ae.none,?_,h,.refl,.none,fun _ _ h=>h.elim⟩;simp only[U.al];exact⟨none,0,rfl,.inl (by simp)⟩
 |aa j sub=>
  simp only[taken]at d;obtain⟨hk,A,m,B,rfl,u⟩:=hc
  cases g:s.o j with
  |row q em ver xs=>
   rw[g]at d;simp only at d;have r:=h.eU j;rw[g]at r;have l:(s.o j).live:=by rw[g];trivial
   have y:=uc r (u q em ver xs (kk g));obtain⟨x,k,d⟩:=a6 d;obtain⟨e,rfl⟩:=gx k;subst e;simp only[cQ,fj]at d;obtain⟨rfl,rfl,rfl⟩:=d;exact⟨(ι j).F,y,h.take j (fun _ _ h=>h) (fun _ _ h=>.inl h),ub j l,h.ua l,fun b o z=>⟨j,l,z⟩⟩
  |_=>rw[g]at d;simp at d
 |_=>simp[taken]at d
def Zu{t:U}{j d:a8}{xs q:List t.D}{v:Value}{vs:List Value}{e g:ae}(h:Inv w0 F0 Z0 n s a w ι Z)
  (r:(U.sl t).al w Z (.O j) xs [v] e) (u:cV (t.al w Z d) t.size q vs g) (k:bD w0 F0 s w ι Z e) (hb:bD w0 F0 s w ι Z g) (y:ae.apart e g):
  ∃Z' l m,Inv w0 F0 Z0 n s a w ι Z'/\ae.sub Z Z'/\(U.sl t).al w Z' (.O (meet j d)) xs [v] l/\cV (t.al w Z' (meet j d)) t.size q vs m/\bD w0 F0 s w ι Z' l/\bD w0 F0 s w ι Z' m/\ae.apart l m:=by
 unfold meet;cases hm:a8.beq j d
 ·simp only[ay];obtain⟨F',h1,A⟩:=OX r;have B:bD w0 F0 s w ι Z ((ae.diff e F').or g):=(k.sub fun b o h=>h.1).or hb;refine⟨_,F',ae.none,h.freeze B,fun _ _ h=>.inl h,U.al.mono ?_ _ _ (fun _ _ h=>h) A,?_,?_,.none,fun _ _ _ h=>h⟩
  ·rintro b o (p|p)
   ·exact .inl p
   ·exact .inr (.inl p)
  ·exact u.bare fun C us G hs hr=>U.al.read (fun _ _ h=>.inl h) t d (fun b o i=>.inr (.inr (hs b o i))) hr
  ·refine(k.sub h1).freeze ?_
   rintro b o z (i|i)
   ·exact i.2 z
   ·exact y b o (h1 b o z) i
 ·have:=a8.eq_of_beq _ _ hm;subst this;exact⟨Z,e,g,h,fun _ _ h=>h,r,u,k,hb,y⟩
def GG(z:Array Value)(k:Nat):(Builtin.zeroCells z k).size=k*z.size:=by simp[Builtin.zeroCells]
def run_append_room{A:Option Addr}{m c k size:Nat}{vs:List Value}{d:Value}{h g ty e:TypeId}{ats:Array TypeId}{args:Array Value}
  (j:ats[0]?=some h) (h1:ats[1]?=some g) (l:args[0]?=some (.slice A m c)) (n:args[1]?=some d) (o:P.underlying h=some (.slice e)) (hs:(sizeOf e).run P w=.ok size w)
  (b:P.underlying g=some .string\/∃i,P.underlying g=some (.slice i)) (p:m+k<=c) (hl:(Builtin.lenOf d).run P w=.ok k w) (q:(Builtin.firstCells size k d).run P w=.ok vs.toArray w)
  (r:∀a,A=some a->(storeCells (a.add (m*size)) vs).run P w=.ok () w') (hn:A=none->w'=w):(Builtin.append_ ats ty args).run P w=.ok (.slice A (m+k) c) w':=by
 unfold Builtin.append_;rcases b with b|⟨i,b⟩
 all_goals
  simp only[j,h1,l,n,run_bind,run_underlying o,hs,run_underlying b,run_pure];simp only[gq,fT,run_bind,hl,bg p,cR,if_true,q]
  cases A with
  |none=>rw[hn rfl];rfl
  |some a=>simp only[run_bind,r a rfl,run_pure]
def run_append_grow{A:Option Addr}{m c k size:Nat}{us vs:List Value}{b z:Value}{j g ty e:TypeId}{ats:Array TypeId}{args:Array Value}{i:TypeInfo}
  (o:ats[0]?=some j) (h1:ats[1]?=some g) (l:args[0]?=some (.slice A m c)) (p:args[1]?=some b) (r:P.underlying j=some (.slice e)) (h:P.info? e=some i) (s:i.size=size) (u:i.zero=some z)
  (a:P.underlying g=some .string\/∃n,P.underlying g=some (.slice n)) (v:¬m+k<=c) (hl:(Builtin.lenOf b).run P w=.ok k w)
  (y:∀d,(Builtin.firstCells size m (.slice A m c)).run P { w with drawn:=d } = .ok us.toArray { w with drawn:=d })
  (B:∀d,(Builtin.firstCells size k b).run P { w with drawn:=d } = .ok vs.toArray { w with drawn:=d })
  (hr:m+k<=68719476736) (hb:i.bytes<=2048):
  ∃q,m+k<=q/\(Builtin.append_ ats ty args).run P w=.ok (.slice (some (at_ w.heap.size 0)) (m+k) q) (grown w (w.drawn+1) (us.toArray++vs.toArray++Builtin.zeroCells z.cells (q-(m+k))) e (0,0)):=by
 have C:(Question.appendCap (m+k) c e).forced=false:=rfl;have D:¬(((m+k:Nat):Int)>IntKind.i64.max):=by simp[IntKind.max,IntKind.signed,IntKind.bits];omega
 have E:¬(Builtin.nextslicecap (m+k) c*i.bytes>2^48):=by have h1:=nextslicecap_le (need:=m+k) (old:=c) (by omega);have l:Builtin.nextslicecap (m+k) c*i.bytes<=(2*68719476736)*2048:=Nat.mul_le_mul (by omega) hb;omega
 have F:(sizeOf e).run P w=.ok size w:=by simp[sizeOf,run_bind,run_typeInfo h,run_pure,s]
 have hzero:∀w:World,(zeroValue e).run P w=.ok z w:=by intro w;simp[zeroValue,run_bind,run_typeInfo h,run_pure,u]
 refine⟨m+k+w.tape w.drawn (.appendCap (m+k) c e)%(2^63-(m+k)),by omega,?_⟩;unfold Builtin.append_;rcases a with a|⟨n,a⟩
 all_goals
  simp only[o,h1,l,p,run_bind,run_underlying r,F,run_underlying a,run_pure];simp only[gq,fT,run_bind,hl,bd v,cR,if_true,D,false_and,run_typeInfo h,E,choose,Sem.run,C,Question.cut,run_askRoom,y,B,hzero];rfl
def Pz{t:U}{m:a8}{xs g:List t.D}{ac H:Value}{vs:List Value}{p l:ae}{ad L ty e:TypeId}{ats:Array TypeId}{args:Array Value}
  (M:ats[0]?=some ad) (h1:ats[1]?=some L) (z:args[0]?=some ac) (N:args[1]?=some H) (Q:P.underlying ad=some (.slice e)) (T:t.ok P e)
  (V:P.underlying L=some .string\/∃ay,P.underlying L=some (.slice ay)) (az:xs.length+g.length<=68719476736)
  (h:Inv w0 F0 Z0 n s a w ι Z) (W:s.o id=.none) (af:(U.sl t).al w Z (.O m) xs [ac] p) (I:cV (t.al w Z m) t.size g vs l) (B:bD w0 F0 s w ι Z p) (hb:bD w0 F0 s w ι Z l) (J:ae.apart p l)
  (hl:(Builtin.lenOf H).run P w=.ok g.length w) (C:∀d,(Builtin.firstCells t.size g.length H).run P { w with drawn:=d } = .ok vs.toArray { w with drawn:=d }):
  ∃u w' i,(Builtin.append_ ats ty args).run P w=.ok u w'/\Inv w0 F0 Z0 n (s.bA id (.row t m 0 (xs++g))) a w' (bF ι id i) Z/\cd w' Z (s.bA id (.row t m 0 (xs++g))) (bF ι id i) (.aa id none) u:=by
 obtain⟨A,c,us,rfl,hex,ah⟩:=zp (P:=P) af;obtain⟨i,aA,aB,aC,aD⟩:=T.info;have aE:(c8 t t.cD).cells.size=t.size:=by have:=congrArg List.length (uh t);rw[lu,U.kn]at this;exact this
 have aj:(Builtin.firstCells t.size g.length H).run P w=.ok vs.toArray w:=C w.drawn;have a5:(Builtin.firstCells t.size xs.length (.slice A xs.length c)).run P w=.ok us.toArray w:=ah w.drawn;have aF:=hex.len;have ak:=I.len;by_cases r:xs.length+g.length<=c
 ·
  have K:=af;simp only[U.al]at K;obtain⟨a6,c',hv,K⟩:=K;simp only[jI,Value.slice.injEq,fK,true_and]at hv;obtain⟨rfl,rfl⟩:=hv;rcases K with⟨rfl,rfl⟩|⟨⟨b,o,a7⟩,rfl,hr⟩
  ·have aG:g=[]:=lq (by simp at r;simpa using r);subst aG;have aH:vs=[]:=lq (by simpa using ak);subst aH;refine⟨.slice A 0 0,w,⟨none,0,ae.none⟩,?_,h.ze W (.inl ⟨rfl,rfl⟩) .none,?_⟩
   ·exact run_append_room M h1 z N Q (run_sizeOf T) V (bu 0) hl aj (fun a _=>rfl) (fun _=>rfl)
   ·refine⟨by show bF s.o id _ id≠_;rw[b6];simp,A,0,0,rfl,?_⟩;intro aI eV aJ et aK;have al:(bF s.o id (b9.row t m 0 ([]++[])) id).core=.row aI eV aJ et:=aK;rw[b6]at al;obtain⟨rfl,_,_,aL⟩:=b9.row.inj al;have:=eq_of_heq aL;subst this;exact⟨rfl,by simp[dz],bu _,by simp[dz],.inl rfl⟩
  ·have an:=hr.spot;simp only at an;subst an;obtain⟨G,aM,ao,X⟩:=hr.row;have hle:(xs.length+g.length)*t.size<=c*t.size:=c3 _ r;rw[jJ]at hle;have Y:∀j,j<vs.length->eS w b (o+xs.length*t.size+j):=fun j k=>by have:=(hr.wr (xs.length*t.size+j) (by omega)).1;rwa[<-dQ]at this
   have aq:bD w0 F0 s w ι Z (ae.run b o (c*t.size)):=B.sub (by
    rintro D o' ⟨rfl,h1,z⟩
    have:=hr.inF (o'-o) (by omega)
    rwa[show o +(o'-o)=o' by omega]at this)
   have aN:ae.apart G (ae.run b o (c*t.size)):=by
    rintro D o' y ⟨rfl,h1,z⟩
    have:=ao (o'-o) (by omega);exact this (by show G D (o +(o'-o));rw[show o +(o'-o)=o' by omega];exact y)
   have E:Ext w (setCells w b (o+xs.length*t.size) vs) (ae.run b o (c*t.size)):=lp b vs w _ (fun j k=>⟨rfl,by omega,by omega⟩);have hinv:=h.zo aq E;obtain⟨aO,ar,k2⟩:=aM.q5;have au:=ar.len;have av:∀F,bD w0 F0 s w ι Z F->ae.apart F (ae.run b o (c*t.size))->bS w (setCells w b (o+xs.length*t.size) vs) F:=fun F aQ aR=>bS.gw E (fun b o C=>(aQ.own b o C).2) aR
   have aw:bS w (setCells w b (o+xs.length*t.size) vs) Z:=bS.gw E h.hK (fun b o aT hs=>aq.cB b o hs aT);have aU:bD w0 F0 s w ι Z G:=B.sub X
   have aV:ae.apart l (ae.run b o (c*t.size)):=by
    rintro D o' aW ⟨rfl,h1,z⟩
    have:=hr.inF (o'-o) (by omega);exact J D o' (by have aX:p D (o +(o'-o)):=this;rwa[show o +(o'-o)=o' by omega]at aX) aW
   have aY:cV (t.al (setCells w b (o+xs.length*t.size) vs) Z m) t.size xs aO G:=ar.imp fun aZ us a0 hs hr=>U.al.same aw t m ((av G aU aN).mono hs) hr
   have a1:cV (t.al (setCells w b (o+xs.length*t.size) vs) Z m) t.size g vs l:=I.imp fun aZ us a0 hs hr=>U.al.same aw t m ((av l hb aV).mono hs) hr
   have a2:bD w0 F0 s (setCells w b (o+xs.length*t.size) vs) ι Z (p.or l):=(B.or hb).ext E;refine⟨.slice (some (at_ b o)) (xs.length+g.length) c,_,⟨some (at_ b o),c,p.or l⟩,?_,hinv.ze W ?_ a2,?_⟩
   ·have ax:=yY (P:=P) (b:=b) (o:=o+xs.length*t.size) vs w 0 (y0 I) (fun j k=>by simpa using Y j k);simp only[cz]at ax;refine run_append_room M h1 z N Q (run_sizeOf T) V r hl aj (fun a B=>?_) (fun h=>by simp at h);obtain rfl:=aS B;rw[show(⟨b,o,none⟩:Addr).add (xs.length*t.size)=at_ b (o+xs.length*t.size) from n5 _ _ _];exact ax
   ·refine .inr ⟨at_ b o,rfl,rfl,by simpa using r,fun j k=>(E.iz (hr.wr j k)),fun j k=>.inl (hr.inF j k),G.or l,?_,?_,fun b o h=>h.imp (X b o) (fun h=>h)⟩
    ·refine(aY.append a1 fun b o y C=>J b o (X b o y) C).row ?_;refine bV.append (k2.of_eq fun j k=>?_) ?_
     ·rw[au]at k;refine(t' b vs w _ (fun i a3=>(Y i a3).1) b (o+j)).trans (bd ?_);omega
     ·rw[au];exact Hl Y
    ·rintro j k (y|y)
     ·exact ao j k y
     ·exact J _ _ (hr.inF j k) y
   ·have:=wq (w:=setCells w b (o+xs.length*t.size) vs) (Z:=Z) (s:=s) (ι :=ι) (id:=id) (em:=m) (ver:=0) (xs:=xs++g) (A:=at_ b o) (c:=c) (F:=p.or l) rfl (by simpa using r);rw[bZ]at this;exact this
 ·
  obtain⟨q,ab,a4⟩:=run_append_grow (P:=P) (w:=w) (ty:=ty) M h1 z N Q aA aB aC V r hl ah C az aD
  have hn:=h.newRow W (hex.append I J) (B.or hb) (w.drawn+1) (us.toArray++vs.toArray++Builtin.zeroCells (c8 t t.cD).cells (q-(xs.length+g.length))) e (0,0) q (by
   intro j v hv;rw[Array.getElem?_append_left]
   ·simpa[<-List.getElem?_append]using hv
   ·rcases ff j (us++vs).length with h|h
    ·simpa using h
    ·rw[List.getElem?_eq_none h]at hv;simp at hv) (by simpa using ab) (by
   simp only[Array.size_append,List.size_toArray,GG,aE,aF,ak];rw[Nat.sub_mul,jJ];have:(xs.length+g.length)*t.size<=q*t.size:=c3 _ ab;rw[jJ]at this
   omega) (.inl rfl) (.inr rfl)
  refine⟨_,_,_,a4,hn,?_⟩;have:=wq (w:=grown w (w.drawn+1) (us.toArray++vs.toArray++Builtin.zeroCells (c8 t t.cD).cells (q-(xs.length+g.length))) e (0,0)) (Z:=Z) (s:=s) (ι :=ι) (id:=id) (em:=m) (ver:=0) (xs:=xs++g) (A:=at_ w.heap.size 0) (c:=q) (F:=(ae.run w.heap.size 0 (q*t.size)).or (p.or l)) rfl (by simpa using ab);rw[bZ]at this;exact this
def PA{ah:List Nat}{t:U}(g:fU P E)(a:tW E ah=some t):∃d b rest e,ah=d::b::rest/\P.underlying d=some (.slice e)/\t.ok P e/\(P.underlying b=some .string\/∃h,P.underlying b=some (.slice h)):=by
 unfold tW at a;split at a
 ·rename_i d b rest;split at a
  ·rename_i t1 m h1 i;obtain rfl:=aS a;obtain⟨e,j,k⟩:=j2 (g.ty _ _ h1);obtain⟨h,l,_⟩:=j2 (g.ty _ _ i);exact⟨d,b,rest,e,rfl,j,k,.inr ⟨h,l⟩⟩
  ·rename_i t1 h1 i;obtain rfl:=aS a;obtain⟨e,j,k⟩:=j2 (g.ty _ _ h1);exact⟨d,b,rest,e,rfl,j,k,.inl (uj (g.ty _ _ i))⟩
  ·simp at a
 ·simp at a
def HF{t:U}{u:Value}{c:a7}{x:aY}(a:oneCell t x=some c)(hr:aR w Z s ι x u):cd w Z s ι c u:=by
 cases x<;>simp only[oneCell]at a<;>try (simp at a;done)
 ·obtain rfl:=aS a;simpa only[aR]using hr
 ·obtain rfl:=aS a;simp only[aR]at hr;exact hr
def Zv{c:Call}(D:fU P E)(h:Inv w0 F0 Z0 n s a w ι Z)(aa:∀k,o.dst=some k->k<n)(z:o.op=.call c)(hb:c.callee=.builtin .append)(hk:cK E id o s K=some r):
  ∃an,K an=some r/\o.wp P a w (cO w0 F0 Z0 n an) Q:=by
 unfold cK at hk;rw[z]at hk;simp only[hb]at hk;have d:=rr h c.args.toList;have A:(c.args.map a.eval).toList=c.args.toList.map a.eval:=by simp
 generalize hl:c.args.toList.map (bP s)=l at hk d
 match l,hk,d with
 | [],hk,_=>simp[jm]at hk
 | [_],hk,_=>simp[jm]at hk
 |_::_::_::_,hk,_=>simp[jm]at hk
 | [F,G],hk,d=>
  simp only[jm]at hk;simp only[aX]at d;obtain⟨aI,_,he,H,aJ,_,rfl,I,rfl⟩:=d
  cases i:tW E c.argTypes.toList with
  |none=>rw[i]at hk;simp at hk
  |some t=>
   rw[i]at hk;simp only at hk;obtain⟨aK,aL,rest,e,B,J,L,M⟩:=PA D i
   cases g:oneCell t F with
   |none=>rw[g]at hk;simp at hk
   |some N=>
    cases m:oneCell t G with
    |none=>rw[g,m]at hk;simp at hk
    |some T=>
      rw[g,m]at hk;simp only[OK]at hk;have U:=HF g H;have V:=HF m I
      cases p:added s t T with
      |none=>rw[p]at hk;simp at hk
      |some q=>
       obtain⟨W,X,Y⟩:=q;rw[p]at hk;simp only at hk;obtain⟨vs,aM,hlen,ab,ac,h1,ad,C⟩:=Px (P:=P) p h V
       cases u:taken Y t N with
       |none=>rw[u]at hk;simp at hk
       |some q=>
        obtain⟨ae,xs,af⟩:=q;rw[u]at hk;simp only at hk;obtain⟨aN,ah,aj,ak,al,ao⟩:=Py u h1 (U.move ad.d')
        cases y:mkObj af id (.row t (meet ae W) 0 (xs++X))with
        |none=>rw[y]at hk;simp at hk
        |some aO=>
         rw[y]at hk;obtain⟨aq,ar⟩:=pQ hk;clear hk;obtain⟨au,rfl⟩:=n_ y
         obtain⟨bK,aQ,aS,av,_,aw,ax,ay,az,aA⟩:=Zu aj ah ac al (C.shrink ak) (by
          intro b o aB aC;obtain⟨j,aD,aE⟩:=ao b o aB
          exact C.apart j aD b o aC aE)
         obtain⟨aF,w',a',aG,hinv,aH⟩:=Pz (P:=P) (id:=id) (ty:=o.type) (ats:=c.argTypes) (args:=c.args.map a.eval) (by rw[<-Array.getElem?_toList,B];rfl) (by rw[<-Array.getElem?_toList,B];rfl)
          (by rw[<-Array.getElem?_toList,A,he];rfl) (by rw[<-Array.getElem?_toList,A,he];rfl) J L M (fc aq) av au aw ax ay az aA hlen ab
         refine⟨_,ar,ko (v:=aF) (w':=w') ?_ hinv (by simp only[aR];exact aH) aa⟩;unfold execOp;rw[z];simp only[run_bind,resolve,hb,run_pure,invoke];unfold builtin;exact e8 aG
def cV.cut{α:Type}{R:α->List Value->ae->Prop}{size:Nat}:∀{xs:List α}{vs:List Value}{F:ae} (k:Nat),cV R size xs vs F->cV R size (xs.take k) (vs.take (k*size)) F/\cV R size (xs.drop k) (vs.drop (k*size)) F
 |xs,vs,F,0,h=>by simp only[Nat.zero_mul,List.take_zero,gV];exact⟨rfl,h⟩
 | [],vs,F,k+1,h=>by simp only[cV]at h;subst h;simp[cV]
 |x::xs,vs,F,k+1,⟨us,ah,G,H,h1,d,a,g,i,j,b⟩=>by
  obtain⟨p,q⟩:=cV.cut k g;subst h1;have e:(k+1)*size=us.length+k*size:=by rw[de,a];omega
  refine⟨⟨us,ah.take (k*size),G,H,?_,d,a,p,i,j,b⟩,?_⟩
  ·rw[e,List.take_length_add_append]
  ·rw[e,List.drop_length_add_append];exact q.mono b
def Zw(us:List Value)(z:Array Value)(a:z.toList=us)(n:Nat):(Builtin.zeroCells z n).toList=(List.replicate n us).flatten:=by
 have hl:(Builtin.zeroCells z n).toList.length=(List.replicate n us).flatten.length:=by rw[lu,GG];subst a;simp
 refine List.ext_getElem? fun j=>?_
 cases b:(List.replicate n us).flatten[j]? with
 |none=>rw[List.getElem?_eq_none_iff]at b⊢;omega
 |some v=>have:=Hz (z:=z) (m:=n*z.size) us n a (by subst a;simp) v b;rw[Array.getElem?_toList];exact this
def Inv.rewrite(h:Inv w0 F0 Z0 n s a w ι Z){id:Nat}{t:U}{em:a8}{ver:Nat}{xs et:List t.D}(i:s.o id=.row t em ver xs)(hl:xs.length=et.length)(l:Ext w w' (ι id).F)
  (v:d_ w Z s ι w' Z (s.bA id (.row t em (ver+1) et)) ι->gd w' Z (s.bA id (.row t em (ver+1) et)) ι (ι id) (.row t em (ver+1) et)):Inv w0 F0 Z0 n (s.bA id (.row t em (ver+1) et)) a w' ι Z:=by
 have e:(s.o id).live:=by rw[i];trivial
 let o':b9:=.row t em (ver+1) et
 have hm:d_ w Z s ι w' Z (s.bA id o') ι :=by
  refine⟨fun j=>?_,fun _ _ h=>h,bS.gw l h.pN ?_⟩
  ·show gf (s.o j) (ι j) (bF s.o id o' j) (ι j);by_cases d:id=j
   ·subst d;rw[b6,i];exact .row _ _ _ _ _ _ _ _ _ (by omega) (by omega) rfl rfl
   ·rw[ca d];exact .stay _ _
  ·rintro b o (y|⟨dR,m,z,_,g⟩) q
   ·exact h.cB id e b o q y
   ·have p:dR≠id:=by
     rintro rfl
     have:bF s.o dR o' dR=s.o dR:=z;rw[b6,i]at this;injection this with h1 A B
     omega
    exact h.apart dR id m e p b o g q
 have r:∀{j},id≠j->((s.bA id o').o j).live->(s.o j).live:=fun d hl=>by have:(bF s.o id o' _).live:=hl;rwa[ca d]at this
 refine h.next hm l (fun b o g=>(h.own id e b o g).1) (fun _ _ h=>.inl h) ?_ ?_ (fun k=>(h.tmps k).move hm) h.size h.defers
 ·intro j hl p;by_cases d:id=j
  ·subst d;refine⟨?_,fun b o g=>⟨(h.own _ e b o g).1,jW (h.own _ e b o g).2 l.size⟩,fun dR m u=>h.apart id dR e (r u m) u⟩;show gd _ _ _ _ _ (bF s.o id o' id);rw[b6];exact v hm
  ·exact absurd ⟨ca d,rfl⟩ p
 ·intro j hl;by_cases d:id=j
  ·subst d;exact h.cB _ e
  ·exact h.cB j (r d hl)
def Zx{t e ty:TypeId}{T:U}{A:Option Addr}{k c:Nat}(a:P.underlying t=some (.slice e))(h:T.ok P e){b o:Nat}(n:0<k->A=some (at_ b o))(p:∀j,j<k*T.size->eS w b (o+j)):
  (Builtin.clear_ #[t] ty #[.slice A k c]).run P w=.ok (.tuple #[]) (setCells w b o (List.replicate k T.cD).flatten):=by
 rcases l_ k with rfl|hk
 ·unfold Builtin.clear_;cases A<;>(simp only[List.getElem?_toArray,List.getElem?_cons_zero,run_bind,run_underlying a];rfl)
 ·rw[n hk];obtain⟨m,rfl⟩:∃m,k=m+1:=⟨k-1,by omega⟩
  have hc:=Zw T.cD (c8 T T.cD).cells (uh T) (m+1);have h1:∀v∈(List.replicate (m+1) T.cD).flatten,dD v=true:=by intro v hv;rw[List.mem_flatten]at hv;obtain⟨l,h1,d⟩:=hv;rw[(List.mem_replicate.1 h1).2]at d;exact((pP (w:=default) (Z:=ae.none) (s:=⟨fun _=>.bf,fun _=>.none,[]⟩) (ι :=fun _=>⟨none,0,ae.none⟩) T).dD) v d
  have g:=yY (P:=P) (b:=b) (o:=o) _ w 0 h1 (fun i q=>by
   have:=p i (by simpa[U.kn]using q)
   simpa using this)
  unfold Builtin.clear_;simp only[List.getElem?_toArray,List.getElem?_cons_zero,run_bind,run_underlying a,zg h,hc];simp only[cz]at g;rw[g];rfl
def Zy{c:Call}(aj:fU P E)(h:Inv w0 F0 Z0 n s a w ι Z)(aa:∀k,o.dst=some k->k<n)(N:o.op=.call c)(hb:c.callee=.builtin .clear)(hk:cK E id o s K=some r):
  ∃an,K an=some r/\o.wp P a w (cO w0 F0 Z0 n an) Q:=by
 unfold cK at hk;rw[N]at hk;simp only[hb]at hk;have z:=rr h c.args.toList;have ak:(c.args.map a.eval).toList=c.args.toList.map a.eval:=by simp
 generalize hl:c.args.toList.map (bP s)=l at hk z
 match l,hk,z with
 | [.aP (.aa i sub)],hk,z=>
  simp only[jm]at hk
  cases J:c.argTypes.toList with
  |nil=>rw[J]at hk;simp at hk
  |cons t ah=>
   rw[J]at hk;simp only at hk
   cases ht:E.ty t with
   |none=>rw[ht]at hk;simp at hk
   |some T=>
    cases u:s.o i with
    |row v em ver xs=>
     rw[ht,u]at hk
     cases T with
     |sl d=>
      simp only at hk;cases y:(U.beq d v&&v.flat)
      ·rw[y]at hk;simp at hk
      rw[y]at hk;simp only[au]at hk;simp only[bs]at y;obtain⟨y,L⟩:=y;have:=U.eq_of_beq _ _ y;subst this;simp only[aX,aR]at z;obtain⟨aM,us,he,⟨aN,A,k,C,rfl,al⟩,rfl⟩:=z;obtain⟨e,ao,aq⟩:=j2 (aj.ty _ _ ht);have hr:=al d em ver xs (kk u);obtain⟨ck,V,aO,aQ,D⟩:=hr
      have ar:k=iF sub xs:=by
       rw[ck];cases sub with
       |none=>rfl
       |some p=>rfl
      rw[<-ar]at hk;generalize aT:dz sub=g at *;have av:(c.args.map a.eval) = #[.slice A k C]:=by apply Array.ext';rw[ak,he]
      have aw:c.argTypes[0]?=some t:=by rw[<-Array.getElem?_toList,J];rfl
      have hlen:xs.length=(xs.take g++List.replicate k d.zero++xs.drop (g+k)).length:=by simp;omega
      have W:=h.eU i;rw[u]at W
      have ax:∃(b H:Nat),(0<k->A=some (at_ b H))/\(∀j,j<k*d.size->eS w b (H+j))/\Inv w0 F0 Z0 n (s.bA i (.row d em (ver+1) (xs.take g++List.replicate k d.zero++xs.drop (g+k)))) a (setCells w b H (List.replicate k d.cD).flatten) ι Z:=by
       rcases W with⟨h1,ay⟩|⟨m,X,q⟩
       ·have Y:k=0:=by rw[h1]at V;simp at V;omega
        subst Y;refine⟨0,0,fun h=>by omega,fun j I=>by omega,?_⟩;refine h.rewrite u hlen (Ext.refl _ _) fun _=>?_
        exact .inl ⟨by rw[h1];simp,ay⟩
       ·have hle:(g+k)*d.size<=(ι i).cap*d.size:=c3 _ (by have:=q.cap;omega);rw[jJ]at hle;have az:∀j,j<k*d.size->eS w m.block (m.off+g*d.size+j):=fun j I=>by have:=(q.wr (g*d.size+j) (by omega)).1;rwa[<-dQ]at this
        have ab:(List.replicate k d.cD).flatten.length=k*d.size:=by simp[U.kn]
        have ac:Ext w (setCells w m.block (m.off+g*d.size) (List.replicate k d.cD).flatten) (ι i).F:=lp _ _ _ _ fun j I=>by have:=q.inF (g*d.size+j) (by omega);rwa[<-dQ]at this
        refine⟨m.block,m.off+g*d.size,fun Y=>?_,az,h.rewrite u hlen ac fun _=>.inr ⟨m,X,q.spot,by rw[<-hlen];exact q.cap,fun j I=>ac.iz (q.wr j I),q.inF,ae.none,?_,fun _ _ h=>h,fun _ _ h=>h.elim⟩⟩
        ·rcases D with D|⟨aU,ad,D⟩
         ·omega
         ·rw[X]at ad;obtain rfl:=aS ad;exact D
        ·obtain⟨G,aA,aV,aW⟩:=q.row;obtain⟨us,B,aB⟩:=Row.q5 aA;have B:cV (d.al (setCells w m.block (m.off+g*d.size) (List.replicate k d.cD).flatten) Z em) d.size xs us ae.none:=B.bare fun aC us aY _ M=>py d (F:=ae.none) L (U.al.same (Z:=ae.none) (fun _ _ h=>h.elim) d em (F:=ae.none) (fun _ _ h=>h.elim) (py d L M))
         have aD:=B.len
         have aE:=px (k:=g*d.size) (vs:=(List.replicate k d.cD).flatten) aB (fun i af=>(q.wr i (by
          have:xs.length*d.size<=(ι _).cap*d.size:=c3 _ q.cap
          omega)).1) (by
          rw[ab,aD,<-jJ];exact c3 _ (by omega))
         refine cV.row ?_ aE;have aF:=(B.cut g).1;have aG:=(B.cut (g+k)).2;have aH:=cV.replicate (R:=d.al (setCells w m.block (m.off+g*d.size) (List.replicate k d.cD).flatten) Z em) (Hy d em) (U.kn d) k;have:=((aF.append aH fun _ _ h _=>h.elim).append aG fun _ _ _ h=>h.elim);unfold c9;rw[ab,<-jJ];refine this.bare fun aC us G _ M=>py d L M
      obtain⟨b,H,aI,aJ,af⟩:=ax;refine⟨_,hk,ko (v:=.tuple #[]) ?_ af (by simp only[aR,aX];exact⟨[],rfl,rfl⟩) aa⟩;unfold execOp;rw[N];simp only[run_bind,resolve,hb,run_pure,invoke];unfold builtin;refine e8 ?_;have aK:=Zx (P:=P) (w:=w) (ty:=o.type) (c:=C) ao aq aI aJ;rw[av];have aL:Builtin.clear_ c.argTypes o.type #[.slice A k C]=Builtin.clear_ #[t] o.type #[.slice A k C]:=by unfold Builtin.clear_;rw[aw];rfl
      rw[aL];exact aK
     |_=>simp at hk
    |_=>rw[ht,u]at hk;cases T<;>simp at hk
 | [],hk,_=>simp[jm]at hk
 |_::_::_,hk,_=>simp[jm]at hk
 | [.bf],hk,_| [.hJ _],hk,_| [.ptr _],hk,_| [.c2 _ _ _],hk,_| [.jl],hk,_| [.jX],hk,_| [.opt _ _],hk,_| [.may _ _ _],hk,_| [.pB _],hk,_| [.fn _ _ _],hk,_| [.mZ _],hk,_=>simp[jm]at hk
 | [.aP (.int _ _)],hk,_| [.aP (.bool _)],hk,_| [.aP (.str _)],hk,_| [.aP (.nil _)],hk,_| [.aP (.bq _ _ _ _)],hk,_=>simp[jm]at hk
end
end Go.LM
namespace Go.LM
def Row.uk{α:Type}{w:World}{R:α->List Value->ae->Prop}{size:Nat}:∀{x:List α}{b o:Nat}{F:ae} (i:Nat) (r:i<x.length),Row w R size x b o F →
  ∃a d g vs,Row w R size (x.take i) b o a/\R x[i] vs d/\vs.length=size/\bV w b (o+i*size) vs/\Row w R size (x.drop (i+1)) b (o +(i+1)*size) g ∧
   ae.apart a d/\ae.apart a g/\ae.apart d g/\ae.sub a F/\ae.sub d F/\ae.sub g F
 |s::x,b,o,F,0,_,⟨vs,G,H,h1,m,n,p,j,q,l⟩=>⟨ae.none,G,H,vs,trivial,h1,m,by simpa using n,by simpa using p,fun _ _ h=>h.elim,fun _ _ h=>h.elim,j,fun _ _ h=>h.elim,q,l⟩
 |s::x,b,o,F,i+1,r,⟨vs,G,H,h1,m,n,p,j,q,l⟩=>by
  obtain⟨a,d,g,us,u,k2,k3,aZ,a_,c7,dE,cE,fk,c4,cn⟩:=Row.uk i (by simpa using r) p;refine⟨G.or a,d,g,us,⟨vs,G,a,h1,m,n,u,fun b o h k=>j b o h (fk b o k),fun _ _ h=>.inl h,fun _ _ h=>.inr h⟩,k2,k3,?_,?_,?_,?_,cE,?_,fun b o h=>l b o (c4 b o h),fun b o h=>l b o (cn b o h)⟩
  ·rwa[show o +(i+1)*size=o+size+i*size by rw[de];omega]
  ·have e:o +(i+1+1)*size=o+size +(i+1)*size:=by rw[de (i+1)];omega
   rw[e];exact a_
  ·rintro b o (h|h) k
   ·exact j b o h (c4 b o k)
   ·exact c7 b o h k
  ·rintro b o (h|h) k
   ·exact j b o h (cn b o k)
   ·exact dE b o h k
  ·rintro b o (h|h)
   ·exact q b o h
   ·exact l b o (fk b o h)
def Row.um{α:Type}{w:World}{R:α->List Value->ae->Prop}{size:Nat}{y:α}{vs:List Value}{e:ae}:∀{x:List α}{b o:Nat}{d a:ae} (i:Nat),i<x.length->Row w R size (x.take i) b o d->R y vs e->vs.length=size →
  bV w b (o+i*size) vs->Row w R size (x.drop (i+1)) b (o +(i+1)*size) a->ae.apart d e->ae.apart d a->ae.apart e a->Row w R size (x.set i y) b o (d.or (e.or a))
 | [],_,_,_,_,_,g,_,_,_,_,_,_,_,_=>by simp at g
 |z::x,b,o,d,a,0,_,_,j,k,q,l,_,_,m=>⟨vs,e,a,j,k,by simpa using q,by simpa using l,m,fun _ _ h=>.inr (.inl h),fun _ _ h=>.inr (.inr h)⟩
 |z::x,b,o,d,a,i+1,g,⟨u,A,B,v,C,D,E,F,n,p⟩,j,k,q,l,r,s,m=>by
  have G:o +(i+1)*size=o+size+i*size:=by rw[de];omega
  have H:o +(i+1+1)*size=o+size +(i+1)*size:=by rw[de (i+1)];omega
  have:=Row.um i (by simpa using g) E j k (by rwa[<-G]) (by rw[<-H];exact l) (fun b o x y=>r b o (p b o x) y) (fun b o x y=>s b o (p b o x) y) m;refine⟨u,A,_,v,C,D,this,?_,fun b o h=>.inl (n b o h),?_⟩
  ·rintro b o x (y|y|y)
   ·exact F b o x y
   ·exact r b o (n b o x) y
   ·exact s b o (n b o x) y
  ·rintro b o (y|y|y)
   ·exact .inl (p b o y)
   ·exact .inr (.inl y)
   ·exact .inr (.inr y)
mutual
def U.uo:∀(T:U) {off:Nat}{t:U}{x:T.D}{z:List t.D},T.flat=true->T.getAt off t x=some z->False
 |.int _,_,_,_,_,_,h=>by simp[U.getAt]at h
 |.bool,_,_,_,_,_,h=>by simp[U.getAt]at h
 |.str,_,_,_,_,_,h=>by simp[U.getAt]at h
 |.raw,_,_,_,_,_,h=>by simp[U.getAt]at h
 |.sl t,_,_,_,_,a,_=>by simp[U.flat]at a
 |.st ah,_,_,_,_,a,h=>aw.uo ah (by simpa only[U.flat]using a) (by simpa only[U.getAt]using h)
def aw.uo:∀(ah:aw) {off:Nat}{t:U}{x:ah.D}{z:List t.D},ah.flat=true->ah.getAt off t x=some z->False
 |.nil,_,_,_,_,_,h=>by simp[aw.getAt]at h
 |.cons T ah,off,t,x,z,a,h=>by
  simp only[aw.flat]at a;cases h1:T.flat
  ·rw[h1]at a;cases a
  rw[h1]at a;simp only[aw.getAt]at h;cases hb:Nat.blt off T.size
  ·rw[hb]at h;exact aw.uo ah a h
  ·rw[hb]at h;exact U.uo T h1 h
end
section
variable{w b5:World}{Z bK:ae}
def oa(t:U){x:t.D}{vs:List Value}{F:ae}(a:bS w b5 F)(h:t.al w Z t.own x vs F):t.al b5 bK t.own x vs F:=
 rn t (U.al.same (Z:=ae.none) (fun _ _ h=>h.elim) t t.own a (rn t h))
def PB(t:aw){x:t.D}{vs:List Value}{F:ae}(a:bS w b5 F)(h:t.al w Z t.own x vs F):t.al b5 bK t.own x vs F:=
 zc t (aw.al.same (Z:=ae.none) (fun _ _ h=>h.elim) t t.own a (zc t h))
def PC(w:World)(Z:ae)(t:U)(z:List t.D)(v:Value)(H1 a:ae)(R:World->ae->List t.D->ae->Prop):Prop:=
 (U.sl t).al w Z (.O t.own) z [v] H1/\ae.apart H1 a/\∀(b5:World) (bK b:ae) (d:List t.D),bS w b5 a->(U.sl t).al b5 bK (.O t.own) d [v] b->ae.apart b a->R b5 bK d (b.or a)
mutual
def U.lens:∀(T:U) (off:Nat) (t:U) {x:T.D}{z:List t.D}{us:List Value}{G:ae},T.al w Z T.own x us G->T.getAt off t x=some z →
  ∃v H1 a,us[off]?=some v/\ae.sub H1 G/\ae.sub a G/\PC w Z t z v H1 a (fun b5 bK y u=>∀d,T.setAt off t y x=some d->T.al b5 bK T.own d us u)
 |.int _,_,_,_,_,_,_,_,h=>by simp[U.getAt]at h
 |.bool,_,_,_,_,_,_,_,h=>by simp[U.getAt]at h
 |.str,_,_,_,_,_,_,_,h=>by simp[U.getAt]at h
 |.raw,_,_,_,_,_,_,_,h=>by simp[U.getAt]at h
 |.sl F,off,t,x,z,us,G,hr,h=>by
  simp only[U.getAt]at h;cases hb:Nat.beq off 0
  ·rw[hb]at h;cases h
  rw[hb]at h;obtain rfl:=cG hb;obtain⟨e,rfl⟩:=gx h;subst e;have N:=hr;simp only[U.own,U.al]at hr;obtain⟨A,c,rfl,_⟩:=hr;refine⟨_,G,ae.none,rfl,fun _ _ h=>h,fun _ _ h=>h.elim,N,fun _ _ _ h=>h.elim,fun b5 bK i y _ g _ d hs=>?_⟩;simp only[U.setAt]at hs;obtain⟨e,rfl⟩:=gx (show ej (.sl F) (.sl F) y=some d from hs);exact U.al.mono (fun _ _ h=>h) _ _ (fun _ _ h=>.inl h) g
 |.st ah,off,t,x,z,us,G,hr,h=>by
  have H:ah.flat=false:=by
   cases P:ah.flat
   ·rfl
   ·exact(U.uo (.st ah) (by simpa only[U.flat]using P) h).elim
  simp only[U.own,H,gq,fT,U.al,a8.parts]at hr;simp only[U.getAt]at h;obtain⟨v,H1,a,h1,g,j,m,n,r⟩:=aw.lens ah off t hr h;refine⟨v,H1,a,h1,g,j,m,n,fun b5 bK i y k k2 k3 d hs=>?_⟩;simp only[U.setAt]at hs;simp only[U.own,H,gq,fT,U.al,a8.parts];exact r b5 bK i y k k2 k3 d hs
def aw.lens:∀(ah:aw) (off:Nat) (t:U) {x:ah.D}{z:List t.D}{us:List Value}{G:ae},ah.al w Z ah.own x us G->ah.getAt off t x=some z →
  ∃v H1 a,us[off]?=some v/\ae.sub H1 G/\ae.sub a G/\PC w Z t z v H1 a (fun b5 bK y u=>∀d,ah.setAt off t y x=some d->ah.al b5 bK ah.own d us u)
 |.nil,_,_,_,_,_,_,_,h=>by simp[aw.getAt]at h
 |.cons T ah,off,t,x,z,us,G,hr,h=>by
  simp only[aw.own,aw.al,cA.aa,cA.dq]at hr;obtain⟨I,J,K,L,rfl,B,M,s,C,hb⟩:=hr;have hl:=(U.al.len T _ B).1;simp only[aw.getAt]at h;cases l:Nat.blt off T.size
  ·rw[l]at h
   have Q:T.size<=off:=by
    rcases ff off T.size with h1|h1
    ·have:Nat.blt off T.size=true:=Nat.ble_eq_true_of_le h1;rw[this]at l;cases l
    ·exact h1
   obtain⟨v,H1,a,h1,g,j,m,n,r⟩:=aw.lens ah (off-T.size) t M h;refine⟨v,H1,K.or a,?_,fun b o x=>hb b o (g b o x),?_,m,?_,fun b5 bK i y k k2 k3 d hs=>?_⟩
   ·rw[List.getElem?_append_right (by omega),hl];exact h1
   ·rintro b o (y|y)
    ·exact C b o y
    ·exact hb b o (j b o y)
   ·rintro b o y (q|q)
    ·exact s b o q (g b o y)
    ·exact n b o y q
   ·simp only[aw.setAt,l,ay]at hs;obtain⟨D,E,hs⟩:=a6 hs;obtain rfl:=aS hs;simp only[aw.own,aw.al,cA.aa,cA.dq];refine⟨I,J,K,i.or a,rfl,oa T (k.mono fun _ _ h=>.inl h) B,r b5 bK i y (k.mono fun _ _ h=>.inr h) k2 (fun b o p q=>k3 b o p (.inr q)) D E,?_,fun _ _ h=>.inr (.inl h),?_⟩
    ·rintro b o p (q|q)
     ·exact k3 b o q (.inl p)
     ·exact s b o p (j b o q)
    ·rintro b o (q|q)
     ·exact .inl q
     ·exact .inr (.inr q)
  ·rw[l]at h;have Q:off<T.size:=fc l;obtain⟨v,H1,a,h1,g,j,m,n,r⟩:=U.lens T off t B h;refine⟨v,H1,a.or L,?_,fun b o x=>C b o (g b o x),?_,m,?_,fun b5 bK i y k k2 k3 d hs=>?_⟩
   ·rw[List.getElem?_append_left (by omega)];exact h1
   ·rintro b o (y|y)
    ·exact C b o (j b o y)
    ·exact hb b o y
   ·rintro b o y (q|q)
    ·exact n b o y q
    ·exact s b o (g b o y) q
   ·simp only[aw.setAt,l,au]at hs;obtain⟨D,E,hs⟩:=a6 hs;obtain rfl:=aS hs;simp only[aw.own,aw.al,cA.aa,cA.dq];refine⟨I,J,i.or a,L,rfl,r b5 bK i y (k.mono fun _ _ h=>.inl h) k2 (fun b o p q=>k3 b o p (.inl q)) D E,PB ah (k.mono fun _ _ h=>.inr h) M,?_,?_,fun _ _ h=>.inr (.inr h)⟩
    ·rintro b o (p|p) q
     ·exact k3 b o p (.inr q)
     ·exact s b o (j b o p) q
    ·rintro b o (q|q)
     ·exact .inl q
     ·exact .inr (.inl q)
end
def iA.lens{T:U}{e:List T.D}{a:Addr}{c:Nat}{F:ae}{i off:Nat}{t:U}{z:List t.D}(h:iA w (T.al w Z T.own) T.size e a c F)(g:i<e.length)(J:T.getAt off t (I T e i)=some z):
  ∃v H1,w.cell? (at_ a.block (a.off+i*T.size+off))=some v/\(U.sl t).al w Z (.O t.own) z [v] H1/\ae.sub H1 F ∧
   ∀(b5:World) (bK X:ae) (y:List t.D) (k:T.D),bS w b5 (ae.diff F H1)->(U.sl t).al b5 bK (.O t.own) y [v] X->ae.apart X (ae.diff F H1)->T.setAt off t y (I T e i)=some k →
    iA b5 (T.al b5 bK T.own) T.size (e.set i k) a c (X.or (ae.diff F H1)):=by
 rw[cC g]at J⊢;obtain⟨G,ac,l,K⟩:=h.row;obtain⟨L,au,M,vs,ad,af,ah,N,aj,P,ak,Q,V,r,W⟩:=ac.uk i g;obtain⟨v,H1,Y,hv,s,k2,k3,aZ,a_⟩:=U.lens T off t af J;have ab:ae.sub H1 G:=fun b o x=>r b o (s b o x)
 have hle:e.length*T.size<=c*T.size:=c3 _ h.cap;have al:(i+1)*T.size<=e.length*T.size:=c3 _ g;rw[de]at al;refine⟨v,H1,?_,k3,fun b o x=>K b o (ab b o x),fun b5 bK X y k hs hr m an=>?_⟩
 ·have:=N off v hv;exact this
 have u:∀{A:ae},ae.sub A G->ae.apart A H1->ae.sub A (ae.diff F H1):=fun ao ai b o x=>⟨K b o (ao b o x),fun y=>ai b o x y⟩
 have B:ae.sub L (ae.diff F H1):=u V fun b o x y=>P b o x (s b o y)
 have C:ae.sub M (ae.diff F H1):=u W fun b o x y=>Q b o (s b o y) x
 have D:ae.sub Y (ae.diff F H1):=u (fun b o x=>r b o (k2 b o x)) fun b o x y=>aZ b o y x
 have n:∀j,j<c*T.size->ae.diff F H1 a.block (a.off+j):=fun j d=>⟨h.inF j d,fun y=>l j d (ab _ _ y)⟩
 have E:∀j,j<c*T.size->b5.cell? (at_ a.block (a.off+j))=w.cell? (at_ a.block (a.off+j)):=fun j d=>(hs _ _ (n j d)).1
 have eH:=a_ b5 bK X y (hs.mono D) hr (fun b o p q=>m b o p (D b o q)) k an;refine⟨h.spot,by simpa using h.cap,fun j d=>hs.iz (n j d) (h.wr j d),fun j d=>.inr (n j d),L.or ((X.or Y).or M),?_,?_,?_⟩
 ·refine Row.um i g (ad.imp (fun y us aq H hr=>oa T (hs.mono fun b o p=>B b o (H b o p)) hr) fun j d=>E j ?_) eH ah (N.of_eq fun j d=>?_) (aj.imp (fun y us aq H hr=>oa T (hs.mono fun b o p=>C b o (H b o p)) hr) fun j d=>?_) ?_ ak ?_
  ·simp only[dX]at d;have:min i e.length*T.size<=e.length*T.size:=c3 _ (Nat.min_le_right _ _);omega
  ·have:=E (i*T.size+j) (by omega);rwa[<-dQ]at this
  ·simp only[fS]at d;have ar:(e.length-(i+1))*T.size=e.length*T.size-(i*T.size+T.size):=by rw[Nat.sub_mul,de]
   rw[ar]at d;have:=E ((i+1)*T.size+j) (by rw[de];omega);rwa[<-dQ]at this
  ·rintro b o p (q|q)
   ·exact m b o q (B b o p)
   ·exact P b o p (k2 b o q)
  ·rintro b o (p|p) q
   ·exact m b o p (C b o q)
   ·exact Q b o (k2 b o p) q
 ·rintro j d (p|(p|p)|p)
  ·exact l j d (V _ _ p)
  ·exact m _ _ p (n j d)
  ·exact l j d (r _ _ (k2 _ _ p))
  ·exact l j d (W _ _ p)
 ·rintro b o (p|(p|p)|p)
  ·exact .inr (B b o p)
  ·exact .inl p
  ·exact .inr (D b o p)
  ·exact .inr (C b o p)
end
end Go.LM
